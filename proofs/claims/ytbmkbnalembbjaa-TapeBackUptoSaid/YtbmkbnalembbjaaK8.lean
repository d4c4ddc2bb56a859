/-
  Texts joined: PlanGapsFn SlideFn SlideClean StoreLaw.
-/
import Derived.Deep.RegionHeld3
import Derived.Deep.QuietTactic
import Derived.BigQuiet
import Derived.Test.YtbmkbnalembbjaaK2
import Derived.Test.YtbmkbnalembbjaaK3
import Derived.Test.YtbmkbnalembbjaaK5
import Derived.Test.YtbmkbnalembbjaaK6
import Derived.Test.YtbmkbnalembbjaaK7
namespace Go.Proofs.Ytbmkbnalembbjaa
open Go.RowKit
def Else (w w' : World) (g : Nat) (row : Option Nat) : Prop := w.heap.size ≤ w'.heap.size ∧ ∀ k, k < w.heap.size → k ≠ g → row ≠ some k → w'.heap[k]? = w.heap[k]?
def addG (acc : List Rn) (e x : Int) : List Rn := if e < x then acc ++ [⟨e, x - e⟩] else acc
end Go.Proofs.Ytbmkbnalembbjaa

namespace Go.Proofs.Ytbmkbnalembbjaa
open Go.RowKit
def slidW (a keep pinned : List Int) : List Int := chunksW (laidC a.length 0 (rowsOf a keep (slidGo pinned 0 keep (longsV a keep pinned))))
end Go.Proofs.Ytbmkbnalembbjaa

namespace Go.Proofs.Ytbmkbnalembbjaa
open Go.RowKit
def CleanOk (a f p : List Int) : Prop := checkE a = 0 ∧ (∀ x ∈ f ++ p, x ∈ begsL (spotsL a)) ∧ risesP p = true
theorem pairwise_rises : ∀ {l : List Int}, l.Pairwise (· < ·) → risesP l = true
  | [], _ => rfl
  | [_], _ => rfl
  | x :: y :: t, h => by
    obtain ⟨h1, h2⟩ := List.pairwise_cons.1 h
    simp only [risesP, Bool.and_eq_true, decide_eq_true_eq]
    exact ⟨h1 y List.mem_cons_self, pairwise_rises h2⟩
theorem reached_rises {a f L : List Int} {S : List Spot} (h : Reached a S f L) : risesP L = true := by
  refine pairwise_rises ?_
  have h1 := h.sorted
  have h2 := List.nodup_iff_pairwise_ne.1 h.once
  exact (List.Pairwise.and h1 h2).imp (fun ⟨h, h'⟩ => by omega)
theorem reached_closed {a f L : List Int} (h0 : checkE a = 0) (h : Reached a (spotsL a) f L) : ClosedL a L :=
  ⟨h.begs, h.closed, fun x hx => (begsL_bounds (checkE_ok.1 h0).1 x (h.begs x hx)).1⟩
structure CleanIs (a f p L Y b now : List Int) : Prop where
  check : checkE a = 0
  rises : risesP p = true
  reached : Reached a (spotsL a) (f ++ p) L
  longs : longsE a L p = 0
  y : Y = slidGo p 0 L (longsV a L p)
  b : b = slidW a L p
  now : now = f.map (posL L Y)
end Go.Proofs.Ytbmkbnalembbjaa

namespace Go.Proofs.Ytbmkbnalembbjaa
open Go.RowKit
theorem firstE_zero (a b c d : Int) : firstE [a, b, c, d] = 0 ↔ a = 0 ∧ b = 0 ∧ c = 0 ∧ d = 0 := by
  rw [firstE_eq]
  by_cases h1 : a = 0 <;> by_cases h2 : b = 0 <;> by_cases h3 : c = 0 <;> simp [h1, h2, h3]
structure StoreOk (a r : List Int) (l : List Slot) (p : List Rn) : Prop where
  arena : checkE a = 0
  roots : rootE r a.length = 0
  pins : PinsOk p
  hands : handE l = 0
  live : ∀ x ∈ fromL r l p, x ∈ begsL (spotsL a)
theorem storeE_ok {a r : List Int} {l : List Slot} {p : List Rn} : storeE a r l p = 0 ↔ StoreOk a r l p := by
  unfold storeE
  by_cases h : firstE [checkE a, rootE r a.length, pinE p, handE l] = 0
  · rw [if_neg (by simp [h])]
    obtain ⟨h1, h2, h3, h4⟩ := (firstE_zero _ _ _ _).1 h
    constructor
    · intro h5
      by_cases h6 : (fromL r l p).all (fun x => decide (x ∈ begsL (spotsL a))) = true
      · exact ⟨h1, h2, pinE_ok.1 h3, h4, fun x hx => of_decide_eq_true (List.all_eq_true.1 h6 x hx)⟩
      · rw [if_neg h6] at h5; cases h5
    · intro h5
      rw [if_pos (List.all_eq_true.2 fun x hx => decide_eq_true (h5.live x hx))]
  · rw [if_pos h]
    exact ⟨fun h5 => absurd h5 h, fun h5 => (firstE_zero _ _ _ _).2 ⟨h5.arena, h5.roots, pinE_ok.2 h5.pins, h5.hands⟩⟩
theorem fromL_mem {r : List Int} {l : List Slot} {p : List Rn} {x : Int} : x ∈ fromL r l p ↔ (x ∈ r ∧ 0 ≤ x) ∨ (∃ s ∈ l, s.opn = true ∧ s.loc = x) ∨ ∃ y ∈ p, y.loc = x := by
  unfold fromL openL pinsL
  rw [compact_mem, sortL_mem, List.mem_append, List.mem_append, namedL_mem, List.mem_map, List.mem_map]
  simp only [List.mem_filter, and_assoc, or_assoc]
theorem StoreOk.pinned {a r : List Int} {l : List Slot} {p : List Rn} (h : StoreOk a r l p) : ∀ x ∈ pinsL p, x ∈ begsL (spotsL a) := by
  intro x hx
  obtain ⟨y, hy, rfl⟩ := List.mem_map.1 hx
  exact h.live _ (fromL_mem.2 (.inr (.inr ⟨y, hy, rfl⟩)))
end Go.Proofs.Ytbmkbnalembbjaa
