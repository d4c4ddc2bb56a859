/-
  Texts joined: SlideFn SlideClean StoreLaw CleanLaw TintWords CleanGaps IntF0 HandSwap.
-/
import Derived.Deep.RegionHeld3
import Derived.Deep.QuietTactic
import Derived.BigQuiet
import Derived.Test.YtbmkbnalembbjaaGreatDoorRows
import Derived.Test.YtbmkbnalembbjaaGreatDoorQ0
import Derived.Test.YtbmkbnalembbjaaGreatDoorQ1
import Derived.Test.YtbmkbnalembbjaaGreatDoorQ4
import Derived.Test.YtbmkbnalembbjaaGreatDoorQ5
import Derived.Test.YtbmkbnalembbjaaGreatDoorQ6
import Derived.Test.YtbmkbnalembbjaaGreatDoorQ7
namespace Go.Proofs.YtbmkbnalembbjaaGreatDoor
open Go.RowKit
def slidW (a keep pinned : List Int) : List Int := chunksW (laidC a.length 0 (rowsOf a keep (slidGo pinned 0 keep (longsV a keep pinned))))
end Go.Proofs.YtbmkbnalembbjaaGreatDoor

namespace Go.Proofs.YtbmkbnalembbjaaGreatDoor
open Go.RowKit
set_option maxHeartbeats 400000 in
theorem slide_bad (A A2 A3 : Option Addr) (n c n2 c2 m c3 : Nat) (a keep pinned : List Int) (w : World) (hr : Reads w w.heap.size 1 A n (a.map (.int .u64))) (hnc : n ≤ c) (ha : ∀ x ∈ a, (Lit.int .u64 x).wf = true)
    (hr2 : Reads w w.heap.size 1 A2 n2 (keep.map (.int .i64))) (hr3 : Reads w w.heap.size 1 A3 m (pinned.map (.int .i64))) (hn2 : n2 * 8 ≤ 140737488351232) (hm : m ≤ 1000000000000000000) (hE : longsE a keep pinned ≠ 0) :
    Calls Tryz.prog 106 #[.slice A n c, .slice A2 n2 c2, .slice A3 m c3] w fun e w' => e = .returned (.tuple #[.slice none 0 0, .slice none 0 0, .int .i64 (longsE a keep pinned)]) ∧ Below w.heap.size w w' := by
  have H1 := Lib.hid (fun w hr hr2 hr3 => planTo_bad A A2 A3 n c n2 c2 m c3 a keep pinned w hr hnc ha hr2 hr3 hn2 hm hE)
  have hE1 : (longsE a keep pinned != 0) = true := by simpa using hE
  generalize longsE a keep pinned = E at *
  clear hE
  go_enter Tryz.func106, Tryz.ntmps106
  go_wp2_with fail
  refine (H1.out _ hr hr2 hr3).mono ?_
  rintro e w1 ⟨rfl, hb1⟩
  go_wp2
  go_ret3
  exact ⟨rfl, hb1⟩
def CleanOk (a f p : List Int) : Prop := checkE a = 0 ∧ (∀ x ∈ f ++ p, x ∈ begsL (spotsL a)) ∧ risesP p = true
theorem pairwise_rises : ∀ {l : List Int}, l.Pairwise (· < ·) → risesP l = true
  | [], _ => rfl
  | [_], _ => rfl
  | x :: y :: t, h => by
    obtain ⟨h1, h2⟩ := List.pairwise_cons.1 h
    simp only [risesP, Bool.and_eq_true, decide_eq_true_eq]
    exact ⟨h1 y List.mem_cons_self, pairwise_rises h2⟩
theorem reached_rises {a f L : List Int} {S : List Spot} (h : Reached a S f L) : risesP L = true := by
  refine pairwise_rises ?_
  have h1 := h.sorted
  have h2 := List.nodup_iff_pairwise_ne.1 h.once
  exact (List.Pairwise.and h1 h2).imp (fun ⟨h, h'⟩ => by omega)
theorem begs_ix {S : List Spot} {x : Int} (h : x ∈ begsL S) : 0 ≤ ixOf (pL x) S := by
  obtain ⟨s, hs⟩ := begsL_iff.1 h
  obtain ⟨h1, h2, h3⟩ := spotAt_some hs
  rcases ixOf_cases (pL x) S with ⟨-, e2⟩ | ⟨i, s', e1, -⟩
  · have := e2 s h1
    simp [pL, h2, h3] at this
  · omega
theorem clean_longs {a f p L : List Int} (h0 : checkE a = 0) (h : Reached a (spotsL a) (f ++ p) L) : (risesP p = true → longsE a L p = 0) ∧ (risesP p = false → longsE a L p = 3) := by
  constructor
  · intro hp
    exact longsE_ok.2 ⟨h0, reached_rises h, hp, fun x hx => begs_ix (h.begs x hx), fun x hx => h.roots x (List.mem_append_right _ hx)⟩
  · intro hp
    unfold longsE
    rw [if_neg (by simp [h0]), if_pos (by simp [hp])]
theorem reached_closed {a f L : List Int} (h0 : checkE a = 0) (h : Reached a (spotsL a) f L) : ClosedL a L :=
  ⟨h.begs, h.closed, fun x hx => (begsL_bounds (checkE_ok.1 h0).1 x (h.begs x hx)).1⟩
structure CleanIs (a f p L Y b now : List Int) : Prop where
  check : checkE a = 0
  rises : risesP p = true
  reached : Reached a (spotsL a) (f ++ p) L
  longs : longsE a L p = 0
  y : Y = slidGo p 0 L (longsV a L p)
  b : b = slidW a L p
  now : now = f.map (posL L Y)
end Go.Proofs.YtbmkbnalembbjaaGreatDoor

namespace Go.Proofs.YtbmkbnalembbjaaGreatDoor
open Go.RowKit
theorem firstE_zero (a b c d : Int) : firstE [a, b, c, d] = 0 ↔ a = 0 ∧ b = 0 ∧ c = 0 ∧ d = 0 := by
  rw [firstE_eq]
  by_cases h1 : a = 0 <;> by_cases h2 : b = 0 <;> by_cases h3 : c = 0 <;> simp [h1, h2, h3]
structure StoreOk (a r : List Int) (l : List Slot) (p : List Rn) : Prop where
  arena : checkE a = 0
  roots : rootE r a.length = 0
  pins : PinsOk p
  hands : handE l = 0
  live : ∀ x ∈ fromL r l p, x ∈ begsL (spotsL a)
theorem storeE_ok {a r : List Int} {l : List Slot} {p : List Rn} : storeE a r l p = 0 ↔ StoreOk a r l p := by
  unfold storeE
  by_cases h : firstE [checkE a, rootE r a.length, pinE p, handE l] = 0
  · rw [if_neg (by simp [h])]
    obtain ⟨h1, h2, h3, h4⟩ := (firstE_zero _ _ _ _).1 h
    constructor
    · intro h5
      by_cases h6 : (fromL r l p).all (fun x => decide (x ∈ begsL (spotsL a))) = true
      · exact ⟨h1, h2, pinE_ok.1 h3, h4, fun x hx => of_decide_eq_true (List.all_eq_true.1 h6 x hx)⟩
      · rw [if_neg h6] at h5; cases h5
    · intro h5
      rw [if_pos (List.all_eq_true.2 fun x hx => decide_eq_true (h5.live x hx))]
  · rw [if_pos h]
    exact ⟨fun h5 => absurd h5 h, fun h5 => (firstE_zero _ _ _ _).2 ⟨h5.arena, h5.roots, pinE_ok.2 h5.pins, h5.hands⟩⟩
theorem fromL_mem {r : List Int} {l : List Slot} {p : List Rn} {x : Int} : x ∈ fromL r l p ↔ (x ∈ r ∧ 0 ≤ x) ∨ (∃ s ∈ l, s.opn = true ∧ s.loc = x) ∨ ∃ y ∈ p, y.loc = x := by
  unfold fromL openL pinsL
  rw [compact_mem, sortL_mem, List.mem_append, List.mem_append, namedL_mem, List.mem_map, List.mem_map]
  simp only [List.mem_filter, and_assoc, or_assoc]
theorem StoreOk.pinned {a r : List Int} {l : List Slot} {p : List Rn} (h : StoreOk a r l p) : ∀ x ∈ pinsL p, x ∈ begsL (spotsL a) := by
  intro x hx
  obtain ⟨y, hy, rfl⟩ := List.mem_map.1 hx
  exact h.live _ (fromL_mem.2 (.inr (.inr ⟨y, hy, rfl⟩)))
theorem StoreOk.clean {a r : List Int} {l : List Slot} {p : List Rn} (h : StoreOk a r l p) : CleanOk a (fromL r l p) (pinsL p) := by
  refine ⟨h.arena, fun x hx => ?_, pairwise_rises ?_⟩
  · rcases List.mem_append.1 hx with hx | hx
    · exact h.live x hx
    · exact h.pinned x hx
  · exact List.pairwise_map.2 h.pins.rise
end Go.Proofs.YtbmkbnalembbjaaGreatDoor

namespace Go.Proofs.YtbmkbnalembbjaaGreatDoor
open Go.RowKit
structure Cleaned (a f p L Y b now : List Int) : Prop where
  laid : LaidOk a L Y b a.length
  closed : ClosedL a L
  plan : Planned a L p (longsV a L p) Y
  sub : ∀ x ∈ f ++ p, x ∈ L
  pin : ∀ x ∈ p, posL L Y x = x
  map : now ++ p = (f ++ p).map (posL L Y)
  len256 : a.length ≤ 256
  lenL : L.length ≤ 256
theorem cleaned_of {a f p L Y b now : List Int} (h : CleanIs a f p L Y b now) : Cleaned a f p L Y b now := by
  obtain ⟨h1, h2, h3, h4, rfl, rfl, rfl⟩ := h
  have hP := planned_of h4
  have h0 := (checkE_ok.1 h1).1
  have hN := (parse_ok h0).1
  have hC := reached_closed h1 h3
  have hpin : ∀ x ∈ p, posL L (slidGo p 0 L (longsV a L p)) x = x := by
    intro x hx
    obtain ⟨hK, -⟩ := kept_of h4
    have hxL := h3.roots x (List.mem_append_right _ hx)
    obtain ⟨j, y, hj, hy, e⟩ := posL_ex hP.nodup hP.len hxL
    have hS := slid_of a.length p L (longsV a L p) 0 hK (fun z hz => hP.nn2 z (List.mem_of_getElem? hz))
    obtain ⟨s, i, -, -, -, -, -, e6, -⟩ := hP.at_ j x y hj hy
    rw [e]
    exact (hS.at_ j x y s.long hj e6 hy).2.1 hx
  refine ⟨?_, hC, hP, h3.roots, hpin, ?_, hN, ?_⟩
  · exact laid_ok h0 hC hP.nodup hP.len hN hP.nn hP.rows
  · rw [List.map_append]
    congr 1
    conv => lhs; rw [← List.map_id p]
    exact List.map_congr_left (fun x hx => (hpin x hx).symm)
  · exact nodup_bound 256 L h3.once (fun x hx => begsL_bounds h0 x (h3.begs x hx))
theorem Cleaned.alive {a f p L Y b now : List Int} (h : Cleaned a f p L Y b now) : ∀ x ∈ now ++ p, x ∈ begsL (spotsL b) := by
  intro x hx
  rw [h.map] at hx
  obtain ⟨z, hz, rfl⟩ := List.mem_map.1 hx
  have hzL := h.sub z hz
  obtain ⟨s, hs⟩ := begsL_iff.1 (h.closed.begs z hzL)
  obtain ⟨s', hs', -⟩ := h.laid.iso.at_ z hzL s hs
  exact begsL_iff.2 ⟨s', hs'⟩
theorem Cleaned.form {a f p L Y b now : List Int} (h : Cleaned a f p L Y b now) {os os' : List Ob} {fr fr' : List Int} (h1 : FormIs a (f ++ p) os fr) (h2 : FormIs b (now ++ p) os' fr') : os = os' ∧ fr = fr' := by
  rw [h.map] at h2
  exact form_iso h.laid.iso h.closed h.sub h1 h2
theorem words_wf {a : List Int} (h : ∀ x ∈ a, 0 ≤ x ∧ x < 18446744073709551616) : ∀ x ∈ a, (Lit.int .u64 x).wf = true := fun x hx => by
  obtain ⟨h1, h2⟩ := h x hx
  simp [Lit.wf, IntKind.min, IntKind.max, IntKind.signed, IntKind.bits]
  omega
theorem wf_words {a : List Int} (h : ∀ x ∈ a, (Lit.int .u64 x).wf = true) : ∀ x ∈ a, 0 ≤ x ∧ x < 18446744073709551616 := fun x hx => by
  have := h x hx
  simp [Lit.wf, IntKind.min, IntKind.max, IntKind.signed, IntKind.bits] at this
  omega
theorem laid_wf {a keep Y : List Int} {N : Nat} (ha : ∀ x ∈ a, (Lit.int .u64 x).wf = true) (hR : RowsOk N 0 (rowsOf a keep Y)) (hN : N ≤ 256) (hY : ∀ y ∈ Y, y ≤ 256) (hn : keep.Nodup) (hl : Y.length = keep.length) (hC : ClosedL a keep) (hY0 : ∀ y ∈ Y, 0 ≤ y) :
    ∀ x ∈ chunksW (laidC N 0 (rowsOf a keep Y)), (Lit.int .u64 x).wf = true := by
  refine words_wf (fun x hx => ?_)
  obtain ⟨c, hc, hxc⟩ := List.mem_flatMap.1 hx
  have hcok := laidC_ok hR hN c hc
  obtain ⟨w1, w2, w3, w4, w5, w6, w7⟩ := rdw_word c.r c.b c.t c.f hcok.1
  rcases List.mem_cons.1 hxc with rfl | hxp
  · exact ⟨w6, w7⟩
  · rcases laidC_mem hR c hc with ⟨q, -, -, rfl⟩ | ⟨y, hy⟩
    · have := List.eq_of_mem_replicate hxp
      omega
    · obtain ⟨j, hj⟩ := List.mem_iff_getElem?.1 hy
      have hjl : j < keep.length := by have := (List.getElem?_eq_some_iff.1 hj).1; rw [rowsOf_length hl] at this; exact this
      have := rowsOf_at (a := a) (List.getElem?_eq_getElem hjl) (List.getElem?_eq_getElem (l := Y) (i := j) (by omega))
      rw [hj] at this
      simp only [Option.some.injEq, Prod.mk.injEq] at this
      obtain ⟨-, rfl⟩ := this
      obtain ⟨s, hs⟩ := begsL_iff.1 (hC.begs _ (List.getElem_mem hjl))
      rw [rowAt_some hs] at hxp
      rcases List.mem_append.1 hxp with h | h
      · obtain ⟨v, hv, rfl⟩ := List.mem_map.1 h
        unfold refT
        by_cases h0 : v = 0
        · rw [if_pos h0]; omega
        · rw [if_neg h0]
          have hk := Iso.link_of hC (List.getElem_mem hjl) hs v hv h0
          obtain ⟨i, u, -, hu, e⟩ := posL_ex hn hl hk
          have h1 := hY u (List.mem_of_getElem? hu)
          have h2 := hY0 u (List.mem_of_getElem? hu)
          rw [e]
          omega
      · unfold bodyOf at h
        exact wf_words ha x (List.mem_of_mem_drop (List.mem_of_mem_take h))
theorem Cleaned.wf {a f p L Y b now : List Int} (h : Cleaned a f p L Y b now) (hI : CleanIs a f p L Y b now) (ha : ∀ x ∈ a, (Lit.int .u64 x).wf = true) : (∀ x ∈ b, (Lit.int .u64 x).wf = true) ∧ ∀ x ∈ now, (Lit.int .i64 x).wf = true := by
  have hN := h.len256
  have hYb : ∀ y ∈ Y, 0 ≤ y ∧ y ≤ 256 := fun y hy => by
    obtain ⟨j, hj⟩ := List.mem_iff_getElem?.1 hy
    have hjl : j < L.length := by rw [← h.plan.len]; exact (List.getElem?_eq_some_iff.1 hj).1
    obtain ⟨s, i, -, -, -, e4, e5, -, e7, -⟩ := h.plan.at_ j _ y (List.getElem?_eq_getElem hjl) hj
    have := e4.r0
    have := e4.b0
    unfold Spot.long at e5
    omega
  constructor
  · obtain ⟨-, -, -, -, rfl, rfl, -⟩ := hI
    exact laid_wf ha h.plan.rows hN (fun y hy => (hYb y hy).2) h.plan.nodup h.plan.len h.closed h.plan.nn
  · obtain ⟨-, -, -, -, -, -, rfl⟩ := hI
    intro x hx
    obtain ⟨z, hz, rfl⟩ := List.mem_map.1 hx
    obtain ⟨i, u, -, hu, e⟩ := posL_ex h.plan.nodup h.plan.len (h.sub z (List.mem_append_left _ hz))
    have := hYb u (List.mem_of_getElem? hu)
    rw [e]
    simp [Lit.wf, IntKind.min, IntKind.max, IntKind.signed, IntKind.bits]
    omega
end Go.Proofs.YtbmkbnalembbjaaGreatDoor

namespace Go.Proofs.YtbmkbnalembbjaaGreatDoor
open Go.RowKit
def longW (S : List Spot) (x : Int) : Int := match spotAt S x with | some s => s.long | none => 0
def longsL (S : List Spot) : List Int → Int
  | [] => 0
  | x :: t => longW S x + longsL S t
end Go.Proofs.YtbmkbnalembbjaaGreatDoor

namespace Go.Proofs.YtbmkbnalembbjaaGreatDoor
open Go.RowKit
theorem rsum_takeG {L : List Rn} {M : Int} (h : ∀ r ∈ L, 0 ≤ r.len ∧ r.len ≤ M) : ∀ j, j ≤ L.length → 0 ≤ rsum (L.take j) ∧ rsum (L.take j) ≤ M * j := by
  intro j
  induction j with
  | zero => intro _; simp [rsum]
  | succ j ih =>
    intro hj
    have hlt : j < L.length := by omega
    rw [List.take_succ_eq_append_getElem hlt, rsum_append]
    have h1 := h _ (List.getElem_mem hlt)
    have h2 := ih (by omega)
    simp only [rsum]
    have e : M * ((j + 1 : Nat) : Int) = M * j + M := by rw [Int.natCast_add, Int.mul_add]; simp
    rw [e]
    omega
theorem longsL_isum {a L longs : List Int} (hl : longs.length = L.length) (h : ∀ (j : Nat) (x : Int), L[j]? = some x → longs[j]? = some (longW (spotsL a) x)) : isum longs = longsL (spotsL a) L := by
  induction L generalizing longs with
  | nil => obtain rfl : longs = [] := List.eq_nil_of_length_eq_zero hl
           rfl
  | cons x L ih =>
    cases longs with
    | nil => cases hl
    | cons k longs =>
      have h0 := h 0 x rfl
      simp only [List.getElem?_cons_zero, Option.some.injEq] at h0
      simp only [isum, longsL]
      rw [ih (by simpa using hl) (fun j y hy => by have := h (j + 1) y (by simpa using hy); simpa using this), h0]
theorem Cleaned.gaps {a f p L Y b now : List Int} (h : Cleaned a f p L Y b now) (hI : CleanIs a f p L Y b now) :
    ggL b = pgaps a.length 0 Y (longsV a L p) ∧ rsum (ggL b) + longsL (spotsL a) L = a.length ∧ (∀ r ∈ ggL b, 0 ≤ r.len ∧ r.len ≤ 256) ∧ (ggL b).length ≤ p.length + 1 ∧ (ggL b).length ≤ 257 := by
  have hg : ggL b = pgaps a.length 0 Y (longsV a L p) := by
    unfold ggL
    rw [if_pos h.laid.check, h.laid.gaps, h.plan.ys, h.plan.lens]
  obtain ⟨hK, hN⟩ := kept_of hI.longs
  have hs := pgaps_sum a.length p L (longsV a L p) 0 hK (fun x hx => h.plan.nn2 x (List.mem_of_getElem? hx)) (by omega)
  rw [← hI.y] at hs
  have hlen : (pgaps a.length 0 Y (longsV a L p)).length ≤ p.length + 1 := by
    rw [hI.y]
    exact pgaps_few (reached_rises hI.reached)
  have hlen2 : (pgaps a.length 0 Y (longsV a L p)).length ≤ L.length + 1 := by
    rw [hI.y]
    have h1 := pgaps_count a.length p L (longsV a L p) 0
    have h2 := List.length_filter_le (fun x => decide (x ∈ p)) L
    omega
  have hll := h.lenL
  have hsum : isum (longsV a L p) = longsL (spotsL a) L := longsL_isum h.plan.lenL (fun j x hx => by
    obtain ⟨s, i, e1, -, -, -, -, e6, -⟩ := h.plan.at_ j x _ hx (List.getElem?_eq_getElem (l := Y) (i := j) (by rw [h.plan.len]; exact (List.getElem?_eq_some_iff.1 hx).1))
    rw [e6]
    unfold longW
    rw [e1])
  rw [hg]
  refine ⟨rfl, by rw [← hsum, hs.1]; omega, fun r hr => ?_, hlen, by omega⟩
  have := hs.2 r hr
  omega
end Go.Proofs.YtbmkbnalembbjaaGreatDoor

namespace Go.Proofs.YtbmkbnalembbjaaGreatDoor
open Go.RowKit
set_option maxRecDepth 100000 in
set_option maxHeartbeats 1000000 in
theorem indexIntF0_any (F : Nat) (A : Option Addr) (n c B : Nat) (l : List Int) (p : Int → Bool) (w : World) (hr : Reads w B 1 A n (l.map (.int .i64))) (hB : B ≤ w.heap.size) (hn : n ≤ 1000000000000000000) (hP : Plain Tryz.prog F)
    (HC : ∀ (w' : World) (x : Int), Below w.heap.size w w' → x ∈ l → Calls Tryz.prog F #[.int .i64 x] w' fun e w'' => e = .returned (.bool (p x)) ∧ Below w'.heap.size w' w'') :
    Calls Tryz.prog 120 #[.slice A n c, .func (.func F) #[] #[]] w fun e w' => e = .returned (.int .i64 (ixOf p l)) ∧ Below w.heap.size w w' := by
  have hll : l.length = n := by have := hr.1; simpa using this
  have HL := Lib.hid hll
  have HC := Lib.hid HC
  have hcf := fun (x : Value) (w : World) => hP #[x] w
  clear hll hP
  go_enter Tryz.func120, Tryz.ntmps120
  go_wp2
  go_loopw [5, 8] (fun _ i wr => ∃ j : Nat, j ≤ n ∧ i = .int .i64 j ∧ Below w.heap.size w wr ∧ Hid (∀ x ∈ l.take j, p x = false)) (fun _ i _ => n - (intOf i).toNat)
  case atStart => exact ⟨0, Nat.zero_le _, rfl, Below.refl _ _, by intro x hx; simp at hx⟩
  case round =>
    obtain ⟨j, hj, rfl, hb, HD⟩ := hrel
    by_cases hlt : j < n
    · obtain ⟨ad, s, rfl, had, hs, c0⟩ := (hr.below (hb.mono hB)).num hlt
      have HS := Lib.hid hs
      have HQ := Lib.hid (HC.out wr s hb (List.mem_of_getElem? hs))
      clear hs
      cases hp : p s
      · have HF := Lib.hid hp
        clear hp
        go_wp2_with fail
        refine HQ.out.mono ?_
        rw [HF.out]
        rintro e w1 ⟨rfl, hb1⟩
        go_wp2
        go_roundw
        case rel => exact ⟨j + 1, by omega, by go_num, hb.trans (hb1.mono hb.size), fun x hx => by
          rcases take_succ_mem HS.out x hx with h | rfl
          · exact HD.out x h
          · exact HF.out⟩
        case measure => simp [intOf]; omega
      · have HF := Lib.hid hp
        clear hp
        go_wp2_with fail
        refine HQ.out.mono ?_
        rw [HF.out]
        rintro e w1 ⟨rfl, hb1⟩
        go_wp2
        go_ret
        exact ⟨ret_int (ixOf_some HS.out HF.out HD.out).symm, hb.trans (hb1.mono hb.size)⟩
    · go_wp2
      go_ret
      exact ⟨ret_int (ixOf_none (by have := HD.out; rwa [List.take_of_length_le (by rw [HL.out]; omega)] at this)).symm, hb⟩
theorem containsIntF0_any (F : Nat) (A : Option Addr) (n c B : Nat) (l : List Int) (p : Int → Bool) (w : World) (hr : Reads w B 1 A n (l.map (.int .i64))) (hB : B ≤ w.heap.size) (hn : n ≤ 1000000000000000000) (hP : Plain Tryz.prog F)
    (HC : ∀ (w' : World) (x : Int), Below w.heap.size w w' → x ∈ l → Calls Tryz.prog F #[.int .i64 x] w' fun e w'' => e = .returned (.bool (p x)) ∧ Below w'.heap.size w' w'') :
    Calls Tryz.prog 85 #[.slice A n c, .func (.func F) #[] #[]] w fun e w' => e = .returned (.bool (l.any p)) ∧ Below w.heap.size w w' := by
  have H := Lib.hid (indexIntF0_any F A n c B l p w hr hB hn hP HC)
  have hd := ixOf_nonneg p l
  rw [← hd]
  generalize ixOf p l = i at *
  clear HC hd
  go_enter Tryz.func85, Tryz.ntmps85
  go_wp2_with fail
  refine H.out.mono ?_
  rintro e w1 ⟨rfl, hb⟩
  go_wp2
  go_ret
  exact ⟨rfl, hb⟩
end Go.Proofs.YtbmkbnalembbjaaGreatDoor

namespace Go.Proofs.YtbmkbnalembbjaaGreatDoor
open Go.RowKit
def swapS (t : List Int) (s : Slot) : Slot := if s.opn = true then ⟨s.gen, true, t.getD s.loc.toNat 0⟩ else s
theorem swapS_step {l : List Slot} {t : List Int} {j : Nat} (h : j < l.length) : ((l.take j).map (swapS t) ++ l.drop j).set j (swapS t l[j]) = (l.take (j + 1)).map (swapS t) ++ l.drop (j + 1) := by
  have hl : ((l.take j).map (swapS t)).length = j := by rw [List.length_map, List.length_take]; omega
  rw [List.drop_eq_getElem_cons h, List.set_append_right _ _ (by omega), hl, Nat.sub_self, List.set_cons_zero, List.take_succ_eq_append_getElem h, List.map_append, List.append_assoc]
  rfl
theorem swapS_at {l : List Slot} {t : List Int} {j : Nat} (h : j < l.length) : ((l.take j).map (swapS t) ++ l.drop j)[j]? = some l[j] := by
  have hl : ((l.take j).map (swapS t)).length = j := by rw [List.length_map, List.length_take]; omega
  rw [List.getElem?_append_right (by omega), hl, Nat.sub_self, List.drop_eq_getElem_cons h]
  rfl
theorem set_same {α : Type} {l : List α} {i : Nat} {x : α} (h : l[i]? = some x) : l.set i x = l := by
  obtain ⟨h1, rfl⟩ := List.getElem?_eq_some_iff.1 h
  exact List.set_getElem_self h1
theorem swapS_skip {l : List Slot} {t : List Int} {j : Nat} (h : j < l.length) (h0 : l[j].opn = false) : (l.take j).map (swapS t) ++ l.drop j = (l.take (j + 1)).map (swapS t) ++ l.drop (j + 1) := by
  rw [← swapS_step h]
  have e : swapS t l[j] = l[j] := by unfold swapS; rw [h0]; rfl
  rw [e, set_same (swapS_at h)]
theorem slotsC_set1 {l : List Slot} {j : Nat} {gen loc loc' : Int} {opn : Bool} (h : l[j]? = some ⟨gen, opn, loc⟩) : (slotsC l).set (j * 3 + 2) (.int .i64 loc') = slotsC (l.set j ⟨gen, opn, loc'⟩) := by
  obtain ⟨hj, he⟩ := List.getElem?_eq_some_iff.1 h
  have a0 := slotsC_at l j 0 hj (by omega)
  have a1 := slotsC_at l j 1 hj (by omega)
  rw [he] at a0 a1
  have h3 := slotsC_set l j ⟨gen, opn, loc'⟩
  dsimp only at h3
  rw [← h3, set_same (l := slotsC l) (i := j * 3) (x := .int .i64 gen) a0, set_same (l := slotsC l) (i := j * 3 + 1) (x := .bool opn) a1]
set_option maxHeartbeats 400000 in
theorem hswapOut_any (x : Int) (h : 0 ≤ x ∧ x < 256) (w : World) :
    Calls Tryz.prog 109 #[.int .i64 x] w fun e w' => e = .returned (.bool false) ∧ Below w.heap.size w w' := by
  have H := Lib.hid (fun w => handThere_yes x w h)
  go_enter Tryz.func109, Tryz.ntmps109
  go_wp2_with (go_at_call 89; refine (H.out _).mono ?_; rintro e w' ⟨rfl, rfl⟩)
  go_ret
  exact ⟨rfl, Below.refl _ _⟩
end Go.Proofs.YtbmkbnalembbjaaGreatDoor
