/-
  package tint: Reach.
-/
import Derived.Test.YtdlmnnibgpfdbabTintEach
import Derived.Test.YtdlmnnibgpfdbabTintAdd
import Derived.Test.YtdlmnnibgpfdbabSortInt
namespace Go.Proofs.Ytdlmnnibgpfdbab
open Go.RowKit

/-- The closure, called for all that an object names. -/
theorem Search.adds {a : List Int} {S : List Spot} {f out : List Int} {i : Nat} {x : Int} (h : Search a S f out i) (hi : i ≤ out.length) (hx : out[i]? = some x) (hb : ∀ y ∈ linksAt a S x, y ∈ begsL S) :
    ∀ l : List Int, (∀ y ∈ l, y ∈ linksAt a S x) → Search a S f (l.foldl addL out) i ∧ out.length ≤ (l.foldl addL out).length ∧ (∀ y ∈ out, y ∈ l.foldl addL out) ∧ (∀ y ∈ l, y ∈ l.foldl addL out) ∧ (l.foldl addL out)[i]? = some x := by
  intro l
  induction l generalizing out with
  | nil => intro _; exact ⟨h, Nat.le_refl _, fun y hy => hy, by simp, hx⟩
  | cons y l ih =>
    intro hl
    have hy := hl y List.mem_cons_self
    have h1 : Search a S f (addL out y) i := h.add hi (hb y hy) (fun X hX hc => hc x (h.least X hX hc x (List.mem_of_getElem? hx)) y hy)
    have hle := addL_len out y
    have hx1 : (addL out y)[i]? = some x := by
      have hil := (List.getElem?_eq_some_iff.1 hx).1
      unfold addL
      split
      · exact hx
      · rw [List.getElem?_append_left hil]; exact hx
    obtain ⟨q1, q2, q3, q4, q5⟩ := ih h1 (by omega) hx1 (fun z hz => hl z (List.mem_cons_of_mem _ hz))
    have hs := addL_sub out y
    refine ⟨q1, by simp only [List.foldl_cons]; omega, fun z hz => q3 z (hs.1 z hz), fun z hz => ?_, q5⟩
    rcases List.mem_cons.1 hz with rfl | hz
    · exact q3 z hs.2
    · exact q4 z hz

theorem Search.next {a : List Int} {S : List Spot} {f out : List Int} {i : Nat} {x : Int} (h : Search a S f out i) (hx : out[i]? = some x) (hc : ∀ y ∈ linksAt a S x, y ∈ out) : Search a S f out (i + 1) :=
  ⟨h.begs, h.once, h.least, fun k z hk hz y hy => by
    by_cases hki : k = i
    · subst hki
      obtain rfl := Option.some.inj (hx.symm.trans hz)
      exact hc y hy
    · exact h.seen k z (by omega) hz y hy⟩
theorem Search.done {a : List Int} {S : List Spot} {f out : List Int} (h : Search a S f out out.length) (hf : ∀ x ∈ f, x ∈ out) : Reached a S f (sortL out) :=
  ⟨fun x hx => h.begs x (sortL_mem.1 hx), fun x hx => sortL_mem.2 (hf x hx), fun x hx y hy => sortL_mem.2 (by
      obtain ⟨k, hk⟩ := List.mem_iff_getElem?.1 (sortL_mem.1 hx)
      exact h.seen k x (List.getElem?_eq_some_iff.1 hk).1 hk y hy), fun X hX hc x hx => h.least X hX hc x (sortL_mem.1 hx), sortL_sorted _, (sortL_perm out).nodup_iff.2 h.once⟩

end Go.Proofs.Ytdlmnnibgpfdbab
