/-
  The laws' helpers: within, begins, refsAt; tint.Words; the closed fact 'tints'.
-/
import Derived.Test.YtammailnbgojgaaTintReach
import Derived.Test.YtammailnbgojgaaAt
import Derived.Test.YtammailnbgojgaaIntF
import Derived.Test.YtammailnbgojgaaContainsInt
namespace Go.Proofs.Ytammailnbgojgaa
open Go.RowKit

theorem within_law {l all : List Int} : (l.any fun x => !decide (x ∈ all)) = !decide (∀ x ∈ l, x ∈ all) := by
  by_cases h : ∀ x ∈ l, x ∈ all
  · rw [decide_eq_true h, List.any_eq_false.2 (fun x hx => by simp [h x hx])]
    rfl
  · rw [decide_eq_false h]
    simp only [Bool.not_false, List.any_eq_true]
    obtain ⟨x, hx⟩ : ∃ x, ¬ (x ∈ l → x ∈ all) := Classical.not_forall.1 h
    have h2 := Classical.not_imp.1 hx
    exact ⟨x, h2.1, by simp [h2.2]⟩

theorem spotAt_ix {a : List Int} (h0 : spotsE a = 0) {x : Int} {s : Spot} (h : spotAt (spotsL a) x = some s) : ∃ i : Nat, atIx a x = i ∧ (spotsL a)[i]? = some s := by
  obtain ⟨h1, -, rfl⟩ := spotAt_some h
  obtain ⟨i, hi⟩ := List.mem_iff_getElem?.1 h1
  refine ⟨i, ?_, hi⟩
  unfold atIx
  refine ixOf_some hi (by simp) (fun y hy => ?_)
  rw [List.mem_take_iff_getElem] at hy
  obtain ⟨j, hj, rfl⟩ := hy
  obtain ⟨q1, rfl⟩ := List.getElem?_eq_some_iff.1 hi
  have := List.pairwise_iff_getElem.1 (spots_rise h0) j i (by omega) q1 (by omega)
  simp only [beq_eq_false_iff_ne]
  omega

end Go.Proofs.Ytammailnbgojgaa
