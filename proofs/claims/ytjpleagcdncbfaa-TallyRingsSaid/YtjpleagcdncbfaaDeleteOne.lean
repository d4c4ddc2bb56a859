/-
  slices.Delete of one element at []int, by the kit's shelf.
-/
import Derived.Test.YtjpleagcdncbfaaSortInt
import Derived.Shelf.SlicesG.Delete
import Derived.Ground.SlgnProg
namespace Go.Proofs
open Go.RowKit Go.Sort Go.Shelf

shelf_lay_g SlLaysN.n45 Slgn 45 at Try 8 as Try.deleteOne

end Go.Proofs
namespace Go.Proofs.Ytjpleagcdncbfaa
open Go.RowKit Go.Sort

theorem delete_one (base : Nat) (A : Option Addr) (n c k : Nat) (xs : List Int) (w : World) (hown : w.ownsRow base 3 1 (.slice A n c) n (xs.map (.int .i64))) (hk : k < n) :
    Calls Try.prog 8 #[.slice A n c, .int .i64 k, .int .i64 ((k : Int) + 1)] w fun e w' => e = .returned (.slice A (n - 1) c) ∧
      w'.ownsRow base 3 1 (.slice A (n - 1) c) (n - 1) ((xs.take k ++ xs.drop (k + 1)).map (.int .i64)) ∧ w.grownBy w' (Value.slice A n c).ownBlock := by
  have hnil : Value.slice A n c ≠ .slice none 0 0 := by intro h; injection h with _ h2; omega
  obtain ⟨g, cap, hv, hb, hg, h1, h2, h3, hH⟩ := Lib.holds_of_ownsRow hown hnil
  injection hv with e1 _ e3
  subst e1 e3
  have H := AnyG.slices_Delete_int Try.deleteOne g 0 c k (k + 1) xs w hH (by omega) (by unfold maxLen at h2; omega) (by omega) (by omega)
  rw [h3, show n - (k + 1 - k) = n - 1 by omega, show k + 1 - k = 1 by omega, show ((k + 1 : Nat) : Int) = (k : Int) + 1 by omega] at H
  have hl : (xs.take k ++ xs.drop (k + 1)).length = n - 1 := by rw [List.length_append, List.length_take, List.length_drop]; omega
  generalize xs.take k ++ xs.drop (k + 1) = L at *
  refine Calls.mono H ?_
  rintro e w' ⟨rfl, q, rfl⟩
  have := Lib.ownsRow_putRow (q := q) (k := n - 1) hown (ys := L ++ List.replicate 1 0) (by rw [List.length_append, hl, List.length_replicate]; omega) (by omega)
  rw [List.take_left' hl] at this
  exact ⟨rfl, this, grownBy_sortedI (os := #[]) _⟩
end Go.Proofs.Ytjpleagcdncbfaa
