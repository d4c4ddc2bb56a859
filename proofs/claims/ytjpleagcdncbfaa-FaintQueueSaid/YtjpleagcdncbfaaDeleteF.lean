/-
  slices.DeleteFunc at []int, whatever the test (a closure that only reads), by the kit's shelf.
-/
import Derived.Test.YtjpleagcdncbfaaSortInt
import Derived.Shelf.SlicesE.DeleteFunc
import Derived.Ground.SlgfProg
namespace Go.Proofs
open Go.RowKit Go.Sort Go.Shelf

shelf_lay_g SlLaysH.n10 Slgf 10 at Try 16 as Try.deleteIF

end Go.Proofs
namespace Go.Proofs.Ytjpleagcdncbfaa
open Go.RowKit Go.Sort

set_option maxHeartbeats 400000 in
theorem index_nilF (F : Nat) (caps : Array Value) (c : Nat) (w : World) : Calls Try.prog 36 #[.slice none 0 c, .func (.func F) #[] caps] w fun e w' => e = .returned (.int .i64 (-1)) ∧ w' = w := by
  go_enter Try.func36, Try.ntmps36
  go_wp2
  go_loopw [8] (fun i wr => i = .int .i64 0 ∧ wr = w) (fun _ _ => 0)
  case atStart => exact ⟨rfl, rfl⟩
  case round =>
    obtain ⟨rfl, rfl⟩ := hrel
    go_wp2
    go_ret
    exact ⟨rfl, rfl⟩
set_option maxHeartbeats 400000 in
theorem delete_nilF (F : Nat) (caps : Array Value) (c : Nat) (w : World) : Calls Try.prog 16 #[.slice none 0 c, .func (.func F) #[] caps] w fun e w' => e = .returned (.slice none 0 c) ∧ w' = w := by
  go_enter Try.func16, Try.ntmps16
  go_wp2_with (go_at_call 36; refine (index_nilF _ _ _ _).mono ?_; rintro e w' ⟨rfl, rfl⟩)
  go_ret
  exact ⟨rfl, rfl⟩

theorem below_grownBy {w w' : World} {row : Option Nat} (h : Below w.heap.size w w') : w.grownBy w' row := ⟨h.os, h.tape, h.output, h.size, fun b hb _ => h.block b hb⟩

theorem deleteF_int (F : Nat) (caps : Array Value) (p : Int → Bool) (base : Nat) (A : Option Addr) (n c : Nat) (xs : List Int) (w : World) (hown : w.ownsRow base 3 1 (.slice A n c) n (xs.map (.int .i64))) (hn : n ≤ 1000000000000000000) (hP : Plain Try.prog F)
    (HC : ∀ (W : World) (x : Int), w.grownBy W (Value.slice A n c).ownBlock → Calls Try.prog F (#[.int .i64 x] ++ caps) W fun e w' => e = .returned (.bool (p x)) ∧ ∃ q, w' = W.drewN q) :
    Calls Try.prog 16 #[.slice A n c, .func (.func F) #[] caps] w fun e w' => e = .returned (.slice A (xs.filter fun x => !p x).length c) ∧
      w'.ownsRow base 3 1 (.slice A (xs.filter fun x => !p x).length c) (xs.filter fun x => !p x).length ((xs.filter fun x => !p x).map (.int .i64)) ∧ w.grownBy w' (Value.slice A n c).ownBlock := by
  by_cases hnil : Value.slice A n c = .slice none 0 0
  · injection hnil with h1 h2 h3
    subst h1 h2 h3
    have hx : xs = [] := List.eq_nil_of_length_eq_zero (by have := hown.1; simpa using this)
    subst hx
    refine Calls.mono (delete_nilF F caps 0 w) ?_
    rintro e w' ⟨rfl, rfl⟩
    exact ⟨rfl, hown, ⟨rfl, rfl, rfl, Nat.le_refl _, fun _ _ _ => rfl⟩⟩
  · obtain ⟨g, cap, hv, hb, hg, h1, h2, h3, hH⟩ := Lib.holds_of_ownsRow hown hnil
    injection hv with e1 _ e3
    subst e1 e3
    have H := AnyE.slices_DeleteFunc Try.deleteIF (Value.int .i64) (fun _ => rfl) p F caps hP 0 Try.zeroValue3 g 0 c xs.toArray w
      (fun W x hb => HC W x (below_grownBy hb))
      (fun q os dk x hs => HC _ x (grownBy_sortedI (os := os) dk)) hH (by simp; omega) (by simp; omega)
    simp only [List.size_toArray] at H
    rw [h3] at H
    have hfl := List.length_filter_le (fun x => !p x) xs
    generalize (xs.filter fun x => !p x) = ys at *
    refine Calls.mono H ?_
    rintro e w' ⟨rfl, q, rfl⟩
    have := Lib.ownsRow_putRow (q := q) (k := ys.length) hown (ys := ys ++ List.replicate (n - ys.length) 0) (by simp; omega) (by omega)
    rw [List.take_append_of_le_length (Nat.le_refl _), List.take_length] at this
    exact ⟨rfl, this, grownBy_sortedI (os := #[]) _⟩
end Go.Proofs.Ytjpleagcdncbfaa
