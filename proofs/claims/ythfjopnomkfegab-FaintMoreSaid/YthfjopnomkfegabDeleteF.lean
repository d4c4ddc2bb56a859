/-
  slices.DeleteFunc at []int, whatever the test (a closure that only reads), by the kit's shelf.
-/
import Derived.Test.YthfjopnomkfegabSortInt
import Derived.Shelf.SlicesE.DeleteFunc
import Derived.Ground.SlgfProg
namespace Go.Proofs
open Go.RowKit Go.Sort Go.Shelf

end Go.Proofs
namespace Go.Proofs.Ythfjopnomkfegab
open Go.RowKit Go.Sort

set_option maxHeartbeats 400000 in
theorem index_nilF (F : Nat) (caps : Array Value) (c : Nat) (w : World) : Calls Try.prog 44 #[.slice none 0 c, .func (.func F) #[] caps] w fun e w' => e = .returned (.int .i64 (-1)) ∧ w' = w := by
  go_enter Try.func44, Try.ntmps44
  go_wp2
  go_loopw [8] (fun i wr => i = .int .i64 0 ∧ wr = w) (fun _ _ => 0)
  case atStart => exact ⟨rfl, rfl⟩
  case round =>
    obtain ⟨rfl, rfl⟩ := hrel
    go_wp2
    go_ret
    exact ⟨rfl, rfl⟩
theorem below_grownBy {w w' : World} {row : Option Nat} (h : Below w.heap.size w w') : w.grownBy w' row := ⟨h.os, h.tape, h.output, h.size, fun b hb _ => h.block b hb⟩

end Go.Proofs.Ythfjopnomkfegab
