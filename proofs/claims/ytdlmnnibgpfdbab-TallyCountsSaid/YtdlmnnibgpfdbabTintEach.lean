/-
  package tint: heap.each: a closure is called for each object that a Ref names.
-/
import Derived.Test.YtdlmnnibgpfdbabTintHeap
import Derived.BigQuiet
namespace Go.Proofs.Ytdlmnnibgpfdbab
open Go.RowKit

def linksP (rs : List Int) : List Int := (rs.filter fun v => v != 0).map fun v => v - 1
theorem linksP_zero {rs : List Int} {j : Nat} (h : rs[j]? = some 0) : linksP (rs.take (j + 1)) = linksP (rs.take j) := by
  obtain ⟨h1, h2⟩ := List.getElem?_eq_some_iff.1 h
  unfold linksP
  rw [List.take_succ_eq_append_getElem h1, List.filter_append, List.map_append, h2]
  simp
theorem linksP_succ {rs : List Int} {j : Nat} {v : Int} (h : rs[j]? = some v) (h0 : v ≠ 0) : linksP (rs.take (j + 1)) = linksP (rs.take j) ++ [v - 1] := by
  obtain ⟨h1, h2⟩ := List.getElem?_eq_some_iff.1 h
  unfold linksP
  rw [List.take_succ_eq_append_getElem h1, List.filter_append, List.map_append, h2]
  simp [h0]

theorem field_head (r b t : Int) (f : Bool) (w : World) : (Instr.field 85 (.agg #[.int .i64 r, .int .i64 b, .int .i64 t, .bool f]) 0).run Try.prog w = .ok (.int .i64 r) w := by kernel_rfl

end Go.Proofs.Ytdlmnnibgpfdbab
