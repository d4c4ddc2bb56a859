/-
  Opening a head (a struct of three ints and a bool) that came in by value.
-/
import Derived.Test.YtdlmnnibgpfdbaaLaw
import Derived.Lib.SmallJoins
namespace Go.Proofs.Ytdlmnnibgpfdbaa
open Go.ChangeShapes Go.WideShapes Go.ChangeAt Go.RowKit Go.Joins Go.Deep

theorem open_head {H : Type} {enc : TypeId × Value → H} {P : Program} {t ti tb : TypeId} {f0 f1 f2 f3 : Field} {W : World} {r : Reach} {base : Nat} {sp : Nat → Bool} {v : Value} {d : DataW H} {ps : List MemPlace}
    (hs : P.underlying t = some (.struct #[f0, f1, f2, f3])) (hone : oneCellFields P #[f0, f1, f2, f3] = true) (hC : P.cellsOf t = 4) (hi : P.underlying ti = some (.int .i64)) (hb : P.underlying tb = some .bool)
    (hval : Value.okWide P W r base t v) (h : DataW.Trod enc P W 0 sp true t v d ps) (e0 : f0.type = ti := by rfl) (e1 : f1.type = ti := by rfl) (e2 : f2.type = ti := by rfl) (e3 : f3.type = tb := by rfl) :
    ∃ (x y z : Int) (b : Bool), v = .agg #[.int .i64 x, .int .i64 y, .int .i64 z, .bool b] := by
  obtain ⟨c0, c1, c2, c3, y0, y1, y2, y3, m, rfl, rfl, rfl, hy0, hy1, hy2, hy3⟩ := open_agg4 hs hone hC hval h
  rw [e0] at hy0
  rw [e1] at hy1
  rw [e2] at hy2
  rw [e3] at hy3
  obtain ⟨a0, q0, -, -⟩ := DataW.trod_int hi hy0
  obtain ⟨a1, q1, -, -⟩ := DataW.trod_int hi hy1
  obtain ⟨a2, q2, -, -⟩ := DataW.trod_int hi hy2
  obtain ⟨a3, q3, -⟩ := DataW.trod_bool hb hy3
  simp at q0 q1 q2 q3
  subst q0 q1 q2 q3
  exact ⟨a0, a1, a2, a3, rfl⟩
end Go.Proofs.Ytdlmnnibgpfdbaa
