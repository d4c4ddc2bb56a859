/-
  Opening a slice of pins that came in, with its reach.
-/
import Derived.Test.YtbmkbnalembbjaaLawElems
import Derived.Test.YtbmkbnalembbjaaGapDefs
import Derived.SizedLaws
namespace Go.Proofs.Ytbmkbnalembbjaa
open Go.ChangeShapes Go.WideShapes Go.ChangeAt Go.RowKit Go.Joins Go.Deep

instance inhP : Inhabited Rn := ⟨⟨0, 0⟩⟩
theorem list2P {α : Type} {l : List α} (h : l.length = 2) : ∃ a b, l = [a, b] := by
  match l, h with
  | [a, b], _ => exact ⟨a, b, rfl⟩
theorem k_pin_bytes : Try.prog.bytesOf 47 = 16 := by kernel_rfl
set_option maxRecDepth 100000 in
theorem open_pins {H : Type} {enc : TypeId × Value → H} {W : World} {r : Reach} {base : Nat} {sp : Nat → Bool} {v : Value} {d : DataW H} {ps : List MemPlace}
    (hval : Value.okWide Try.prog W r base 25 v) (hlt : ∀ x ∈ ps, x.block < W.heap.size) (h : DataW.Trod enc Try.prog W 0 sp true 25 v d ps) :
    ∃ (A : Option Addr) (n c : Nat) (l : List Rn), v = .slice A n c ∧ n ≤ c ∧ c ≤ maxLen ∧ Reads W W.heap.size 2 A n (runsC l) ∧ (n = 0 ∨ ∃ D E, d = .slice D E ∧ D.length = n) := by
  obtain ⟨A, n, c, l, h1, h2, h3, h4, -, h5⟩ := open_elems2 runC 2 (by decide) (fun _ => rfl) Try.underlying25 (by kernel_rfl) (fun n cs y hy => by
    obtain ⟨y0, y1, m, _, hl, a0, a1⟩ := trod_struct2 Try.underlying47 hy
    have hl2 : cs.length = 2 := hl.trans (by kernel_rfl)
    obtain ⟨c0, c1, rfl⟩ := list2P hl2
    have k0 : Try.prog.cellsOf 3 = 1 := by kernel_rfl
    dsimp only at a0 a1
    rw [k0] at a0 a1
    obtain ⟨x0, q0, -, -⟩ := DataW.trod_int Try.underlying3 a0
    obtain ⟨x1, q1, -, -⟩ := DataW.trod_int Try.underlying3 a1
    simp at q0 q1
    subst q0 q1
    exact ⟨⟨x0, x1⟩, rfl⟩) hval hlt h
  exact ⟨A, n, c, l, h1, h2, h3, h4, h5⟩
end Go.Proofs.Ytbmkbnalembbjaa
