/-
  Opening a slice of slots that came in, with its reach.
-/
import Derived.Test.YtbmkbnalembbjaaLawElems
import Derived.Test.YtbmkbnalembbjaaHand
import Derived.SizedLaws
namespace Go.Proofs.Ytbmkbnalembbjaa
open Go.ChangeShapes Go.WideShapes Go.ChangeAt Go.RowKit Go.Joins Go.Deep

instance inhQ : Inhabited Slot := ⟨⟨0, false, 0⟩⟩

theorem list3Q {α : Type} {l : List α} (h : l.length = 3) : ∃ a b c, l = [a, b, c] := by
  match l, h with
  | [a, b, c], _ => exact ⟨a, b, c, rfl⟩

theorem k_slot_bytes : Try.prog.bytesOf 50 = 24 := by kernel_rfl
set_option maxRecDepth 100000 in
theorem open_slots2 {H : Type} {enc : TypeId × Value → H} {W : World} {r : Reach} {base : Nat} {sp : Nat → Bool} {v : Value} {d : DataW H} {ps : List MemPlace}
    (hval : Value.okWide Try.prog W r base 27 v) (hlt : ∀ x ∈ ps, x.block < W.heap.size) (h : DataW.Trod enc Try.prog W 0 sp true 27 v d ps) :
    ∃ (A : Option Addr) (n c : Nat) (l : List Slot), v = .slice A n c ∧ n ≤ c ∧ c ≤ maxLen ∧ Reads W W.heap.size 3 A n (slotsC l) ∧ (n = 0 ∨ ∃ D E, d = .slice D E ∧ D.length = n) := by
  obtain ⟨A, n, c, l, h1, h2, h3, h4, -, h5⟩ := open_elems2 slotC 3 (by decide) (fun _ => rfl) Try.underlying27 (by kernel_rfl) (fun n cs y hy => by
    obtain ⟨y0, y1, y2, m, _, hl, a0, a1, a2⟩ := trod_struct3 Try.underlying50 hy
    have hl3 : cs.length = 3 := hl.trans (by kernel_rfl)
    obtain ⟨c0, c1, c2, rfl⟩ := list3Q hl3
    have k0 : Try.prog.cellsOf 3 = 1 := by kernel_rfl
    have k1 : Try.prog.cellsOf 4 = 1 := by kernel_rfl
    dsimp only at a0 a1 a2
    rw [k0] at a0 a2
    rw [k1] at a1
    obtain ⟨x0, q0, -, -⟩ := DataW.trod_int Try.underlying3 a0
    obtain ⟨x1, q1, -⟩ := DataW.trod_bool Try.underlying4 a1
    obtain ⟨x2, q2, -, -⟩ := DataW.trod_int Try.underlying3 a2
    simp at q0 q1 q2
    subst q0 q1 q2
    exact ⟨⟨x0, x1, x2⟩, rfl⟩) hval hlt h
  exact ⟨A, n, c, l, h1, h2, h3, h4, h5⟩
end Go.Proofs.Ytbmkbnalembbjaa
