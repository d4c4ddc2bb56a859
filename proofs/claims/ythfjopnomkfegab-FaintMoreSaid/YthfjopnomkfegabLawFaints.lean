/-
  Opening a slice of pairs that came in, with its reach.
-/
import Derived.Test.YthfjopnomkfegabLawElems
import Derived.Test.YthfjopnomkfegabFaintKeep
import Derived.SizedLaws
namespace Go.Proofs.Ythfjopnomkfegab
open Go.ChangeShapes Go.WideShapes Go.ChangeAt Go.RowKit Go.Joins Go.Deep

def Pr : Type := { s : Rn // (Lit.int .i64 s.loc).wf = true ∧ (Lit.int .i64 s.len).wf = true }
instance : Inhabited Pr := ⟨⟨⟨0, 0⟩, by decide⟩⟩
theorem list2F {α : Type} {l : List α} (h : l.length = 2) : ∃ a b, l = [a, b] := by
  match l, h with
  | [a, b], _ => exact ⟨a, b, rfl⟩

theorem k_faint_bytes : Try.prog.bytesOf 44 = 16 := by kernel_rfl
set_option maxRecDepth 100000 in
theorem open_faints {H : Type} {enc : TypeId × Value → H} {W : World} {r : Reach} {base : Nat} {sp : Nat → Bool} {v : Value} {d : DataW H} {ps : List MemPlace}
    (hval : Value.okWide Try.prog W r base 40 v) (hlt : ∀ x ∈ ps, x.block < W.heap.size) (h : DataW.Trod enc Try.prog W 0 sp true 40 v d ps) :
    ∃ (A : Option Addr) (n c : Nat) (l : List Rn), v = .slice A n c ∧ n ≤ c ∧ c ≤ maxLen ∧ Reads W W.heap.size 2 A n (runsC l) ∧ (∀ x ∈ pairsL l, (Lit.int .i64 x).wf = true) ∧ (n = 0 ∨ ∃ D E, d = .slice D E ∧ D.length = n) := by
  obtain ⟨A, n, c, l, h1, h2, h3, h4, -, h5⟩ := open_elems2 (α := Pr) (fun s => runC s.1) 2 (by decide) (fun _ => rfl) Try.underlying40 (by kernel_rfl) (fun n cs y hy => by
    obtain ⟨y0, y1, m, _, hl, a0, a1⟩ := trod_struct2 Try.underlying44 hy
    have hl2 : cs.length = 2 := hl.trans (by kernel_rfl)
    obtain ⟨c0, c1, rfl⟩ := list2F hl2
    have k0 : Try.prog.cellsOf 3 = 1 := by kernel_rfl
    dsimp only at a0 a1
    rw [k0] at a0 a1
    obtain ⟨x0, q0, -, w0⟩ := DataW.trod_int Try.underlying3 a0
    obtain ⟨x1, q1, -, w1⟩ := DataW.trod_int Try.underlying3 a1
    simp at q0 q1
    subst q0 q1
    exact ⟨⟨⟨x0, x1⟩, w0, w1⟩, rfl⟩) hval hlt h
  refine ⟨A, n, c, l.map (·.1), h1, h2, h3, ?_, ?_, h5⟩
  · have e : runsC (l.map (·.1)) = l.flatMap fun s => runC s.1 := by
      unfold runsC
      rw [List.flatMap_map]
    rw [e]
    exact h4
  · intro x hx
    obtain ⟨p, hp, hxp⟩ := List.mem_flatMap.1 hx
    obtain ⟨s, -, rfl⟩ := List.mem_map.1 hp
    simp only [List.mem_cons, List.not_mem_nil, or_false] at hxp
    rcases hxp with rfl | rfl
    · exact s.2.1
    · exact s.2.2
end Go.Proofs.Ythfjopnomkfegab
