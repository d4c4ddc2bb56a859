/-
  package tally: the state of Drop.
-/
import Derived.Test.YtjpleagcdncbfaaDropDefs
import Derived.Test.YtjpleagcdncbfaaTallyCounter
namespace Go.Proofs.Ytjpleagcdncbfaa
open Go.RowKit

def manyV (g : Int → Option Value) (V : Int → Nat) : Prop := ∀ x, (g x).getD (.int .i64 0) = .int .i64 (V x : Int)
def goneV (g : Int → Option Value) (G : List Int) : Prop := ∀ x, (g x).getD (.int .i64 0) = .int .i64 (if x ∈ G then 1 else 0)
theorem manyV.upd {g : Int → Option Value} {V : Int → Nat} (h : manyV g V) (x : Int) (v : Nat) : manyV (upd g x (.int .i64 (v : Int))) (fun y => if y = x then v else V y) := fun y => by
  unfold Go.Proofs.Ytjpleagcdncbfaa.upd
  dsimp only
  by_cases hy : y = x
  · rw [if_pos hy, if_pos hy]; rfl
  · rw [if_neg hy, if_neg hy]; exact h y
theorem goneV.add {g : Int → Option Value} {G : List Int} (h : goneV g G) (x : Int) : goneV (upd g x (.int .i64 1)) (G ++ [x]) := fun y => by
  unfold Go.Proofs.Ytjpleagcdncbfaa.upd
  by_cases hy : y = x
  · rw [if_pos hy, if_pos (by simp [hy])]; rfl
  · rw [if_neg hy, h y]
    by_cases hG : y ∈ G
    · rw [if_pos hG, if_pos (by simp [hG])]
    · rw [if_neg hG, if_neg (by simp [hG, hy])]

structure DropFx (w w1 : World) (gh b1 b2 R0 : Nat) (ob : Option Nat) : Prop where
  n1 : b1 ≠ b2
  n2 : gh ≠ b2
  l2 : b2 < R0
  m1 : b1 < w1.heap.size
  m2 : b2 < w1.heap.size
  m3 : gh < w1.heap.size
  base : w.heap.size ≤ b2
  bw : w.heap.size ≤ w1.heap.size
  hob : ∀ g, ob = some g → R0 ≤ g ∧ g < w1.heap.size

structure DropSt (w w1 : World) (gh b1 b2 R0 : Nat) (Ao : Option Addr) (k co : Nat) (a : List Int) (S : List Spot) (f1 : Int → Option Value) (N : Nat) (V : Int → Nat) (G O : List Int) (Ax : Option Addr) (cx : Nat) (wx : World) : Prop where
  fx : DropFx w w1 gh b1 b2 R0 (Value.slice Ao k co).ownBlock
  hdr : Blk wx gh 51 #[.slice Ao k co, .map (some b1), .map (some b2)]
  refs : ∃ N1, MapIs wx Try.prog 3 .i64 b1 N1 f1
  many : ∃ g, MapIs wx Try.prog 3 .i64 b2 N g ∧ manyV g V
  gone : ∃ g, MapIs wx Try.prog 3 .i64 w1.heap.size G.length g ∧ goneV g G
  order : wx.ownsRow R0 3 1 (.slice Ao k co) k ((begsL S).map (.int .i64))
  fin : FinR wx R0 w1.heap.size (Value.slice Ao k co).ownBlock a S f1 (begsL S)
  out : wx.ownsRow (w1.heap.size + 1) 3 1 (.slice Ax O.length cx) O.length (O.map (.int .i64))
  below : Below w.heap.size w wx
  size : w1.heap.size + 1 ≤ wx.heap.size

section
variable {w w1 wx w' : World} {gh b1 b2 R0 : Nat} {Ao : Option Addr} {k co : Nat} {a : List Int} {S : List Spot} {f1 : Int → Option Value} {N : Nat} {V V' : Int → Nat} {G O : List Int} {Ax : Option Addr} {cx : Nat}
theorem DropSt.alloc (h : DropSt w w1 gh b1 b2 R0 Ao k co a S f1 N V G O Ax cx wx) (o : Obj) : DropSt w w1 gh b1 b2 R0 Ao k co a S f1 N V G O Ax cx (wx.alloc o) := by
  obtain ⟨N1, h1⟩ := h.refs
  obtain ⟨g2, h2, h3⟩ := h.many
  obtain ⟨g3, h4, h5⟩ := h.gone
  exact ⟨h.fx, h.hdr.alloc o, ⟨N1, h1.alloc o⟩, ⟨g2, h2.alloc o, h3⟩, ⟨g3, h4.alloc o, h5⟩, h.order.alloc o, h.fin.alloc o, h.out.alloc o, h.below.alloc h.below.size o, by rw [World.size_alloc]; have := h.size; omega⟩
theorem DropSt.congr (h : DropSt w w1 gh b1 b2 R0 Ao k co a S f1 N V G O Ax cx wx) (hV : ∀ x, V x = V' x) : DropSt w w1 gh b1 b2 R0 Ao k co a S f1 N V' G O Ax cx wx := by
  have : V = V' := funext hV
  rw [← this]; exact h
/-- The map of counts is written. -/
theorem DropSt.count (h : DropSt w w1 gh b1 b2 R0 Ao k co a S f1 N V G O Ax cx wx) (hN : N < maxLen) {x : Int} (hx : (Lit.int .i64 x).wf = true) (v : Nat) :
    ∃ w', (Instr.mapUpdate 49 (.map (some b2)) (.int .i64 x) (.int .i64 (v : Int))).run Try.prog wx = .ok () w' ∧ DropSt w w1 gh b1 b2 R0 Ao k co a S f1 (N + 1) (fun y => if y = x then v else V y) G O Ax cx w' := by
  obtain ⟨N1, h1⟩ := h.refs
  obtain ⟨g2, h2, h3⟩ := h.many
  obtain ⟨g3, h4, h5⟩ := h.gone
  obtain ⟨n1, n2, l2, m1, m2, m3, fb, fbw, hob⟩ := h.fx
  obtain ⟨w', hrun, hM, hg⟩ := h2.store (k := 3) (t := 49) Try.underlying3 Try.underlying49 hN hx (.int .i64 (v : Int))
  refine ⟨w', hrun, h.fx, h.hdr.grown hg (fun e => by injection e with e; omega), ⟨N1, h1.kept hg (fun e => by injection e with e; omega)⟩, ⟨_, hM, h3.upd x v⟩, ⟨g3, h4.kept hg (fun e => by injection e with e; omega), h5⟩,
    own_grown h.order hg (fun g hg' e => by injection e with e; have := hob g hg'; omega), h.fin.grown hg (fun r e => by injection e with e; exact .inl (by omega)),
    own_grown h.out hg (fun g hg' e => by injection e with e; have := (h.out.lt g hg').1; omega), h.below.grown hg h.below.size (fun g e => by injection e with e; omega), by have := hg.size; have := h.size; omega⟩
/-- One more is gone. -/
theorem DropSt.go (h : DropSt w w1 gh b1 b2 R0 Ao k co a S f1 N V G O Ax cx wx) (hG : G.length ≤ 100000) {x : Int} (hx : (Lit.int .i64 x).wf = true) :
    ∃ w', (Instr.mapUpdate 49 (.map (some w1.heap.size)) (.int .i64 x) (.int .i64 1)).run Try.prog wx = .ok () w' ∧ DropSt w w1 gh b1 b2 R0 Ao k co a S f1 N V (G ++ [x]) O Ax cx w' := by
  obtain ⟨N1, h1⟩ := h.refs
  obtain ⟨g2, h2, h3⟩ := h.many
  obtain ⟨g3, h4, h5⟩ := h.gone
  obtain ⟨n1, n2, l2, m1, m2, m3, fb, fbw, hob⟩ := h.fx
  obtain ⟨w', hrun, hM, hg⟩ := h4.store (k := 3) (t := 49) Try.underlying3 Try.underlying49 (by unfold maxLen; omega) hx (.int .i64 1)
  refine ⟨w', hrun, h.fx, h.hdr.grown hg (fun e => by injection e with e; omega), ⟨N1, h1.kept hg (fun e => by injection e with e; omega)⟩, ⟨g2, h2.kept hg (fun e => by injection e with e; omega), h3⟩, ⟨_, by rw [List.length_append]; exact hM, h5.add x⟩,
    own_grown h.order hg (fun g hg' e => by injection e with e; have := hob g hg'; omega), h.fin.grown hg (fun r e => by injection e with e; exact .inr (.inl (by omega))),
    own_grown h.out hg (fun g hg' e => by injection e with e; have := (h.out.lt g hg').1; omega), h.below.grown hg h.below.size (fun g e => by injection e with e; omega), by have := hg.size; have := h.size; omega⟩
/-- The list grows. -/
theorem DropSt.grow (h : DropSt w w1 gh b1 b2 R0 Ao k co a S f1 N V G O Ax cx wx) (hg : wx.grownBy w' (Value.slice Ax O.length cx).ownBlock) {x : Int} {A5 : Option Addr} {c5 : Nat} (ho : w'.ownsRow (w1.heap.size + 1) 3 1 (.slice A5 (O.length + 1) c5) (O.length + 1) (O.map (.int .i64) ++ [.int .i64 x])) :
    DropSt w w1 gh b1 b2 R0 Ao k co a S f1 N V G (O ++ [x]) A5 c5 w' := by
  obtain ⟨N1, h1⟩ := h.refs
  obtain ⟨g2, h2, h3⟩ := h.many
  obtain ⟨g3, h4, h5⟩ := h.gone
  obtain ⟨n1, n2, l2, m1, m2, m3, fb, fbw, hob⟩ := h.fx
  have hlt := fun g hg => (h.out.lt g hg).1
  refine ⟨h.fx, h.hdr.grown hg (fun e => by have := hlt _ e.symm; omega), ⟨N1, h1.kept hg (fun e => by have := hlt _ e.symm; omega)⟩, ⟨g2, h2.kept hg (fun e => by have := hlt _ e.symm; omega), h3⟩, ⟨g3, h4.kept hg (fun e => by have := hlt _ e.symm; omega), h5⟩,
    own_grown h.order hg (fun g hg' e => by have := hlt _ e; have := hob g hg'; omega), h.fin.grown hg (fun r e => .inr (.inl (by have := hlt _ e; omega))),
    by rw [List.length_append, List.map_append]; exact ho, h.below.grown hg h.below.size (fun g e => by have := hlt _ e; omega), by have := hg.size; have := h.size; omega⟩
theorem DropSt.lookM (h : DropSt w w1 gh b1 b2 R0 Ao k co a S f1 N V G O Ax cx wx) {x : Int} (hx : (Lit.int .i64 x).wf = true) : (Instr.lookup 49 (.map (some b2)) (.int .i64 x) false).run Try.prog wx = .ok (.int .i64 (V x : Int)) wx := by
  obtain ⟨g2, h2, h3⟩ := h.many
  have := h2.look (k := 3) (t := 49) Try.underlying3 Try.underlying49 (zero_intv _) hx
  rw [h3 x] at this
  exact this
theorem DropSt.lookG (h : DropSt w w1 gh b1 b2 R0 Ao k co a S f1 N V G O Ax cx wx) {x : Int} (hx : (Lit.int .i64 x).wf = true) : (Instr.lookup 49 (.map (some w1.heap.size)) (.int .i64 x) false).run Try.prog wx = .ok (.int .i64 (if x ∈ G then 1 else 0)) wx := by
  obtain ⟨g2, h2, h3⟩ := h.gone
  have := h2.look (k := 3) (t := 49) Try.underlying3 Try.underlying49 (zero_intv _) hx
  rw [h3 x] at this
  exact this
theorem DropSt.lookR (h : DropSt w w1 gh b1 b2 R0 Ao k co a S f1 N V G O Ax cx wx) {x : Int} (hx : (Lit.int .i64 x).wf = true) (hb : x ∈ begsL S) : ∃ A m c, f1 x = some (.slice A m c) ∧ m = (linksAt a S x).length ∧ (Instr.lookup 48 (.map (some b1)) (.int .i64 x) false).run Try.prog wx = .ok (.slice A m c) wx := by
  obtain ⟨N1, h1⟩ := h.refs
  obtain ⟨A, m, c, e1, e2, -⟩ := h.fin x hb
  have := h1.look (k := 3) (t := 48) Try.underlying3 Try.underlying48 (zero_ints _) hx
  rw [e1] at this
  exact ⟨A, m, c, e1, by have := e2.1; simpa using this.symm, this⟩
theorem DropSt.readR (h : DropSt w w1 gh b1 b2 R0 Ao k co a S f1 N V G O Ax cx wx) {x : Int} (hb : x ∈ begsL S) {A : Option Addr} {m c : Nat} (he : f1 x = some (.slice A m c)) : Reads wx wx.heap.size 1 A m ((linksAt a S x).map (.int .i64)) := by
  obtain ⟨A', m', c', e1, e2, -⟩ := h.fin x hb
  rw [he] at e1
  injection e1 with e1
  injection e1 with q1 q2 q3
  subst q1 q2 q3
  exact Reads.of_own e2
end
end Go.Proofs.Ytjpleagcdncbfaa
