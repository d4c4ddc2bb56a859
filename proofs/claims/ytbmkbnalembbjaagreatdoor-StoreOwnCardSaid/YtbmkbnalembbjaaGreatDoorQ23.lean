/-
  Texts joined: ThreeBoxes StoreOwnW TwinDefs LawHalves.
-/
import Derived.Deep.CutRange
import Derived.Lib.SmallJoins
import Derived.Test.YtbmkbnalembbjaaGreatDoorQ0
import Derived.Test.YtbmkbnalembbjaaGreatDoorQ1
import Derived.Test.YtbmkbnalembbjaaGreatDoorQ2
import Derived.Test.YtbmkbnalembbjaaGreatDoorQ14
import Derived.Test.YtbmkbnalembbjaaGreatDoorQ22
namespace Go.Proofs.YtbmkbnalembbjaaGreatDoor
open Go.RowKit
def Bx (base : Nat) (t : TypeId) (W : World) (v u : Value) : Prop := ∃ p, v = .pointer (some ⟨p, 0, none⟩) ∧ base ≤ p ∧ Blk W p t #[u]
theorem Bx.below {base : Nat} {t : TypeId} {W W' : World} {v u : Value} (h : Bx base t W v u) (hb : Below W.heap.size W W') : Bx base t W' v u := by
  obtain ⟨p, h1, h2, h3⟩ := h
  exact ⟨p, h1, h2, h3.below hb h3.lt⟩
theorem Bx.ne {base : Nat} {t : TypeId} {W : World} {v u : Value} (h : Bx base t W v u) : v ≠ .pointer (some ⟨W.heap.size, 0, none⟩) := by
  obtain ⟨p, rfl, h2, h3⟩ := h
  intro e
  have := h3.lt
  injection e with e
  injection e with e
  injection e with e
  omega
theorem Bx.set_ {base : Nat} {t : TypeId} {W : World} {p : Nat} {u x : Value} (h : Bx base t W (.pointer (some ⟨p, 0, none⟩)) u) : Bx base t (W.setCell ⟨p, 0, none⟩ x) (.pointer (some ⟨p, 0, none⟩)) x := by
  obtain ⟨q, h1, h2, h3⟩ := h
  injection h1 with h1
  injection h1 with h1
  injection h1 with h1
  subst h1
  exact ⟨p, rfl, h2, by simpa using h3.set_ 0 x⟩
theorem Bx.far {base : Nat} {t : TypeId} {W : World} {p : Nat} {v u x : Value} (h : Bx base t W v u) (hne : v ≠ .pointer (some ⟨p, 0, none⟩)) : Bx base t (W.setCell ⟨p, 0, none⟩ x) v u := by
  obtain ⟨q, rfl, h2, h3⟩ := h
  refine ⟨q, rfl, h2, h3.far (p := ⟨p, 0, none⟩) (fun e => hne (by rw [e])) x⟩
def Cl (base : Nat) (e : TypeId) (n : Nat) (xs : List Value) (W : World) (v : Value) : Prop := ∃ A c, v = .slice A n c ∧ W.ownsRow base e 1 (.slice A n c) n xs
theorem Cl.below {base n : Nat} {e : TypeId} {xs : List Value} {W W' : World} {v : Value} (h : Cl base e n xs W v) (hb : Below W.heap.size W W') : Cl base e n xs W' v := by
  obtain ⟨A, c, h1, h2⟩ := h
  exact ⟨A, c, h1, own_below h2 hb⟩
theorem Cl.set_ {base n p : Nat} {e t : TypeId} {xs : List Value} {W : World} {v u x : Value} (h : Cl base e n xs W v) (hB : Blk W p t #[u]) (he : e ≠ t) : Cl base e n xs (W.setCell ⟨p, 0, none⟩ x) v := by
  obtain ⟨A, c, h1, h2⟩ := h
  exact ⟨A, c, h1, own_apart (p := ⟨p, 0, none⟩) h2 (own_blk_ne h2 hB he) x⟩
theorem Bx.kinds {W : World} {base base' : Nat} {t t' : TypeId} {v v' u u' : Value} (h : Bx base t W v u) (h' : Bx base' t' W v' u') (ht : t ≠ t') : v ≠ v' := by
  obtain ⟨p, rfl, -, h3⟩ := h
  obtain ⟨q, rfl, -, h6⟩ := h'
  intro e
  injection e with e
  injection e with e
  injection e with e
  subst e
  unfold Blk at h3 h6
  rw [h3] at h6
  simp only [Option.some.injEq, Obj.cells.injEq] at h6
  exact ht h6.2.1
structure R3B (w0 : World) (A : Option Addr) (n c : Nat) (G : Option Addr) (gn gc : Nat) (K : Option Addr) (kn kc : Nat) (a g b : List Int) (l : Array Bool) (v29 v30 v31 v32 v33 v34 v7 v8 v9 : Value) (W : World) : Prop where
  sz : l.size = 12
  bw : Below w0.heap.size w0 W
  late : Dn l 9 ∨ Dn l 10 ∨ Dn l 11 → ∀ j, j < 9 → Dn l j
  d0 : Dn l 0 → v29 = .slice A n c
  d1 : Dn l 1 → Cl w0.heap.size 45 n (a.map (.int .u64)) W v30
  d2 : Dn l 2 → v31 = .slice G gn gc
  d3 : Dn l 3 → Cl w0.heap.size 3 gn (g.map (.int .i64)) W v32
  d4 : Dn l 4 → v33 = .slice K kn kc
  d5 : Dn l 5 → Cl w0.heap.size 3 kn (b.map (.int .i64)) W v34
  d6 : Dn l 6 → ∃ u, Bx w0.heap.size 22 W v7 u ∧ (Dn l 9 → u = v30)
  d7 : Dn l 7 → ∃ u, Bx w0.heap.size 23 W v8 u ∧ (Dn l 10 → u = v32)
  d8 : Dn l 8 → ∃ u, Bx w0.heap.size 23 W v9 u ∧ (Dn l 11 → u = v34)
  ne : Dn l 7 → Dn l 8 → v8 ≠ v9
section
variable {w0 W W' : World} {A : Option Addr} {n c : Nat} {G : Option Addr} {gn gc : Nat} {K : Option Addr} {kn kc : Nat} {a g b : List Int} {l : Array Bool} {v29 v30 v31 v32 v33 v34 v7 v8 v9 : Value}
theorem R3B.start (h : Below w0.heap.size w0 W) : R3B w0 A n c G gn gc K kn kc a g b (Array.replicate 12 false) v29 v30 v31 v32 v33 v34 v7 v8 v9 W :=
  ⟨by simp, h, fun hl => by rcases hl with h | h | h <;> exact absurd h Dn.none, fun h => absurd h Dn.none, fun h => absurd h Dn.none, fun h => absurd h Dn.none, fun h => absurd h Dn.none, fun h => absurd h Dn.none, fun h => absurd h Dn.none, fun h => absurd h Dn.none, fun h => absurd h Dn.none, fun h => absurd h Dn.none, fun h => absurd h Dn.none⟩
theorem R3B.s0 {x : Value} (h : R3B w0 A n c G gn gc K kn kc a g b l v29 v30 v31 v32 v33 v34 v7 v8 v9 W) (hu : ¬ Dn l 0) (hb : Below W.heap.size W W') (hv : x = .slice A n c) : R3B w0 A n c G gn gc K kn kc a g b (l.setIfInBounds 0 true) x v30 v31 v32 v33 v34 v7 v8 v9 W' := by
  have hs : 0 < l.size := by rw [h.sz]; decide
  have hnl : ¬ (Dn l 9 ∨ Dn l 10 ∨ Dn l 11) := fun hl => hu (h.late hl 0 (by decide))
  have e : ∀ {j}, j ≠ 0 → Dn (l.setIfInBounds 0 true) j → Dn l j := fun hj hd => ((Dn.set hs).1 hd).resolve_left hj
  have hnl' : ¬ (Dn (l.setIfInBounds 0 true) 9 ∨ Dn (l.setIfInBounds 0 true) 10 ∨ Dn (l.setIfInBounds 0 true) 11) := fun hl => hnl (hl.imp (e (by decide)) (Or.imp (e (by decide)) (e (by decide))))
  exact ⟨by rw [Array.size_setIfInBounds]; exact h.sz, below_step h.bw hb, fun hl => absurd hl hnl', fun _ => hv, fun hd => (h.d1 (e (by decide) hd)).below hb, fun hd => h.d2 (e (by decide) hd), fun hd => (h.d3 (e (by decide) hd)).below hb, fun hd => h.d4 (e (by decide) hd), fun hd => (h.d5 (e (by decide) hd)).below hb, fun hd => by obtain ⟨u, h1, -⟩ := h.d6 (e (by decide) hd); exact ⟨u, h1.below hb, fun h9 => absurd (Or.inl h9) hnl'⟩, fun hd => by obtain ⟨u, h1, -⟩ := h.d7 (e (by decide) hd); exact ⟨u, h1.below hb, fun h10 => absurd (Or.inr (Or.inl h10)) hnl'⟩, fun hd => by obtain ⟨u, h1, -⟩ := h.d8 (e (by decide) hd); exact ⟨u, h1.below hb, fun h11 => absurd (Or.inr (Or.inr h11)) hnl'⟩, fun h1 h2 => h.ne (e (by decide) h1) (e (by decide) h2)⟩
theorem R3B.s1 {x : Value} (h : R3B w0 A n c G gn gc K kn kc a g b l v29 v30 v31 v32 v33 v34 v7 v8 v9 W) (hu : ¬ Dn l 1) (hb : Below W.heap.size W W') (hv : Cl w0.heap.size 45 n (a.map (.int .u64)) W' x) : R3B w0 A n c G gn gc K kn kc a g b (l.setIfInBounds 1 true) v29 x v31 v32 v33 v34 v7 v8 v9 W' := by
  have hs : 1 < l.size := by rw [h.sz]; decide
  have hnl : ¬ (Dn l 9 ∨ Dn l 10 ∨ Dn l 11) := fun hl => hu (h.late hl 1 (by decide))
  have e : ∀ {j}, j ≠ 1 → Dn (l.setIfInBounds 1 true) j → Dn l j := fun hj hd => ((Dn.set hs).1 hd).resolve_left hj
  have hnl' : ¬ (Dn (l.setIfInBounds 1 true) 9 ∨ Dn (l.setIfInBounds 1 true) 10 ∨ Dn (l.setIfInBounds 1 true) 11) := fun hl => hnl (hl.imp (e (by decide)) (Or.imp (e (by decide)) (e (by decide))))
  exact ⟨by rw [Array.size_setIfInBounds]; exact h.sz, below_step h.bw hb, fun hl => absurd hl hnl', fun hd => h.d0 (e (by decide) hd), fun _ => hv, fun hd => h.d2 (e (by decide) hd), fun hd => (h.d3 (e (by decide) hd)).below hb, fun hd => h.d4 (e (by decide) hd), fun hd => (h.d5 (e (by decide) hd)).below hb, fun hd => by obtain ⟨u, h1, -⟩ := h.d6 (e (by decide) hd); exact ⟨u, h1.below hb, fun h9 => absurd (Or.inl h9) hnl'⟩, fun hd => by obtain ⟨u, h1, -⟩ := h.d7 (e (by decide) hd); exact ⟨u, h1.below hb, fun h10 => absurd (Or.inr (Or.inl h10)) hnl'⟩, fun hd => by obtain ⟨u, h1, -⟩ := h.d8 (e (by decide) hd); exact ⟨u, h1.below hb, fun h11 => absurd (Or.inr (Or.inr h11)) hnl'⟩, fun h1 h2 => h.ne (e (by decide) h1) (e (by decide) h2)⟩
theorem R3B.s2 {x : Value} (h : R3B w0 A n c G gn gc K kn kc a g b l v29 v30 v31 v32 v33 v34 v7 v8 v9 W) (hu : ¬ Dn l 2) (hb : Below W.heap.size W W') (hv : x = .slice G gn gc) : R3B w0 A n c G gn gc K kn kc a g b (l.setIfInBounds 2 true) v29 v30 x v32 v33 v34 v7 v8 v9 W' := by
  have hs : 2 < l.size := by rw [h.sz]; decide
  have hnl : ¬ (Dn l 9 ∨ Dn l 10 ∨ Dn l 11) := fun hl => hu (h.late hl 2 (by decide))
  have e : ∀ {j}, j ≠ 2 → Dn (l.setIfInBounds 2 true) j → Dn l j := fun hj hd => ((Dn.set hs).1 hd).resolve_left hj
  have hnl' : ¬ (Dn (l.setIfInBounds 2 true) 9 ∨ Dn (l.setIfInBounds 2 true) 10 ∨ Dn (l.setIfInBounds 2 true) 11) := fun hl => hnl (hl.imp (e (by decide)) (Or.imp (e (by decide)) (e (by decide))))
  exact ⟨by rw [Array.size_setIfInBounds]; exact h.sz, below_step h.bw hb, fun hl => absurd hl hnl', fun hd => h.d0 (e (by decide) hd), fun hd => (h.d1 (e (by decide) hd)).below hb, fun _ => hv, fun hd => (h.d3 (e (by decide) hd)).below hb, fun hd => h.d4 (e (by decide) hd), fun hd => (h.d5 (e (by decide) hd)).below hb, fun hd => by obtain ⟨u, h1, -⟩ := h.d6 (e (by decide) hd); exact ⟨u, h1.below hb, fun h9 => absurd (Or.inl h9) hnl'⟩, fun hd => by obtain ⟨u, h1, -⟩ := h.d7 (e (by decide) hd); exact ⟨u, h1.below hb, fun h10 => absurd (Or.inr (Or.inl h10)) hnl'⟩, fun hd => by obtain ⟨u, h1, -⟩ := h.d8 (e (by decide) hd); exact ⟨u, h1.below hb, fun h11 => absurd (Or.inr (Or.inr h11)) hnl'⟩, fun h1 h2 => h.ne (e (by decide) h1) (e (by decide) h2)⟩
theorem R3B.s3 {x : Value} (h : R3B w0 A n c G gn gc K kn kc a g b l v29 v30 v31 v32 v33 v34 v7 v8 v9 W) (hu : ¬ Dn l 3) (hb : Below W.heap.size W W') (hv : Cl w0.heap.size 3 gn (g.map (.int .i64)) W' x) : R3B w0 A n c G gn gc K kn kc a g b (l.setIfInBounds 3 true) v29 v30 v31 x v33 v34 v7 v8 v9 W' := by
  have hs : 3 < l.size := by rw [h.sz]; decide
  have hnl : ¬ (Dn l 9 ∨ Dn l 10 ∨ Dn l 11) := fun hl => hu (h.late hl 3 (by decide))
  have e : ∀ {j}, j ≠ 3 → Dn (l.setIfInBounds 3 true) j → Dn l j := fun hj hd => ((Dn.set hs).1 hd).resolve_left hj
  have hnl' : ¬ (Dn (l.setIfInBounds 3 true) 9 ∨ Dn (l.setIfInBounds 3 true) 10 ∨ Dn (l.setIfInBounds 3 true) 11) := fun hl => hnl (hl.imp (e (by decide)) (Or.imp (e (by decide)) (e (by decide))))
  exact ⟨by rw [Array.size_setIfInBounds]; exact h.sz, below_step h.bw hb, fun hl => absurd hl hnl', fun hd => h.d0 (e (by decide) hd), fun hd => (h.d1 (e (by decide) hd)).below hb, fun hd => h.d2 (e (by decide) hd), fun _ => hv, fun hd => h.d4 (e (by decide) hd), fun hd => (h.d5 (e (by decide) hd)).below hb, fun hd => by obtain ⟨u, h1, -⟩ := h.d6 (e (by decide) hd); exact ⟨u, h1.below hb, fun h9 => absurd (Or.inl h9) hnl'⟩, fun hd => by obtain ⟨u, h1, -⟩ := h.d7 (e (by decide) hd); exact ⟨u, h1.below hb, fun h10 => absurd (Or.inr (Or.inl h10)) hnl'⟩, fun hd => by obtain ⟨u, h1, -⟩ := h.d8 (e (by decide) hd); exact ⟨u, h1.below hb, fun h11 => absurd (Or.inr (Or.inr h11)) hnl'⟩, fun h1 h2 => h.ne (e (by decide) h1) (e (by decide) h2)⟩
theorem R3B.s4 {x : Value} (h : R3B w0 A n c G gn gc K kn kc a g b l v29 v30 v31 v32 v33 v34 v7 v8 v9 W) (hu : ¬ Dn l 4) (hb : Below W.heap.size W W') (hv : x = .slice K kn kc) : R3B w0 A n c G gn gc K kn kc a g b (l.setIfInBounds 4 true) v29 v30 v31 v32 x v34 v7 v8 v9 W' := by
  have hs : 4 < l.size := by rw [h.sz]; decide
  have hnl : ¬ (Dn l 9 ∨ Dn l 10 ∨ Dn l 11) := fun hl => hu (h.late hl 4 (by decide))
  have e : ∀ {j}, j ≠ 4 → Dn (l.setIfInBounds 4 true) j → Dn l j := fun hj hd => ((Dn.set hs).1 hd).resolve_left hj
  have hnl' : ¬ (Dn (l.setIfInBounds 4 true) 9 ∨ Dn (l.setIfInBounds 4 true) 10 ∨ Dn (l.setIfInBounds 4 true) 11) := fun hl => hnl (hl.imp (e (by decide)) (Or.imp (e (by decide)) (e (by decide))))
  exact ⟨by rw [Array.size_setIfInBounds]; exact h.sz, below_step h.bw hb, fun hl => absurd hl hnl', fun hd => h.d0 (e (by decide) hd), fun hd => (h.d1 (e (by decide) hd)).below hb, fun hd => h.d2 (e (by decide) hd), fun hd => (h.d3 (e (by decide) hd)).below hb, fun _ => hv, fun hd => (h.d5 (e (by decide) hd)).below hb, fun hd => by obtain ⟨u, h1, -⟩ := h.d6 (e (by decide) hd); exact ⟨u, h1.below hb, fun h9 => absurd (Or.inl h9) hnl'⟩, fun hd => by obtain ⟨u, h1, -⟩ := h.d7 (e (by decide) hd); exact ⟨u, h1.below hb, fun h10 => absurd (Or.inr (Or.inl h10)) hnl'⟩, fun hd => by obtain ⟨u, h1, -⟩ := h.d8 (e (by decide) hd); exact ⟨u, h1.below hb, fun h11 => absurd (Or.inr (Or.inr h11)) hnl'⟩, fun h1 h2 => h.ne (e (by decide) h1) (e (by decide) h2)⟩
theorem R3B.s5 {x : Value} (h : R3B w0 A n c G gn gc K kn kc a g b l v29 v30 v31 v32 v33 v34 v7 v8 v9 W) (hu : ¬ Dn l 5) (hb : Below W.heap.size W W') (hv : Cl w0.heap.size 3 kn (b.map (.int .i64)) W' x) : R3B w0 A n c G gn gc K kn kc a g b (l.setIfInBounds 5 true) v29 v30 v31 v32 v33 x v7 v8 v9 W' := by
  have hs : 5 < l.size := by rw [h.sz]; decide
  have hnl : ¬ (Dn l 9 ∨ Dn l 10 ∨ Dn l 11) := fun hl => hu (h.late hl 5 (by decide))
  have e : ∀ {j}, j ≠ 5 → Dn (l.setIfInBounds 5 true) j → Dn l j := fun hj hd => ((Dn.set hs).1 hd).resolve_left hj
  have hnl' : ¬ (Dn (l.setIfInBounds 5 true) 9 ∨ Dn (l.setIfInBounds 5 true) 10 ∨ Dn (l.setIfInBounds 5 true) 11) := fun hl => hnl (hl.imp (e (by decide)) (Or.imp (e (by decide)) (e (by decide))))
  exact ⟨by rw [Array.size_setIfInBounds]; exact h.sz, below_step h.bw hb, fun hl => absurd hl hnl', fun hd => h.d0 (e (by decide) hd), fun hd => (h.d1 (e (by decide) hd)).below hb, fun hd => h.d2 (e (by decide) hd), fun hd => (h.d3 (e (by decide) hd)).below hb, fun hd => h.d4 (e (by decide) hd), fun _ => hv, fun hd => by obtain ⟨u, h1, -⟩ := h.d6 (e (by decide) hd); exact ⟨u, h1.below hb, fun h9 => absurd (Or.inl h9) hnl'⟩, fun hd => by obtain ⟨u, h1, -⟩ := h.d7 (e (by decide) hd); exact ⟨u, h1.below hb, fun h10 => absurd (Or.inr (Or.inl h10)) hnl'⟩, fun hd => by obtain ⟨u, h1, -⟩ := h.d8 (e (by decide) hd); exact ⟨u, h1.below hb, fun h11 => absurd (Or.inr (Or.inr h11)) hnl'⟩, fun h1 h2 => h.ne (e (by decide) h1) (e (by decide) h2)⟩
theorem R3B.s6 {x : Value} (h : R3B w0 A n c G gn gc K kn kc a g b l v29 v30 v31 v32 v33 v34 v7 v8 v9 W) (hu : ¬ Dn l 6) (hb : Below W.heap.size W W') (hv : ∃ u, Bx w0.heap.size 22 W' x u) : R3B w0 A n c G gn gc K kn kc a g b (l.setIfInBounds 6 true) v29 v30 v31 v32 v33 v34 x v8 v9 W' := by
  have hs : 6 < l.size := by rw [h.sz]; decide
  have hnl : ¬ (Dn l 9 ∨ Dn l 10 ∨ Dn l 11) := fun hl => hu (h.late hl 6 (by decide))
  have e : ∀ {j}, j ≠ 6 → Dn (l.setIfInBounds 6 true) j → Dn l j := fun hj hd => ((Dn.set hs).1 hd).resolve_left hj
  have hnl' : ¬ (Dn (l.setIfInBounds 6 true) 9 ∨ Dn (l.setIfInBounds 6 true) 10 ∨ Dn (l.setIfInBounds 6 true) 11) := fun hl => hnl (hl.imp (e (by decide)) (Or.imp (e (by decide)) (e (by decide))))
  exact ⟨by rw [Array.size_setIfInBounds]; exact h.sz, below_step h.bw hb, fun hl => absurd hl hnl', fun hd => h.d0 (e (by decide) hd), fun hd => (h.d1 (e (by decide) hd)).below hb, fun hd => h.d2 (e (by decide) hd), fun hd => (h.d3 (e (by decide) hd)).below hb, fun hd => h.d4 (e (by decide) hd), fun hd => (h.d5 (e (by decide) hd)).below hb, fun _ => by obtain ⟨u, h1⟩ := hv; exact ⟨u, h1, fun h9 => absurd (Or.inl h9) hnl'⟩, fun hd => by obtain ⟨u, h1, -⟩ := h.d7 (e (by decide) hd); exact ⟨u, h1.below hb, fun h10 => absurd (Or.inr (Or.inl h10)) hnl'⟩, fun hd => by obtain ⟨u, h1, -⟩ := h.d8 (e (by decide) hd); exact ⟨u, h1.below hb, fun h11 => absurd (Or.inr (Or.inr h11)) hnl'⟩, fun h1 h2 => h.ne (e (by decide) h1) (e (by decide) h2)⟩
theorem R3B.s7 {x : Value} (h : R3B w0 A n c G gn gc K kn kc a g b l v29 v30 v31 v32 v33 v34 v7 v8 v9 W) (hu : ¬ Dn l 7) (hb : Below W.heap.size W W') (hv : ∃ u, Bx w0.heap.size 23 W' x u) (hne : Dn l 8 → x ≠ v9) : R3B w0 A n c G gn gc K kn kc a g b (l.setIfInBounds 7 true) v29 v30 v31 v32 v33 v34 v7 x v9 W' := by
  have hs : 7 < l.size := by rw [h.sz]; decide
  have hnl : ¬ (Dn l 9 ∨ Dn l 10 ∨ Dn l 11) := fun hl => hu (h.late hl 7 (by decide))
  have e : ∀ {j}, j ≠ 7 → Dn (l.setIfInBounds 7 true) j → Dn l j := fun hj hd => ((Dn.set hs).1 hd).resolve_left hj
  have hnl' : ¬ (Dn (l.setIfInBounds 7 true) 9 ∨ Dn (l.setIfInBounds 7 true) 10 ∨ Dn (l.setIfInBounds 7 true) 11) := fun hl => hnl (hl.imp (e (by decide)) (Or.imp (e (by decide)) (e (by decide))))
  exact ⟨by rw [Array.size_setIfInBounds]; exact h.sz, below_step h.bw hb, fun hl => absurd hl hnl', fun hd => h.d0 (e (by decide) hd), fun hd => (h.d1 (e (by decide) hd)).below hb, fun hd => h.d2 (e (by decide) hd), fun hd => (h.d3 (e (by decide) hd)).below hb, fun hd => h.d4 (e (by decide) hd), fun hd => (h.d5 (e (by decide) hd)).below hb, fun hd => by obtain ⟨u, h1, -⟩ := h.d6 (e (by decide) hd); exact ⟨u, h1.below hb, fun h9 => absurd (Or.inl h9) hnl'⟩, fun _ => by obtain ⟨u, h1⟩ := hv; exact ⟨u, h1, fun h10 => absurd (Or.inr (Or.inl h10)) hnl'⟩, fun hd => by obtain ⟨u, h1, -⟩ := h.d8 (e (by decide) hd); exact ⟨u, h1.below hb, fun h11 => absurd (Or.inr (Or.inr h11)) hnl'⟩, fun _ h2 => hne (e (by decide) h2)⟩
theorem R3B.s8 {x : Value} (h : R3B w0 A n c G gn gc K kn kc a g b l v29 v30 v31 v32 v33 v34 v7 v8 v9 W) (hu : ¬ Dn l 8) (hb : Below W.heap.size W W') (hv : ∃ u, Bx w0.heap.size 23 W' x u) (hne : Dn l 7 → v8 ≠ x) : R3B w0 A n c G gn gc K kn kc a g b (l.setIfInBounds 8 true) v29 v30 v31 v32 v33 v34 v7 v8 x W' := by
  have hs : 8 < l.size := by rw [h.sz]; decide
  have hnl : ¬ (Dn l 9 ∨ Dn l 10 ∨ Dn l 11) := fun hl => hu (h.late hl 8 (by decide))
  have e : ∀ {j}, j ≠ 8 → Dn (l.setIfInBounds 8 true) j → Dn l j := fun hj hd => ((Dn.set hs).1 hd).resolve_left hj
  have hnl' : ¬ (Dn (l.setIfInBounds 8 true) 9 ∨ Dn (l.setIfInBounds 8 true) 10 ∨ Dn (l.setIfInBounds 8 true) 11) := fun hl => hnl (hl.imp (e (by decide)) (Or.imp (e (by decide)) (e (by decide))))
  exact ⟨by rw [Array.size_setIfInBounds]; exact h.sz, below_step h.bw hb, fun hl => absurd hl hnl', fun hd => h.d0 (e (by decide) hd), fun hd => (h.d1 (e (by decide) hd)).below hb, fun hd => h.d2 (e (by decide) hd), fun hd => (h.d3 (e (by decide) hd)).below hb, fun hd => h.d4 (e (by decide) hd), fun hd => (h.d5 (e (by decide) hd)).below hb, fun hd => by obtain ⟨u, h1, -⟩ := h.d6 (e (by decide) hd); exact ⟨u, h1.below hb, fun h9 => absurd (Or.inl h9) hnl'⟩, fun hd => by obtain ⟨u, h1, -⟩ := h.d7 (e (by decide) hd); exact ⟨u, h1.below hb, fun h10 => absurd (Or.inr (Or.inl h10)) hnl'⟩, fun _ => by obtain ⟨u, h1⟩ := hv; exact ⟨u, h1, fun h11 => absurd (Or.inr (Or.inr h11)) hnl'⟩, fun h1 _ => hne (e (by decide) h1)⟩
theorem R3B.s9 {p : Nat} (h : R3B w0 A n c G gn gc K kn kc a g b l v29 v30 v31 v32 v33 v34 v7 v8 v9 W) (hall : ∀ j, j < 9 → Dn l j) (hp : v7 = .pointer (some ⟨p, 0, none⟩)) : R3B w0 A n c G gn gc K kn kc a g b (l.setIfInBounds 9 true) v29 v30 v31 v32 v33 v34 v7 v8 v9 (W.setCell ⟨p, 0, none⟩ v30) := by
  have hs : 9 < l.size := by rw [h.sz]; decide
  have e : ∀ {j}, j ≠ 9 → Dn (l.setIfInBounds 9 true) j → Dn l j := fun hj hd => ((Dn.set hs).1 hd).resolve_left hj
  have e2 : ∀ {j}, Dn l j → Dn (l.setIfInBounds 9 true) j := fun hd => (Dn.set hs).2 (.inr hd)
  obtain ⟨u1, b1, k1⟩ := h.d6 (hall 6 (by decide))
  obtain ⟨u2, b2, k2⟩ := h.d7 (hall 7 (by decide))
  obtain ⟨u3, b3, k3⟩ := h.d8 (hall 8 (by decide))
  have n12 := b1.kinds b2 (by decide)
  have n13 := b1.kinds b3 (by decide)
  have n23 := h.ne (hall 7 (by decide)) (hall 8 (by decide))
  have c1 := h.d1 (hall 1 (by decide))
  have c3 := h.d3 (hall 3 (by decide))
  have c5 := h.d5 (hall 5 (by decide))
  have hB := b1
  obtain ⟨p', q1, q2, q3⟩ := hB
  rw [hp] at q1
  injection q1 with q1
  injection q1 with q1
  injection q1 with q1
  subst q1
  exact ⟨by rw [Array.size_setIfInBounds]; exact h.sz, h.bw.setCell (p := ⟨p, 0, none⟩) q2 _, fun _ j hj => e2 (hall j hj), fun hd => h.d0 (e (by decide) hd), fun _ => c1.set_ q3 (by decide), fun hd => h.d2 (e (by decide) hd), fun _ => c3.set_ q3 (by decide), fun hd => h.d4 (e (by decide) hd), fun _ => c5.set_ q3 (by decide), fun _ => ⟨v30, by rw [hp] at b1 ⊢; exact b1.set_, fun _ => rfl⟩, fun _ => ⟨u2, b2.far (by rw [← hp]; exact n12.symm), fun hd => k2 (e (by decide) hd)⟩, fun _ => ⟨u3, b3.far (by rw [← hp]; exact n13.symm), fun hd => k3 (e (by decide) hd)⟩, fun h1 h2 => h.ne (e (by decide) h1) (e (by decide) h2)⟩
theorem R3B.s10 {p : Nat} (h : R3B w0 A n c G gn gc K kn kc a g b l v29 v30 v31 v32 v33 v34 v7 v8 v9 W) (hall : ∀ j, j < 9 → Dn l j) (hp : v8 = .pointer (some ⟨p, 0, none⟩)) : R3B w0 A n c G gn gc K kn kc a g b (l.setIfInBounds 10 true) v29 v30 v31 v32 v33 v34 v7 v8 v9 (W.setCell ⟨p, 0, none⟩ v32) := by
  have hs : 10 < l.size := by rw [h.sz]; decide
  have e : ∀ {j}, j ≠ 10 → Dn (l.setIfInBounds 10 true) j → Dn l j := fun hj hd => ((Dn.set hs).1 hd).resolve_left hj
  have e2 : ∀ {j}, Dn l j → Dn (l.setIfInBounds 10 true) j := fun hd => (Dn.set hs).2 (.inr hd)
  obtain ⟨u1, b1, k1⟩ := h.d6 (hall 6 (by decide))
  obtain ⟨u2, b2, k2⟩ := h.d7 (hall 7 (by decide))
  obtain ⟨u3, b3, k3⟩ := h.d8 (hall 8 (by decide))
  have n12 := b1.kinds b2 (by decide)
  have n13 := b1.kinds b3 (by decide)
  have n23 := h.ne (hall 7 (by decide)) (hall 8 (by decide))
  have c1 := h.d1 (hall 1 (by decide))
  have c3 := h.d3 (hall 3 (by decide))
  have c5 := h.d5 (hall 5 (by decide))
  have hB := b2
  obtain ⟨p', q1, q2, q3⟩ := hB
  rw [hp] at q1
  injection q1 with q1
  injection q1 with q1
  injection q1 with q1
  subst q1
  exact ⟨by rw [Array.size_setIfInBounds]; exact h.sz, h.bw.setCell (p := ⟨p, 0, none⟩) q2 _, fun _ j hj => e2 (hall j hj), fun hd => h.d0 (e (by decide) hd), fun _ => c1.set_ q3 (by decide), fun hd => h.d2 (e (by decide) hd), fun _ => c3.set_ q3 (by decide), fun hd => h.d4 (e (by decide) hd), fun _ => c5.set_ q3 (by decide), fun _ => ⟨u1, b1.far (by rw [← hp]; exact n12), fun hd => k1 (e (by decide) hd)⟩, fun _ => ⟨v32, by rw [hp] at b2 ⊢; exact b2.set_, fun _ => rfl⟩, fun _ => ⟨u3, b3.far (by rw [← hp]; exact n23.symm), fun hd => k3 (e (by decide) hd)⟩, fun h1 h2 => h.ne (e (by decide) h1) (e (by decide) h2)⟩
theorem R3B.s11 {p : Nat} (h : R3B w0 A n c G gn gc K kn kc a g b l v29 v30 v31 v32 v33 v34 v7 v8 v9 W) (hall : ∀ j, j < 9 → Dn l j) (hp : v9 = .pointer (some ⟨p, 0, none⟩)) : R3B w0 A n c G gn gc K kn kc a g b (l.setIfInBounds 11 true) v29 v30 v31 v32 v33 v34 v7 v8 v9 (W.setCell ⟨p, 0, none⟩ v34) := by
  have hs : 11 < l.size := by rw [h.sz]; decide
  have e : ∀ {j}, j ≠ 11 → Dn (l.setIfInBounds 11 true) j → Dn l j := fun hj hd => ((Dn.set hs).1 hd).resolve_left hj
  have e2 : ∀ {j}, Dn l j → Dn (l.setIfInBounds 11 true) j := fun hd => (Dn.set hs).2 (.inr hd)
  obtain ⟨u1, b1, k1⟩ := h.d6 (hall 6 (by decide))
  obtain ⟨u2, b2, k2⟩ := h.d7 (hall 7 (by decide))
  obtain ⟨u3, b3, k3⟩ := h.d8 (hall 8 (by decide))
  have n12 := b1.kinds b2 (by decide)
  have n13 := b1.kinds b3 (by decide)
  have n23 := h.ne (hall 7 (by decide)) (hall 8 (by decide))
  have c1 := h.d1 (hall 1 (by decide))
  have c3 := h.d3 (hall 3 (by decide))
  have c5 := h.d5 (hall 5 (by decide))
  have hB := b3
  obtain ⟨p', q1, q2, q3⟩ := hB
  rw [hp] at q1
  injection q1 with q1
  injection q1 with q1
  injection q1 with q1
  subst q1
  exact ⟨by rw [Array.size_setIfInBounds]; exact h.sz, h.bw.setCell (p := ⟨p, 0, none⟩) q2 _, fun _ j hj => e2 (hall j hj), fun hd => h.d0 (e (by decide) hd), fun _ => c1.set_ q3 (by decide), fun hd => h.d2 (e (by decide) hd), fun _ => c3.set_ q3 (by decide), fun hd => h.d4 (e (by decide) hd), fun _ => c5.set_ q3 (by decide), fun _ => ⟨u1, b1.far (by rw [← hp]; exact n13), fun hd => k1 (e (by decide) hd)⟩, fun _ => ⟨u2, b2.far (by rw [← hp]; exact n23), fun hd => k2 (e (by decide) hd)⟩, fun _ => ⟨v34, by rw [hp] at b3 ⊢; exact b3.set_, fun _ => rfl⟩, fun h1 h2 => h.ne (e (by decide) h1) (e (by decide) h2)⟩
end
theorem all_done {md : Region.Mode} {ops : Array Oper} {l : Array Bool} (hs : l.size = ops.size) (hr : Region.ready md ops l = []) (hlow : ((List.range ops.size).all fun i => ((ops[i]?).map fun o => o.after.toList.all fun e => decide (e.on < i)).getD true) = true) : ∀ i, i < ops.size → Dn l i := by
  intro i
  induction i using Nat.strongRecOn with
  | ind i ih =>
    intro hi
    refine Classical.byContradiction fun hn => ?_
    have ho : ops[i]? = some ops[i] := Array.getElem?_eq_getElem hi
    have h1 := List.all_eq_true.1 hlow i (List.mem_range.2 hi)
    rw [ho] at h1
    simp only [Option.map_some, Option.getD_some] at h1
    have hm : i ∈ Region.ready md ops l := by
      refine mem_ready.2 ⟨?_, ops[i], ho, fun e he hb => ?_⟩
      · unfold Dn at hn
        have hl : i < l.size := by omega
        simp [hl] at hn ⊢
        exact hn
      · have h2 : e.on < i := by
          have := List.all_eq_true.1 h1 e (Array.mem_toList_iff.2 he)
          simpa using this
        exact ih e.on h2 (by omega)
    rw [hr] at hm
    cases hm
end Go.Proofs.YtbmkbnalembbjaaGreatDoor

namespace Go.Proofs.YtbmkbnalembbjaaGreatDoor
open Go.RowKit
theorem idxS (vs : Array Value) (k : Nat) (hk : k < 4) (hv : vs.size = 16) (w : World) : (Instr.index 67 (.agg vs) (.int .i64 k)).run Tryz.prog w = .ok (.agg (vs.extract (k * 4) (k * 4 + 4))) w := by
  have h1 : (0 : Int) ≤ k ∧ (k : Int) < 4 := by omega
  have h3 : k < 4 := hk
  simp [Instr.index, asIntOf, run_underlying Tryz.underlying67, isAgg, h1, h3, hv, go_sem]
set_option maxRecDepth 100000 in
set_option maxHeartbeats 8000000 in
theorem storeOwn_walk (A : Option Addr) (n c : Nat) (RA : Option Addr) (rn rc : Nat) (PA : Option Addr) (pn pc : Nat) (HA : Option Addr) (hn hc : Nat) (S : St) (slot r b t : Int) (f : Bool) (o : OpV) (w : World) (hR : StR w w.heap.size A n RA rn PA pn HA hn S) (hK : StK n c rn pn hn S) (m1 : n * 8 ≤ 140737488351232) (m2 : rn * 8 ≤ 140737488351232) (m3 : pn * 16 ≤ 140737488351232) (m4 : hn * 24 ≤ 140737488351232) (v0 : 0 ≤ o.v) (v1 : o.v < 18446744073709551616) (hT : FTab w) :
    Calls Tryz.prog 4 #[.agg #[.slice A n c, .slice RA rn rc, .slice PA pn pc, .slice HA hn hc], .int .i64 slot, .agg #[.int .i64 r, .int .i64 b, .int .i64 t, .bool f], .agg #[.int .i64 o.kind, .int .i64 o.a, .int .i64 o.b, .int .i64 o.c, .int .u64 o.v]] w fun e w' => e = .returned (.bool true) ∧ Below w.heap.size w w' := by
  have hb0 := ((below_new w (.cells #[.slice A n c, .slice RA rn rc, .slice PA pn pc, .slice HA hn hc] 28)).alloc (by simp) (.cells #[.int .i64 r, .int .i64 b, .int .i64 t, .bool f] 50)).alloc (by simp; omega) (.cells #[.int .i64 o.kind, .int .i64 o.a, .int .i64 o.b, .int .i64 o.c, .int .u64 o.v] 52)
  have DS := ((Blk.new w 28 #[.slice A n c, .slice RA rn rc, .slice PA pn pc, .slice HA hn hc]).alloc (.cells #[.int .i64 r, .int .i64 b, .int .i64 t, .bool f] 50)).alloc (.cells #[.int .i64 o.kind, .int .i64 o.a, .int .i64 o.b, .int .i64 o.c, .int .u64 o.v] 52)
  have DH := (Blk.new (w.alloc (.cells #[.slice A n c, .slice RA rn rc, .slice PA pn pc, .slice HA hn hc] 28)) 50 #[.int .i64 r, .int .i64 b, .int .i64 t, .bool f]).alloc (.cells #[.int .i64 o.kind, .int .i64 o.a, .int .i64 o.b, .int .i64 o.c, .int .u64 o.v] 52)
  have DO := Blk.new ((w.alloc (.cells #[.slice A n c, .slice RA rn rc, .slice PA pn pc, .slice HA hn hc] 28)).alloc (.cells #[.int .i64 r, .int .i64 b, .int .i64 t, .bool f] 50)) 52 #[.int .i64 o.kind, .int .i64 o.a, .int .i64 o.b, .int .i64 o.c, .int .u64 o.v]
  simp only [World.size_alloc] at DH DO
  have C1 := Lib.hid (fun W (h : Below w.heap.size w W) => clone_u64 A n c _ (S.a.map (.int .u64)) W (hR.a.below h) h.size (by intro u hu; obtain ⟨x, -, rfl⟩ := List.mem_map.1 hu; rfl) (by omega))
  have C2 := Lib.hid (fun W (h : Below w.heap.size w W) => clone_int RA rn rc _ (S.r.map (.int .i64)) W (hR.r.below h) h.size (ints_one _) (by omega))
  have C3 := Lib.hid (fun W (h : Below w.heap.size w W) => clone_pinB PA pn pc _ (runsC S.p) W (hR.p.below h) h.size (runsC_one _) (by omega))
  have C4 := Lib.hid (fun W (h : Below w.heap.size w W) => clone_slotsB HA hn hc _ (slotsC S.l) W (hR.l.below h) h.size (slotsC_one _) (by omega))
  have HMk := Lib.hid (fun W (h : Below w.heap.size w W) => makeX A n c RA rn rc PA pn pc HA hn hc S W ((hR.below h).more h.size) hK slot r b t f)
  have HCo := Lib.hid (fun W (h : Below w.heap.size w W) => collX A n c RA rn rc PA pn pc HA hn hc S W ((hR.below h).more h.size) hK)
  have HDo := Lib.hid (fun W (h : Below w.heap.size w W) => doX A n c RA rn rc PA pn pc HA hn hc S W ((hR.below h).more h.size) hK o (hT.below h) v0 v1)
  have HPl := Lib.hid (fun W (h : Below w.heap.size w W) => playX A n c RA rn rc PA pn pc HA hn hc S W ((hR.below h).more h.size) hK (hT.below h))
  clear hK hT v0 v1
  go_enter Tryz.func4, Tryz.ntmps4
  go_wp2_with fail
  refine (stores_true _).mono ?_
  rintro e w1 ⟨rfl, hb1⟩
  have hb01 := below_step hb0 hb1
  have DS1 := DS.below hb1 DS.lt
  have DH1 := DH.below hb1 DH.lt
  have DO1 := DO.below hb1 DO.lt
  clear hb0 hb1 DS DH DO
  go_upto_region 3 with fail
  go_cut [9] from 31 to 43 (fun s9 wc => Below w1.heap.size w1 wc ∧ ∃ p A1 d1 A2 d2 A3 d3 A4 d4, s9 = .pointer (some ⟨p, 0, none⟩) ∧ Blk wc p 28 #[.slice A1 n d1, .slice A2 rn d2, .slice A3 pn d3, .slice A4 hn d4] ∧
    wc.ownsRow w1.heap.size 45 1 (.slice A1 n d1) n (S.a.map (.int .u64)) ∧ wc.ownsRow w1.heap.size 3 1 (.slice A2 rn d2) rn (S.r.map (.int .i64)) ∧ wc.ownsRow w1.heap.size 57 2 (.slice A3 pn d3) pn (runsC S.p) ∧ wc.ownsRow w1.heap.size 60 3 (.slice A4 hn d4) hn (slotsC S.l))
  case first =>
    refine wp_region_any rfl ?_
    refine wpAny_inv3 (I := (fun s0 l s W => ∃ v31 v32 v33 v34 v35 v36 v37 v38 v39 v40 v41 v42 v43 v9 : Value, s = ((((((((((((((s0.put (some 31) v31).put (some 32) v32).put (some 33) v33).put (some 34) v34).put (some 35) v35).put (some 36) v36).put (some 37) v37).put (some 38) v38).put (some 39) v39).put (some 40) v40).put (some 41) v41).put (some 42) v42).put (some 43) v43).put (some 9) v9) ∧ R4B w1 w.heap.size A n c RA rn rc PA pn pc HA hn hc S l v31 v32 v33 v34 v35 v36 v37 v38 v39 v40 v41 v42 v43 v9 W)) _ _ ?hend ?hstep ?start
    case start => exact ⟨_, _, _, _, _, _, _, _, _, _, _, _, _, _, puts14 _ 31 32 33 34 35 36 37 38 39 40 41 42 43 9, R4B.start (Below.refl _ w1).drew⟩
    case hend =>
      intro l s W hI hsz hrd
      obtain ⟨v31, v32, v33, v34, v35, v36, v37, v38, v39, v40, v41, v42, v43, v9, rfl, hT⟩ := hI
      have had := all_done hsz hrd (by rfl)
      obtain ⟨A1, d1, rfl, o1⟩ := hT.d2 (had 2 (by decide))
      obtain ⟨A2, d2, rfl, o2⟩ := hT.d5 (had 5 (by decide))
      obtain ⟨A3, d3, rfl, o3⟩ := hT.d8 (had 8 (by decide))
      obtain ⟨A4, d4, rfl, o4⟩ := hT.d11 (had 11 (by decide))
      obtain ⟨x0, x1, x2, x3, ⟨p, rfl, l1, B1⟩, k1⟩ := hT.d13 (had 13 (by decide))
      obtain ⟨rfl, rfl, rfl, rfl⟩ := k1 (had 14 (by decide))
      have hbT := hT.bw
      clear hT had hsz hrd
      go_simp
      go_wp2_with fail
      go_meet
      exact ⟨hbT, p, A1, d1, A2, d2, A3, d3, A4, d4, rfl, B1, o1, o2, o3, o4⟩
    case hstep =>
      intro l s W i o hI hcl hil hu ho haf
      obtain ⟨v31, v32, v33, v34, v35, v36, v37, v38, v39, v40, v41, v42, v43, v9, rfl, hT⟩ := hI
      have hi15 : i < 15 := by rw [← hT.sz]; exact hil
      have hbW := below_step hb01 hT.bw
      obtain ⟨s0, s1, s2, s3⟩ := (DS1.below hT.bw DS1.lt).four
      have hi : i = 0 ∨ i = 1 ∨ i = 2 ∨ i = 3 ∨ i = 4 ∨ i = 5 ∨ i = 6 ∨ i = 7 ∨ i = 8 ∨ i = 9 ∨ i = 10 ∨ i = 11 ∨ i = 12 ∨ i = 13 ∨ i = 14 := by omega
      rcases hi with rfl | rfl | rfl | rfl | rfl | rfl | rfl | rfl | rfl | rfl | rfl | rfl | rfl | rfl | rfl
      · have hop := ho
        clear haf hop ho hcl
        refine wpOp_list rfl ?_
        go_wp2_with fail
        refine onto_normal ⟨.pointer (some ⟨w.heap.size, 0, none⟩), v32, v33, v34, v35, v36, v37, v38, v39, v40, v41, v42, v43, v9, by go_simp, hT.s0 hu (Below.refl _ _) rfl⟩
      · have hop := ho
        obtain rfl := hT.d0 (pre_dn ho haf 0 rfl)
        clear haf hop ho hcl
        refine wpOp_list rfl ?_
        go_wp2_with fail
        refine onto_normal ⟨_, .slice A n c, v33, v34, v35, v36, v37, v38, v39, v40, v41, v42, v43, v9, by go_simp, hT.s1 hu (Below.refl _ _) rfl⟩
      · have hop := ho
        obtain rfl := hT.d1 (pre_dn ho haf 1 rfl)
        clear haf hop ho hcl
        refine wpOp_list rfl ?_
        go_wp2_with (go_at_call 15; (with_reducible refine (C1.out _ hbW).mono ?_); rintro e W2 ⟨A1, d1, rfl, ho1, hb2⟩)
        refine onto_normal ⟨v31, _, .slice A1 n d1, v34, v35, v36, v37, v38, v39, v40, v41, v42, v43, v9, by go_simp, hT.s2 hu hb2 ⟨A1, d1, rfl, own_mono ho1 hT.bw.size⟩⟩
      · have hop := ho
        clear haf hop ho hcl
        refine wpOp_list rfl ?_
        go_wp2_with fail
        refine onto_normal ⟨v31, v32, v33, .pointer (some ⟨w.heap.size, 1, none⟩), v35, v36, v37, v38, v39, v40, v41, v42, v43, v9, by go_simp, hT.s3 hu (Below.refl _ _) rfl⟩
      · have hop := ho
        obtain rfl := hT.d3 (pre_dn ho haf 3 rfl)
        clear haf hop ho hcl
        refine wpOp_list rfl ?_
        go_wp2_with fail
        refine onto_normal ⟨v31, v32, v33, _, .slice RA rn rc, v36, v37, v38, v39, v40, v41, v42, v43, v9, by go_simp, hT.s4 hu (Below.refl _ _) rfl⟩
      · have hop := ho
        obtain rfl := hT.d4 (pre_dn ho haf 4 rfl)
        clear haf hop ho hcl
        refine wpOp_list rfl ?_
        go_wp2_with (go_at_call 16; (with_reducible refine (C2.out _ hbW).mono ?_); rintro e W2 ⟨A1, d1, rfl, ho1, hb2⟩)
        refine onto_normal ⟨v31, v32, v33, v34, _, .slice A1 rn d1, v37, v38, v39, v40, v41, v42, v43, v9, by go_simp, hT.s5 hu hb2 ⟨A1, d1, rfl, own_mono ho1 hT.bw.size⟩⟩
      · have hop := ho
        clear haf hop ho hcl
        refine wpOp_list rfl ?_
        go_wp2_with fail
        refine onto_normal ⟨v31, v32, v33, v34, v35, v36, .pointer (some ⟨w.heap.size, 2, none⟩), v38, v39, v40, v41, v42, v43, v9, by go_simp, hT.s6 hu (Below.refl _ _) rfl⟩
      · have hop := ho
        obtain rfl := hT.d6 (pre_dn ho haf 6 rfl)
        clear haf hop ho hcl
        refine wpOp_list rfl ?_
        go_wp2_with fail
        refine onto_normal ⟨v31, v32, v33, v34, v35, v36, _, .slice PA pn pc, v39, v40, v41, v42, v43, v9, by go_simp, hT.s7 hu (Below.refl _ _) rfl⟩
      · have hop := ho
        obtain rfl := hT.d7 (pre_dn ho haf 7 rfl)
        clear haf hop ho hcl
        refine wpOp_list rfl ?_
        go_wp2_with (go_at_call 17; (with_reducible refine (C3.out _ hbW).mono ?_); rintro e W2 ⟨A1, d1, rfl, ho1, hb2⟩)
        refine onto_normal ⟨v31, v32, v33, v34, v35, v36, v37, _, .slice A1 pn d1, v40, v41, v42, v43, v9, by go_simp, hT.s8 hu hb2 ⟨A1, d1, rfl, own_mono ho1 hT.bw.size⟩⟩
      · have hop := ho
        clear haf hop ho hcl
        refine wpOp_list rfl ?_
        go_wp2_with fail
        refine onto_normal ⟨v31, v32, v33, v34, v35, v36, v37, v38, v39, .pointer (some ⟨w.heap.size, 3, none⟩), v41, v42, v43, v9, by go_simp, hT.s9 hu (Below.refl _ _) rfl⟩
      · have hop := ho
        obtain rfl := hT.d9 (pre_dn ho haf 9 rfl)
        clear haf hop ho hcl
        refine wpOp_list rfl ?_
        go_wp2_with fail
        refine onto_normal ⟨v31, v32, v33, v34, v35, v36, v37, v38, v39, _, .slice HA hn hc, v42, v43, v9, by go_simp, hT.s10 hu (Below.refl _ _) rfl⟩
      · have hop := ho
        obtain rfl := hT.d10 (pre_dn ho haf 10 rfl)
        clear haf hop ho hcl
        refine wpOp_list rfl ?_
        go_wp2_with (go_at_call 18; (with_reducible refine (C4.out _ hbW).mono ?_); rintro e W2 ⟨A1, d1, rfl, ho1, hb2⟩)
        refine onto_normal ⟨v31, v32, v33, v34, v35, v36, v37, v38, v39, v40, _, .slice A1 hn d1, v43, v9, by go_simp, hT.s11 hu hb2 ⟨A1, d1, rfl, own_mono ho1 hT.bw.size⟩⟩
      · have hop := ho
        have q2 : Dn l 2 := pre_dn ho haf 2 rfl
        have q5 : Dn l 5 := pre_dn ho haf 5 rfl
        have q8 : Dn l 8 := pre_dn ho haf 8 rfl
        have q11 : Dn l 11 := pre_dn ho haf 11 rfl
        obtain ⟨A1, d1, rfl, -⟩ := hT.d2 q2
        obtain ⟨A2, d2, rfl, -⟩ := hT.d5 q5
        obtain ⟨A3, d3, rfl, -⟩ := hT.d8 q8
        obtain ⟨A4, d4, rfl, -⟩ := hT.d11 q11
        clear haf hop ho hcl
        refine wpOp_list rfl ?_
        go_wp2_with fail
        refine onto_normal ⟨v31, v32, _, v34, v35, _, v37, v38, _, v40, v41, _, .agg #[.slice A1 n d1, .slice A2 rn d2, .slice A3 pn d3, .slice A4 hn d4], v9, by go_simp, hT.s12 hu (Below.refl _ _) rfl ⟨q2, q5, q8, q11⟩⟩
      · have hop := ho
        clear haf hop ho hcl
        refine wpOp_list rfl ?_
        go_wp2_with fail
        refine onto_normal ⟨v31, v32, v33, v34, v35, v36, v37, v38, v39, v40, v41, v42, v43, .pointer (some ⟨W.heap.size, 0, none⟩), by go_simp, hT.s13 hu (below_new W _) ⟨.slice none 0 0, .slice none 0 0, .slice none 0 0, .slice none 0 0, W.heap.size, rfl, hT.bw.size, Blk.new W 28 _⟩⟩
      · have hop := ho
        have q12 : Dn l 12 := pre_dn ho haf 12 rfl
        have q13 : Dn l 13 := pre_dn ho haf 13 rfl
        have q2 : Dn l 2 := hcl.dn q12 2 rfl
        have q1 : Dn l 1 := hcl.dn q2 1 rfl
        have q0 : Dn l 0 := hcl.dn q1 0 rfl
        have q5 : Dn l 5 := hcl.dn q12 5 rfl
        have q4 : Dn l 4 := hcl.dn q5 4 rfl
        have q3 : Dn l 3 := hcl.dn q4 3 rfl
        have q8 : Dn l 8 := hcl.dn q12 8 rfl
        have q7 : Dn l 7 := hcl.dn q8 7 rfl
        have q6 : Dn l 6 := hcl.dn q7 6 rfl
        have q11 : Dn l 11 := hcl.dn q12 11 rfl
        have q10 : Dn l 10 := hcl.dn q11 10 rfl
        have q9 : Dn l 9 := hcl.dn q10 9 rfl
        have hall : ∀ j, j < 14 → Dn l j := fun j hj => by
          have hj2 : j = 0 ∨ j = 1 ∨ j = 2 ∨ j = 3 ∨ j = 4 ∨ j = 5 ∨ j = 6 ∨ j = 7 ∨ j = 8 ∨ j = 9 ∨ j = 10 ∨ j = 11 ∨ j = 12 ∨ j = 13 := by omega
          rcases hj2 with rfl | rfl | rfl | rfl | rfl | rfl | rfl | rfl | rfl | rfl | rfl | rfl | rfl | rfl
          all_goals assumption
        obtain rfl := hT.d12 q12
        obtain ⟨A1, d1, rfl, -⟩ := hT.d2 q2
        obtain ⟨A2, d2, rfl, -⟩ := hT.d5 q5
        obtain ⟨A3, d3, rfl, -⟩ := hT.d8 q8
        obtain ⟨A4, d4, rfl, -⟩ := hT.d11 q11
        obtain ⟨x0, x1, x2, x3, ⟨p, rfl, hp, hB⟩, -⟩ := hT.d13 q13
        obtain ⟨k0, k1, k2, k3⟩ := hB.four
        obtain ⟨f0, f1, f2, f3⟩ := hB.four_frozen
        have hR2 := hT.s14 hall rfl
        clear haf hop ho hcl hall
        refine wpOp_list rfl ?_
        go_wp2_with fail
        refine onto_normal ⟨_, _, _, _, _, _, _, _, _, _, _, _, _, _, ?_, hR2⟩
        go_simp
  case rest =>
    obtain ⟨hbc, p, A1, d1, A2, d2, A3, d3, A4, d4, rfl, B1, o1, o2, o3, o4⟩ := hcut
    have hb02 := below_step hb01 hbc
    have DS2 := DS1.below hbc DS1.lt
    have DH2 := DH1.below hbc DH1.lt
    have DO2 := DO1.below hbc DO1.lt
    obtain ⟨w2, hw2⟩ : ∃ w2, w2 = wc := ⟨wc, rfl⟩
    subst hw2
    have HCs := Lib.hid (fun W (h : Below w2.heap.size w2 W) => sameSt_true A n c RA rn rc PA pn pc HA hn hc A1 d1 A2 d2 A3 d3 A4 d4 S W ((hR.below (below_step hb02 h)).more (below_step hb02 h).size) ⟨Reads.of_own (own_below o1 h), Reads.of_own (own_below o2 h), Reads.of_own (own_below o3 h), Reads.of_own (own_below o4 h)⟩ (by omega) (by omega) (by omega) (by omega))
    have HDS := Lib.hid (fun W (h : Below w2.heap.size w2 W) => (DS2.below h DS2.lt).four)
    have HDH := Lib.hid (fun W (h : Below w2.heap.size w2 W) => (DH2.below h DH2.lt).four)
    have HDO := Lib.hid (fun W (h : Below w2.heap.size w2 W) => (DO2.below h DO2.lt).five)
    have HDB := Lib.hid (fun W (h : Below w2.heap.size w2 W) => (B1.below h B1.lt).four)
    have HB02 := Lib.hid hb02
    clear o1 o2 o3 o4 B1 C1 C2 C3 C4 DS1 DH1 DO1 DS2 DH2 DO2 hb01 hbc hR m1 m2 m3 m4
    have h22 := Below.refl w2.heap.size w2
    obtain ⟨s0, s1, s2, s3⟩ := HDS.out w2 h22
    obtain ⟨h0, h1, h2, h3⟩ := HDH.out w2 h22
    obtain ⟨o0, o1, o2, o3, o4⟩ := HDO.out w2 h22
    go_wp2_with fail
    refine (HMk.out _ (below_step HB02.out h22)).mono ?_
    rintro e w3 ⟨hb3, X1, xn1, xd1, X2, xn2, xd2, X3, xn3, xd3, X4, xn4, xd4, xa, xb, rfl, FX⟩
    have g3 := below_step h22 hb3
    have FX := FX.mono (base := w2.heap.size) (by have := Below.size h22; omega)
    have DX := Blk.new w3 28 #[.slice X1 xn1 xd1, .slice X2 xn2 xd2, .slice X3 xn3 xd3, .slice X4 xn4 xd4]
    have j3 := g3.alloc g3.size (.cells #[.slice X1 xn1 xd1, .slice X2 xn2 xd2, .slice X3 xn3 xd3, .slice X4 xn4 xd4] 28)
    have FX := FX.below (below_new w3 (.cells #[.slice X1 xn1 xd1, .slice X2 xn2 xd2, .slice X3 xn3 xd3, .slice X4 xn4 xd4] 28))
    clear s0 s1 s2 s3 h0 h1 h2 h3 o0 o1 o2 o3 o4 hb3 h22 g3
    obtain ⟨s0, s1, s2, s3⟩ := HDS.out _ j3
    obtain ⟨h0, h1, h2, h3⟩ := HDH.out _ j3
    obtain ⟨o0, o1, o2, o3, o4⟩ := HDO.out _ j3
    go_wp2_with fail
    refine (HCo.out _ (below_step HB02.out j3)).mono ?_
    rintro e w4 ⟨hb4, Y1, yn1, yd1, Y2, yn2, yd2, Y3, yn3, yd3, Y4, yn4, yd4, ya, yb, rfl, FY⟩
    have g4 := below_step j3 hb4
    have FY := FY.mono (base := w2.heap.size) (by have := Below.size j3; omega)
    have FX := FX.below hb4
    have DX := DX.below hb4 DX.lt
    have DY := Blk.new w4 28 #[.slice Y1 yn1 yd1, .slice Y2 yn2 yd2, .slice Y3 yn3 yd3, .slice Y4 yn4 yd4]
    have j4 := g4.alloc g4.size (.cells #[.slice Y1 yn1 yd1, .slice Y2 yn2 yd2, .slice Y3 yn3 yd3, .slice Y4 yn4 yd4] 28)
    have DX := DX.alloc (.cells #[.slice Y1 yn1 yd1, .slice Y2 yn2 yd2, .slice Y3 yn3 yd3, .slice Y4 yn4 yd4] 28)
    have FX := FX.below (below_new w4 (.cells #[.slice Y1 yn1 yd1, .slice Y2 yn2 yd2, .slice Y3 yn3 yd3, .slice Y4 yn4 yd4] 28))
    have FY := FY.below (below_new w4 (.cells #[.slice Y1 yn1 yd1, .slice Y2 yn2 yd2, .slice Y3 yn3 yd3, .slice Y4 yn4 yd4] 28))
    clear s0 s1 s2 s3 h0 h1 h2 h3 o0 o1 o2 o3 o4 hb4 j3 g4
    obtain ⟨s0, s1, s2, s3⟩ := HDS.out _ j4
    obtain ⟨h0, h1, h2, h3⟩ := HDH.out _ j4
    obtain ⟨o0, o1, o2, o3, o4⟩ := HDO.out _ j4
    go_wp2_with fail
    refine (HDo.out _ (below_step HB02.out j4)).mono ?_
    rintro e w5 ⟨hb5, Z1, zn1, zd1, Z2, zn2, zd2, Z3, zn3, zd3, Z4, zn4, zd4, za, zb, rfl, FZ⟩
    have g5 := below_step j4 hb5
    have FZ := FZ.mono (base := w2.heap.size) (by have := Below.size j4; omega)
    have FX := FX.below hb5
    have FY := FY.below hb5
    have DX := DX.below hb5 DX.lt
    have DY := DY.below hb5 DY.lt
    have DZ := Blk.new w5 28 #[.slice Z1 zn1 zd1, .slice Z2 zn2 zd2, .slice Z3 zn3 zd3, .slice Z4 zn4 zd4]
    have j5 := g5.alloc g5.size (.cells #[.slice Z1 zn1 zd1, .slice Z2 zn2 zd2, .slice Z3 zn3 zd3, .slice Z4 zn4 zd4] 28)
    have DX := DX.alloc (.cells #[.slice Z1 zn1 zd1, .slice Z2 zn2 zd2, .slice Z3 zn3 zd3, .slice Z4 zn4 zd4] 28)
    have DY := DY.alloc (.cells #[.slice Z1 zn1 zd1, .slice Z2 zn2 zd2, .slice Z3 zn3 zd3, .slice Z4 zn4 zd4] 28)
    have FX := FX.below (below_new w5 (.cells #[.slice Z1 zn1 zd1, .slice Z2 zn2 zd2, .slice Z3 zn3 zd3, .slice Z4 zn4 zd4] 28))
    have FY := FY.below (below_new w5 (.cells #[.slice Z1 zn1 zd1, .slice Z2 zn2 zd2, .slice Z3 zn3 zd3, .slice Z4 zn4 zd4] 28))
    have FZ := FZ.below (below_new w5 (.cells #[.slice Z1 zn1 zd1, .slice Z2 zn2 zd2, .slice Z3 zn3 zd3, .slice Z4 zn4 zd4] 28))
    clear s0 s1 s2 s3 h0 h1 h2 h3 o0 o1 o2 o3 o4 hb5 j4 g5
    obtain ⟨s0, s1, s2, s3⟩ := HDS.out _ j5
    obtain ⟨h0, h1, h2, h3⟩ := HDH.out _ j5
    obtain ⟨o0, o1, o2, o3, o4⟩ := HDO.out _ j5
    go_wp2_with fail
    refine (HPl.out _ (below_step HB02.out j5)).mono ?_
    rintro e w6 ⟨hb6, U1, un1, ud1, U2, un2, ud2, U3, un3, ud3, U4, un4, ud4, ua, ub, rfl, FU⟩
    have g6 := below_step j5 hb6
    have FU := FU.mono (base := w2.heap.size) (by have := Below.size j5; omega)
    have FX := FX.below hb6
    have FY := FY.below hb6
    have FZ := FZ.below hb6
    have DX := DX.below hb6 DX.lt
    have DY := DY.below hb6 DY.lt
    have DZ := DZ.below hb6 DZ.lt
    have DU := Blk.new w6 28 #[.slice U1 un1 ud1, .slice U2 un2 ud2, .slice U3 un3 ud3, .slice U4 un4 ud4]
    have j6 := g6.alloc g6.size (.cells #[.slice U1 un1 ud1, .slice U2 un2 ud2, .slice U3 un3 ud3, .slice U4 un4 ud4] 28)
    have DX := DX.alloc (.cells #[.slice U1 un1 ud1, .slice U2 un2 ud2, .slice U3 un3 ud3, .slice U4 un4 ud4] 28)
    have DY := DY.alloc (.cells #[.slice U1 un1 ud1, .slice U2 un2 ud2, .slice U3 un3 ud3, .slice U4 un4 ud4] 28)
    have DZ := DZ.alloc (.cells #[.slice U1 un1 ud1, .slice U2 un2 ud2, .slice U3 un3 ud3, .slice U4 un4 ud4] 28)
    have FX := FX.below (below_new w6 (.cells #[.slice U1 un1 ud1, .slice U2 un2 ud2, .slice U3 un3 ud3, .slice U4 un4 ud4] 28))
    have FY := FY.below (below_new w6 (.cells #[.slice U1 un1 ud1, .slice U2 un2 ud2, .slice U3 un3 ud3, .slice U4 un4 ud4] 28))
    have FZ := FZ.below (below_new w6 (.cells #[.slice U1 un1 ud1, .slice U2 un2 ud2, .slice U3 un3 ud3, .slice U4 un4 ud4] 28))
    have FU := FU.below (below_new w6 (.cells #[.slice U1 un1 ud1, .slice U2 un2 ud2, .slice U3 un3 ud3, .slice U4 un4 ud4] 28))
    clear s0 s1 s2 s3 h0 h1 h2 h3 o0 o1 o2 o3 o4 hb6 j5 g6
    obtain ⟨s0, s1, s2, s3⟩ := HDS.out _ j6
    obtain ⟨h0, h1, h2, h3⟩ := HDH.out _ j6
    obtain ⟨o0, o1, o2, o3, o4⟩ := HDO.out _ j6
    obtain ⟨b0, b1, b2, b3⟩ := HDB.out _ j6
    have HS1 := Lib.hid (HCs.out _ j6)
    go_wp2_with fail
    refine HS1.out.mono ?_
    rintro e w7 ⟨rfl, hb7⟩
    have hb27 := below_step j6 hb7
    have FX := FX.below hb7
    have FY := FY.below hb7
    have FZ := FZ.below hb7
    have FU := FU.below hb7
    obtain ⟨xc0, xc1, xc2, xc3⟩ := (DX.below hb7 DX.lt).four
    obtain ⟨yc0, yc1, yc2, yc3⟩ := (DY.below hb7 DY.lt).four
    obtain ⟨zc0, zc1, zc2, zc3⟩ := (DZ.below hb7 DZ.lt).four
    obtain ⟨uc0, uc1, uc2, uc3⟩ := (DU.below hb7 DU.lt).four
    have HDS2 := Lib.hid HDS.out
    clear HMk HCo HDo HPl HDS HDH HDO DX DY DZ DU s0 s1 s2 s3 h0 h1 h2 h3 o0 o1 o2 o3 o4 b0 b1 b2 b3 HS1 j6 hb7
    obtain ⟨G, hG⟩ : ∃ G : World → Prop, G = fun W => F4 W w2.heap.size X1 xd1 X2 xd2 X3 xd3 X4 xd4 ∧ F4 W w2.heap.size Y1 yd1 Y2 yd2 Y3 yd3 Y4 yd4 ∧ F4 W w2.heap.size Z1 zd1 Z2 zd2 Z3 zd3 Z4 zd4 ∧ F4 W w2.heap.size U1 ud1 U2 ud2 U3 ud3 U4 ud4 := ⟨_, rfl⟩
    have hG7 : G w7 := by rw [hG]; exact ⟨FX, FY, FZ, FU⟩
    have HGb : Hid (∀ W W', G W → Below W.heap.size W W' → G W') := by rw [hG]; exact fun W W' h hb => ⟨h.1.below hb, h.2.1.below hb, h.2.2.1.below hb, h.2.2.2.below hb⟩
    have HGA : Hid (∀ W (g j b c : Nat) (x : Int), G W → FullG isW 1 45 W b (some ⟨g, 0, none⟩) c → G (W.setCell ⟨g, j, none⟩ (.int .u64 x))) := by rw [hG]; exact fun W g j b c x h h' => ⟨h.1.putA h', h.2.1.putA h', h.2.2.1.putA h', h.2.2.2.putA h'⟩
    have HGR : Hid (∀ W (g j b c : Nat) (x : Int), G W → FullG isN 1 3 W b (some ⟨g, 0, none⟩) c → G (W.setCell ⟨g, j, none⟩ (.int .i64 x))) := by rw [hG]; exact fun W g j b c x h h' => ⟨h.1.putR h', h.2.1.putR h', h.2.2.1.putR h', h.2.2.2.putR h'⟩
    have HGP : Hid (∀ W (g j b c : Nat) (x : Int), G W → FullG isI 2 57 W b (some ⟨g, 0, none⟩) c → G (W.setCell ⟨g, j, none⟩ (.int .i64 x))) := by rw [hG]; exact fun W g j b c x h h' => ⟨h.1.putP h', h.2.1.putP h', h.2.2.1.putP h', h.2.2.2.putP h'⟩
    have HGL : Hid (∀ W (g j b c : Nat) (x : Int), G W → FullG isS 3 60 W b (some ⟨g, 0, none⟩) c → G (W.setCell ⟨g, j, none⟩ (.int .i64 x))) := by rw [hG]; exact fun W g j b c x h h' => ⟨h.1.putL h', h.2.1.putL h', h.2.2.1.putL h', h.2.2.2.putL h'⟩
    have HIx : Hid (∀ W, G W → ∀ j : Nat, j < 4 → ∃ Q1 q1 e1 Q2 q2 e2 Q3 q3 e3 Q4 q4 e4, (Instr.index 67 (.agg #[.slice X1 xn1 xd1, .slice X2 xn2 xd2, .slice X3 xn3 xd3, .slice X4 xn4 xd4, .slice Y1 yn1 yd1, .slice Y2 yn2 yd2, .slice Y3 yn3 yd3, .slice Y4 yn4 yd4, .slice Z1 zn1 zd1, .slice Z2 zn2 zd2, .slice Z3 zn3 zd3, .slice Z4 zn4 zd4, .slice U1 un1 ud1, .slice U2 un2 ud2, .slice U3 un3 ud3, .slice U4 un4 ud4]) (.int .i64 j)).run Tryz.prog W = .ok (.agg #[.slice Q1 q1 e1, .slice Q2 q2 e2, .slice Q3 q3 e3, .slice Q4 q4 e4]) W ∧ F4 W w2.heap.size Q1 e1 Q2 e2 Q3 e3 Q4 e4) := by
      rw [hG]
      intro W h j hj
      have hjc : j = 0 ∨ j = 1 ∨ j = 2 ∨ j = 3 := by omega
      rcases hjc with rfl | rfl | rfl | rfl
      · exact ⟨_, _, _, _, _, _, _, _, _, _, _, _, idxS #[.slice X1 xn1 xd1, .slice X2 xn2 xd2, .slice X3 xn3 xd3, .slice X4 xn4 xd4, .slice Y1 yn1 yd1, .slice Y2 yn2 yd2, .slice Y3 yn3 yd3, .slice Y4 yn4 yd4, .slice Z1 zn1 zd1, .slice Z2 zn2 zd2, .slice Z3 zn3 zd3, .slice Z4 zn4 zd4, .slice U1 un1 ud1, .slice U2 un2 ud2, .slice U3 un3 ud3, .slice U4 un4 ud4] 0 (by decide) rfl W, h.1⟩
      · exact ⟨_, _, _, _, _, _, _, _, _, _, _, _, idxS #[.slice X1 xn1 xd1, .slice X2 xn2 xd2, .slice X3 xn3 xd3, .slice X4 xn4 xd4, .slice Y1 yn1 yd1, .slice Y2 yn2 yd2, .slice Y3 yn3 yd3, .slice Y4 yn4 yd4, .slice Z1 zn1 zd1, .slice Z2 zn2 zd2, .slice Z3 zn3 zd3, .slice Z4 zn4 zd4, .slice U1 un1 ud1, .slice U2 un2 ud2, .slice U3 un3 ud3, .slice U4 un4 ud4] 1 (by decide) rfl W, h.2.1⟩
      · exact ⟨_, _, _, _, _, _, _, _, _, _, _, _, idxS #[.slice X1 xn1 xd1, .slice X2 xn2 xd2, .slice X3 xn3 xd3, .slice X4 xn4 xd4, .slice Y1 yn1 yd1, .slice Y2 yn2 yd2, .slice Y3 yn3 yd3, .slice Y4 yn4 yd4, .slice Z1 zn1 zd1, .slice Z2 zn2 zd2, .slice Z3 zn3 zd3, .slice Z4 zn4 zd4, .slice U1 un1 ud1, .slice U2 un2 ud2, .slice U3 un3 ud3, .slice U4 un4 ud4] 2 (by decide) rfl W, h.2.2.1⟩
      · exact ⟨_, _, _, _, _, _, _, _, _, _, _, _, idxS #[.slice X1 xn1 xd1, .slice X2 xn2 xd2, .slice X3 xn3 xd3, .slice X4 xn4 xd4, .slice Y1 yn1 yd1, .slice Y2 yn2 yd2, .slice Y3 yn3 yd3, .slice Y4 yn4 yd4, .slice Z1 zn1 zd1, .slice Z2 zn2 zd2, .slice Z3 zn3 zd3, .slice Z4 zn4 zd4, .slice U1 un1 ud1, .slice U2 un2 ud2, .slice U3 un3 ud3, .slice U4 un4 ud4] 3 (by decide) rfl W, h.2.2.2⟩
    clear hG FX FY FZ FU
    go_wp2_with fail
    go_loopw [24, 25, 26, 27, 28, 79] (fun _ _ _ _ _ i wr => ∃ j : Nat, j ≤ 4 ∧ i = .int .i64 j ∧ Below w2.heap.size w2 wr ∧ G wr) (fun _ _ _ _ _ i _ => 4 - (intOf i).toNat)
    case atStart => exact ⟨0, by omega, rfl, hb27, hG7⟩
    case round =>
      clear hb27 hG7
      obtain ⟨j, hj, rfl, hb, hG⟩ := hrel
      by_cases hlt : j < 4
      · have hj5 : j + 1 ≤ 4 := hlt
        obtain ⟨Q1, q1, e1, Q2, q2, e2, Q3, q3, e3, Q4, q4, e4, hX, FQ⟩ := HIx.out wr hG j hlt
        have DQ := Blk.new wr 28 #[.slice Q1 q1 e1, .slice Q2 q2 e2, .slice Q3 q3 e3, .slice Q4 q4 e4]
        have hb := hb.alloc hb.size (.cells #[.slice Q1 q1 e1, .slice Q2 q2 e2, .slice Q3 q3 e3, .slice Q4 q4 e4] 28)
        have hG := HGb.out _ _ hG (below_new wr (.cells #[.slice Q1 q1 e1, .slice Q2 q2 e2, .slice Q3 q3 e3, .slice Q4 q4 e4] 28))
        have FQ := FQ.below (below_new wr (.cells #[.slice Q1 q1 e1, .slice Q2 q2 e2, .slice Q3 q3 e3, .slice Q4 q4 e4] 28))
        have hcap1 := FQ.a.cap
        have hcap2 := FQ.r.cap
        have hcap3 := FQ.p.cap
        have hcap4 := FQ.l.cap
        obtain ⟨gq, hgq⟩ : ∃ x, x = wr.heap.size := ⟨_, rfl⟩
        rw [← hgq] at DQ
        obtain ⟨z0, z1, z2, z3⟩ := DQ.four
        rw [hgq] at z0 z1 z2 z3
        go_wp2
        rw [← hgq]
        clear z0 z1 z2 z3 hX hgq
        go_loopw [25, 89] (fun _ i wr => ∃ ji : Nat, ji ≤ e1 ∧ i = .int .i64 ji ∧ Below w2.heap.size w2 wr ∧ Blk wr gq 28 #[.slice Q1 q1 e1, .slice Q2 q2 e2, .slice Q3 q3 e3, .slice Q4 q4 e4] ∧ F4 wr w2.heap.size Q1 e1 Q2 e2 Q3 e3 Q4 e4 ∧ G wr) (fun _ i _ => e1 - (intOf i).toNat)
        case atStart => exact ⟨0, Nat.zero_le _, rfl, hb, DQ, FQ, hG⟩
        case round =>
          clear hb DQ FQ hG
          obtain ⟨ji, hj2, rfl, hb, DQ, FQ, hG⟩ := hrel
          obtain ⟨z0, z1, z2, z3⟩ := DQ.four
          by_cases hlt2 : ji < e1
          · obtain ⟨g, v, hB, hg, hcell, hok, hfr⟩ := FQ.a.cell (j := ji) (by omega)
            obtain ⟨y, rfl⟩ : ∃ y, v = .int .u64 y := hok
            subst hB
            have hj3 : ji + 1 ≤ e1 := hlt2
            have hbz := hb.setCell (p := ⟨g, ji, none⟩) hg (.int .u64 (IntKind.u64.wrap (y + 1)))
            have hne := FQ.a.blk_ne DQ (by decide)
            have DQz := Lib.hid (DQ.far (p := ⟨g, ji, none⟩) (by dsimp only; omega) (.int .u64 (IntKind.u64.wrap (y + 1))))
            have HGz := Lib.hid (HGA.out _ g (ji) _ _ (IntKind.u64.wrap (y + 1)) hG FQ.a)
            have FQz := Lib.hid (FQ.putA (g := g) (j := ji) (x := IntKind.u64.wrap (y + 1)) FQ.a)
            clear DQ FQ hG hb hne
            go_wp2
            go_roundw
            case rel => exact ⟨ji + 1, hj3, by go_num, hbz, DQz.out, FQz.out, HGz.out⟩
            case measure => simp [intOf]; omega
          · have g0 : decide (ji < e1) = false := decide_eq_false hlt2
            clear hj2 hlt2
            go_wp2
            obtain ⟨wo, hwo⟩ : ∃ x, x = wr := ⟨wr, rfl⟩
            subst hwo
            clear z0 z1 z2 z3 g0
            go_loopw [26, 111] (fun _ i wr => ∃ ji : Nat, ji ≤ e2 ∧ i = .int .i64 ji ∧ Below w2.heap.size w2 wr ∧ Blk wr gq 28 #[.slice Q1 q1 e1, .slice Q2 q2 e2, .slice Q3 q3 e3, .slice Q4 q4 e4] ∧ F4 wr w2.heap.size Q1 e1 Q2 e2 Q3 e3 Q4 e4 ∧ G wr) (fun _ i _ => e2 - (intOf i).toNat)
            case atStart => exact ⟨0, Nat.zero_le _, rfl, hb, DQ, FQ, hG⟩
            case round =>
              clear hb DQ FQ hG
              obtain ⟨ji, hj2, rfl, hb, DQ, FQ, hG⟩ := hrel
              obtain ⟨z0, z1, z2, z3⟩ := DQ.four
              by_cases hlt2 : ji < e2
              · obtain ⟨g, v, hB, hg, hcell, hok, hfr⟩ := FQ.r.cell (j := ji) (by omega)
                obtain ⟨y, rfl⟩ : ∃ y, v = .int .i64 y := hok
                subst hB
                have hj3 : ji + 1 ≤ e2 := hlt2
                have hbz := hb.setCell (p := ⟨g, ji, none⟩) hg (.int .i64 (wrap64 (y + 1)))
                have hne := FQ.r.blk_ne DQ (by decide)
                have DQz := Lib.hid (DQ.far (p := ⟨g, ji, none⟩) (by dsimp only; omega) (.int .i64 (wrap64 (y + 1))))
                have HGz := Lib.hid (HGR.out _ g (ji) _ _ (wrap64 (y + 1)) hG FQ.r)
                have FQz := Lib.hid (FQ.putR (g := g) (j := ji) (x := wrap64 (y + 1)) FQ.r)
                clear DQ FQ hG hb hne
                go_wp2
                go_roundw
                case rel => exact ⟨ji + 1, hj3, by go_num, hbz, DQz.out, FQz.out, HGz.out⟩
                case measure => simp [intOf]; omega
              · have g0 : decide (ji < e2) = false := decide_eq_false hlt2
                clear hj2 hlt2
                go_wp2
                obtain ⟨wo, hwo⟩ : ∃ x, x = wr := ⟨wr, rfl⟩
                subst hwo
                clear z0 z1 z2 z3 g0
                go_loopw [27, 133] (fun _ i wr => ∃ ji : Nat, ji ≤ e3 ∧ i = .int .i64 ji ∧ Below w2.heap.size w2 wr ∧ Blk wr gq 28 #[.slice Q1 q1 e1, .slice Q2 q2 e2, .slice Q3 q3 e3, .slice Q4 q4 e4] ∧ F4 wr w2.heap.size Q1 e1 Q2 e2 Q3 e3 Q4 e4 ∧ G wr) (fun _ i _ => e3 - (intOf i).toNat)
                case atStart => exact ⟨0, Nat.zero_le _, rfl, hb, DQ, FQ, hG⟩
                case round =>
                  clear hb DQ FQ hG
                  obtain ⟨ji, hj2, rfl, hb, DQ, FQ, hG⟩ := hrel
                  obtain ⟨z0, z1, z2, z3⟩ := DQ.four
                  by_cases hlt2 : ji < e3
                  · obtain ⟨g, v, hB, hg, hcell, hok, hfr⟩ := FQ.p.cell (j := ji * 2 + 1) (by omega)
                    obtain ⟨y, rfl⟩ : ∃ y, v = .int .i64 y := hok
                    subst hB
                    have hj3 : ji + 1 ≤ e3 := hlt2
                    have hbz := hb.setCell (p := ⟨g, ji * 2 + 1, none⟩) hg (.int .i64 (wrap64 (y + 1)))
                    have hne := FQ.p.blk_ne DQ (by decide)
                    have DQz := Lib.hid (DQ.far (p := ⟨g, ji * 2 + 1, none⟩) (by dsimp only; omega) (.int .i64 (wrap64 (y + 1))))
                    have HGz := Lib.hid (HGP.out _ g (ji * 2 + 1) _ _ (wrap64 (y + 1)) hG FQ.p)
                    have FQz := Lib.hid (FQ.putP (g := g) (j := ji * 2 + 1) (x := wrap64 (y + 1)) FQ.p)
                    clear DQ FQ hG hb hne
                    go_wp2
                    go_roundw
                    case rel => exact ⟨ji + 1, hj3, by go_num, hbz, DQz.out, FQz.out, HGz.out⟩
                    case measure => simp [intOf]; omega
                  · have g0 : decide (ji < e3) = false := decide_eq_false hlt2
                    clear hj2 hlt2
                    go_wp2
                    obtain ⟨wo, hwo⟩ : ∃ x, x = wr := ⟨wr, rfl⟩
                    subst hwo
                    clear z0 z1 z2 z3 g0
                    go_loopw [28, 157] (fun _ i wr => ∃ ji : Nat, ji ≤ e4 ∧ i = .int .i64 ji ∧ Below w2.heap.size w2 wr ∧ Blk wr gq 28 #[.slice Q1 q1 e1, .slice Q2 q2 e2, .slice Q3 q3 e3, .slice Q4 q4 e4] ∧ F4 wr w2.heap.size Q1 e1 Q2 e2 Q3 e3 Q4 e4 ∧ G wr) (fun _ i _ => e4 - (intOf i).toNat)
                    case atStart => exact ⟨0, Nat.zero_le _, rfl, hb, DQ, FQ, hG⟩
                    case round =>
                      clear hb DQ FQ hG
                      obtain ⟨ji, hj2, rfl, hb, DQ, FQ, hG⟩ := hrel
                      obtain ⟨z0, z1, z2, z3⟩ := DQ.four
                      by_cases hlt2 : ji < e4
                      · obtain ⟨g, v, hB, hg, hcell, hok, hfr⟩ := FQ.l.cell (j := ji * 3) (by omega)
                        obtain ⟨y, rfl⟩ : ∃ y, v = .int .i64 y := hok (by omega)
                        subst hB
                        have hj3 : ji + 1 ≤ e4 := hlt2
                        have hbz := hb.setCell (p := ⟨g, ji * 3, none⟩) hg (.int .i64 (wrap64 (y + 1)))
                        have hne := FQ.l.blk_ne DQ (by decide)
                        have DQz := Lib.hid (DQ.far (p := ⟨g, ji * 3, none⟩) (by dsimp only; omega) (.int .i64 (wrap64 (y + 1))))
                        have HGz := Lib.hid (HGL.out _ g (ji * 3) _ _ (wrap64 (y + 1)) hG FQ.l)
                        have FQz := Lib.hid (FQ.putL (g := g) (j := ji * 3) (x := wrap64 (y + 1)) FQ.l)
                        clear DQ FQ hG hb hne
                        go_wp2
                        go_roundw
                        case rel => exact ⟨ji + 1, hj3, by go_num, hbz, DQz.out, FQz.out, HGz.out⟩
                        case measure => simp [intOf]; omega
                      · have g0 : decide (ji < e4) = false := decide_eq_false hlt2
                        clear hj2 hlt2
                        go_wp2
                        go_roundw
                        case rel => exact ⟨j + 1, hj5, by go_num, hb, hG⟩
                        case measure => simp [intOf]; omega
      · have g0 : decide (j < 4) = false := decide_eq_false hlt
        obtain rfl : j = 4 := by omega
        have HC9 := Lib.hid (HCs.out wr hb)
        have HB9 := Lib.hid (below_step HB02.out hb)
        obtain ⟨s0, s1, s2, s3⟩ := HDS2.out wr hb
        obtain ⟨b0, b1, b2, b3⟩ := HDB.out wr hb
        go_wp2_with fail
        refine HC9.out.mono ?_
        rintro e w9 ⟨rfl, hb9⟩
        go_wp2
        go_ret
        exact ⟨by first | rfl | simp, below_step HB9.out hb9⟩
end Go.Proofs.YtbmkbnalembbjaaGreatDoor

namespace Go.Proofs.YtbmkbnalembbjaaGreatDoor
open Go.RowKit
structure Rm where
  loc : Int
  len : Int
  used : Int
deriving DecidableEq
def roomC (r : Rm) : List Value := [.int .i64 r.loc, .int .i64 r.len, .int .i64 r.used]
def roomsC (l : List Rm) : List Value := l.flatMap roomC
theorem Reads.room {w : World} {B : Nat} {A : Option Addr} {n j : Nat} {l : List Rm} (h : Reads w B 3 A n (roomsC l)) (hj : j < n) :
    ∃ ad s, A = some ad ∧ ad.block < B ∧ l[j]? = some s ∧ w.cell? (ad.add (j * 3)) = some (.int .i64 s.loc) ∧
      w.cell? ⟨(ad.add (j * 3)).block, (ad.add (j * 3)).off + 1, none⟩ = some (.int .i64 s.len) ∧
      w.cell? ⟨(ad.add (j * 3)).block, (ad.add (j * 3)).off + 2, none⟩ = some (.int .i64 s.used) := by
  obtain ⟨ad, s, e, hb, hs, c0, cs⟩ := Reads.elem (f := roomC) (k := 3) (fun _ => rfl) h (by decide) hj
  exact ⟨ad, s, e, hb, hs, c0, cs 1 (by decide) (by decide), cs 2 (by decide) (by decide)⟩
def isP (x : Int) : Bool := [1, 2, 4, 8, 16, 32, 64, 128, 256].contains x
def pieceB (r : Rm) (all : Nat) : Bool :=
  decide (1 ≤ r.len) && (decide (r.len ≤ all) && (isP r.len && (decide (0 ≤ r.loc) && (decide (r.loc ≤ all - r.len) && (decide (r.loc % r.len = 0) && (decide (r.used ≤ r.len) && decide (r.len / 2 < r.used)))))))
def roomsE (all : Nat) : List Rm → Int → Int
  | [], _ => 0
  | r :: t, e => if pieceB r all = true ∧ e ≤ r.loc then roomsE all t (r.loc + r.len) else 3
def twinE (o : Int) (l : List Rm) : Int := if 0 ≤ o ∧ o ≤ 8 then roomsE (2 ^ o.toNat) l 0 else 4
def Chain (o : Nat) : Nat → List Rm → Prop
  | _, [] => True
  | e, r :: t => ∃ k a u : Nat, k ≤ o ∧ r = ⟨a, ((2 ^ k : Nat) : Int), u⟩ ∧ a + 2 ^ k ≤ 2 ^ o ∧ a % 2 ^ k = 0 ∧ u ≤ 2 ^ k ∧ 2 ^ k / 2 < u ∧ e ≤ a ∧ Chain o (a + 2 ^ k) t
theorem Chain.mem {o : Nat} : ∀ {l : List Rm} {e : Nat}, Chain o e l → ∀ r ∈ l, ∃ k a u : Nat, k ≤ o ∧ r = ⟨a, ((2 ^ k : Nat) : Int), u⟩ ∧ a + 2 ^ k ≤ 2 ^ o ∧ a % 2 ^ k = 0 ∧ u ≤ 2 ^ k ∧ 2 ^ k / 2 < u ∧ e ≤ a
  | [], _, _, _, h => by simp at h
  | x :: t, e, hc, r, h => by
    obtain ⟨k, a, u, h1, rfl, h2, h3, h4, h5, h6, h7⟩ := hc
    rcases List.mem_cons.1 h with rfl | h
    · exact ⟨k, a, u, h1, rfl, h2, h3, h4, h5, h6⟩
    · obtain ⟨k', a', u', q1, q2, q3, q4, q5, q6, q7⟩ := h7.mem r h
      exact ⟨k', a', u', q1, q2, q3, q4, q5, q6, by omega⟩
theorem Chain.len {o : Nat} : ∀ {l : List Rm} {e : Nat}, Chain o e l → e ≤ 2 ^ o → e + l.length ≤ 2 ^ o
  | [], _, _, h => by simpa using h
  | x :: t, e, hc, _ => by
    obtain ⟨k, a, u, h1, rfl, h2, h3, h4, h5, h6, h7⟩ := hc
    have := h7.len h2
    have hp : 0 < 2 ^ k := Nat.pos_of_ne_zero (by simp)
    simp only [List.length_cons]
    omega
def meetsB (a L : Nat) (r : Rm) : Bool := decide (r.loc < ((a + L : Nat) : Int)) && decide ((a : Int) < r.loc + r.len)
def tgapsL (l : List Rm) : Nat → Nat → List Rn
  | 0, a => if l.any (meetsB a 1) = true then [] else [⟨a, 1⟩]
  | k + 1, a => if l.any (meetsB a (2 ^ (k + 1))) = true then tgapsL l k a ++ tgapsL l k (a + 2 ^ k) else [⟨a, ((2 ^ (k + 1) : Nat) : Int)⟩]
end Go.Proofs.YtbmkbnalembbjaaGreatDoor

namespace Go.Proofs.YtbmkbnalembbjaaGreatDoor
open Go.ChangeShapes Go.WideShapes Go.ChangeAt Go.RowKit Go.Joins Go.Deep
instance : Inhabited Rm := ⟨⟨0, 0, 0⟩⟩
theorem open_elemsC {α : Type} [Inhabited α] (f : α → List Value) (k : Nat) (hk0 : 0 < k) (hf : ∀ a, (f a).length = k) {H : Type} {enc : TypeId × Value → H} {P : Program} {t e : TypeId} {W : World} {sp : Nat → Bool} {v : Value} {x : DataW H × List MemPlace} {fuel : Nat}
    (ht : P.underlying t = some (.slice e)) (hc : P.cellsOf e = k) (hel : ∀ n cs y, DataW.trod enc P W 0 sp true n e cs = some y → ∃ a, cs = f a)
    (hlt : ∀ p ∈ x.2, p.block < W.heap.size) (hf' : DataW.trod enc P W 0 sp true fuel t [v] = some x) :
    ∃ (A : Option Addr) (n c : Nat) (l : List α), v = .slice A n c ∧ n ≤ c ∧ c ≤ maxLen ∧ Reads W W.heap.size k A n (l.flatMap f) ∧ l.length = n := by
  rcases open_slice ht hf' with ⟨hcs, hx⟩ | ⟨a, len, cap, m, n, D, Pl, hcs, hb, hlc, hm, hmm, hx, hcell⟩
  · simp at hcs
    subst hcs
    exact ⟨none, 0, 0, [], rfl, Nat.le_refl _, Nat.zero_le _, Reads.none_, rfl⟩
  · simp at hcs
    subst hcs
    subst hx
    have hlm : len ≤ m := by rw [hmm]; split <;> omega
    rw [hc] at hcell hlt
    obtain ⟨V, hV⟩ := choose_lt (α := α) (p := fun i x => W.cells? 0 (a.add (i * k)) k = some (f x)) (fun i hi => by
      obtain ⟨cs', h1, h2⟩ := hcell i hi
      obtain ⟨x, rfl⟩ := hel _ _ _ h2
      exact ⟨x, h1⟩)
    refine ⟨some a, len, cap, (List.range len).map V, rfl, hlc, hm, ⟨by rw [flat_length f k hf]; simp, fun hn => ⟨a, rfl, ?_, fun j u hu => ?_⟩⟩, by simp⟩
    · have := hlt (.cell a.block (a.off + 0)) (List.mem_append_left _ (by
        unfold MemPlace.row
        refine List.mem_map.2 ⟨0, List.mem_range.2 ?_, rfl⟩
        exact Nat.mul_pos (by omega) hk0))
      exact this
    · have hj : j < len * k := by
        have := (List.getElem?_eq_some_iff.1 hu).1
        rw [flat_length f k hf] at this
        simpa using this
      have hq : j / k < len := Nat.div_lt_of_lt_mul (by rw [Nat.mul_comm]; exact hj)
      have hr : j % k < k := Nat.mod_lt _ hk0
      have hjd : j / k * k + j % k = j := by rw [Nat.mul_comm]; exact Nat.div_add_mod j k
      rw [← hjd, flat_at f k hf _ _ _ (by simpa using hq) hr] at hu
      simp only [List.getElem_map, List.getElem_range] at hu
      have := (World.cells?_some (hV (j / k) (by omega))).2.2 (j % k) hr
      rw [add_of_add, hjd] at this
      rw [this]
      exact hu
end Go.Proofs.YtbmkbnalembbjaaGreatDoor
