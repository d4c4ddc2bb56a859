/-
  Two lists are cloned into two boxes, in whatever order: what holds meanwhile. No program stands here.
-/
import Derived.Test.YtbmkbnalembbjaaAnyOrder
import Derived.Test.YtbmkbnalembbjaaBase2
namespace Go.Proofs.Ytbmkbnalembbjaa
open Go.RowKit

/-- A box that holds one value. -/
def Bx (base : Nat) (t : TypeId) (W : World) (v u : Value) : Prop := ∃ p, v = .pointer (some ⟨p, 0, none⟩) ∧ base ≤ p ∧ Blk W p t #[u]
theorem Bx.below {base : Nat} {t : TypeId} {W W' : World} {v u : Value} (h : Bx base t W v u) (hb : Below W.heap.size W W') : Bx base t W' v u := by
  obtain ⟨p, h1, h2, h3⟩ := h
  exact ⟨p, h1, h2, h3.below hb h3.lt⟩
theorem Bx.ne {base : Nat} {t : TypeId} {W : World} {v u : Value} (h : Bx base t W v u) : v ≠ .pointer (some ⟨W.heap.size, 0, none⟩) := by
  obtain ⟨p, rfl, h2, h3⟩ := h
  intro e
  have := h3.lt
  injection e with e
  injection e with e
  injection e with e
  omega
theorem Bx.set_ {base : Nat} {t : TypeId} {W : World} {p : Nat} {u x : Value} (h : Bx base t W (.pointer (some ⟨p, 0, none⟩)) u) : Bx base t (W.setCell ⟨p, 0, none⟩ x) (.pointer (some ⟨p, 0, none⟩)) x := by
  obtain ⟨q, h1, h2, h3⟩ := h
  injection h1 with h1
  injection h1 with h1
  injection h1 with h1
  subst h1
  exact ⟨p, rfl, h2, by simpa using h3.set_ 0 x⟩
theorem Bx.far {base : Nat} {t : TypeId} {W : World} {p : Nat} {v u x : Value} (h : Bx base t W v u) (hne : v ≠ .pointer (some ⟨p, 0, none⟩)) : Bx base t (W.setCell ⟨p, 0, none⟩ x) v u := by
  obtain ⟨q, rfl, h2, h3⟩ := h
  refine ⟨q, rfl, h2, h3.far (p := ⟨p, 0, none⟩) (fun e => hne (by rw [e])) x⟩
theorem Bx.kinds {W : World} {base base' : Nat} {t t' : TypeId} {v v' u u' : Value} (h : Bx base t W v u) (h' : Bx base' t' W v' u') (ht : t ≠ t') : v ≠ v' := by
  obtain ⟨p, rfl, -, h3⟩ := h
  obtain ⟨q, rfl, -, h6⟩ := h'
  intro e
  injection e with e
  injection e with e
  injection e with e
  subst e
  unfold Blk at h3 h6
  rw [h3] at h6
  simp only [Option.some.injEq, Obj.cells.injEq] at h6
  exact ht h6.2.1
/-- A clone. -/
def ClK (base : Nat) (e : TypeId) (k n : Nat) (xs : List Value) (W : World) (v : Value) : Prop := ∃ A c, v = .slice A n c ∧ W.ownsRow base e k (.slice A n c) n xs
theorem ClK.below {base k n : Nat} {e : TypeId} {xs : List Value} {W W' : World} {v : Value} (h : ClK base e k n xs W v) (hb : Below W.heap.size W W') : ClK base e k n xs W' v := by
  obtain ⟨A, c, h1, h2⟩ := h
  exact ⟨A, c, h1, own_below h2 hb⟩
theorem ClK.set_ {base k n p : Nat} {e t : TypeId} {xs : List Value} {W : World} {v u x : Value} (h : ClK base e k n xs W v) (hB : Blk W p t #[u]) (he : e ≠ t) : ClK base e k n xs (W.setCell ⟨p, 0, none⟩ x) v := by
  obtain ⟨A, c, h1, h2⟩ := h
  exact ⟨A, c, h1, own_apart (p := ⟨p, 0, none⟩) h2 (own_blk_ne h2 hB he) x⟩
/-- What holds while the two are made, boxed and laid. -/
structure R2 (w0 : World) (A : Option Addr) (n c : Nat) (H : Option Addr) (hn hc : Nat) (xs ys : List Value) (l : Array Bool) (v32 v33 v34 v35 v9 v10 : Value) (W : World) : Prop where
  sz : l.size = 8
  bw : Below w0.heap.size w0 W
  late : Dn l 6 ∨ Dn l 7 → ∀ j, j < 6 → Dn l j
  d0 : Dn l 0 → v32 = .slice A n c
  d1 : Dn l 1 → ClK w0.heap.size 47 2 n xs W v33
  d2 : Dn l 2 → v34 = .slice H hn hc
  d3 : Dn l 3 → ClK w0.heap.size 50 3 hn ys W v35
  d4 : Dn l 4 → ∃ u, Bx w0.heap.size 25 W v9 u ∧ (Dn l 6 → u = v33)
  d5 : Dn l 5 → ∃ u, Bx w0.heap.size 27 W v10 u ∧ (Dn l 7 → u = v35)
section
variable {w0 W W' : World} {A : Option Addr} {n c : Nat} {H : Option Addr} {hn hc : Nat} {xs ys : List Value} {l : Array Bool} {v32 v33 v34 v35 v9 v10 : Value}
theorem R2.start (h : Below w0.heap.size w0 W) : R2 w0 A n c H hn hc xs ys (Array.replicate 8 false) v32 v33 v34 v35 v9 v10 W :=
  ⟨by simp, h, fun hl => by rcases hl with h | h <;> exact absurd h Dn.none, fun h => absurd h Dn.none, fun h => absurd h Dn.none, fun h => absurd h Dn.none, fun h => absurd h Dn.none, fun h => absurd h Dn.none, fun h => absurd h Dn.none⟩
theorem R2.s0 {x : Value} (h : R2 w0 A n c H hn hc xs ys l v32 v33 v34 v35 v9 v10 W) (hu : ¬ Dn l 0) (hb : Below W.heap.size W W') (hv : x = .slice A n c) : R2 w0 A n c H hn hc xs ys (l.setIfInBounds 0 true) x v33 v34 v35 v9 v10 W' := by
  have hs : 0 < l.size := by rw [h.sz]; decide
  have hnl : ¬ (Dn l 6 ∨ Dn l 7) := fun hl => hu (h.late hl 0 (by decide))
  have e : ∀ {j}, j ≠ 0 → Dn (l.setIfInBounds 0 true) j → Dn l j := fun hj hd => ((Dn.set hs).1 hd).resolve_left hj
  have hnl' : ¬ (Dn (l.setIfInBounds 0 true) 6 ∨ Dn (l.setIfInBounds 0 true) 7) := fun hl => hnl (hl.imp (e (by decide)) (e (by decide)))
  exact ⟨by rw [Array.size_setIfInBounds]; exact h.sz, below_step h.bw hb, fun hl => absurd hl hnl', fun _ => hv, fun hd => (h.d1 (e (by decide) hd)).below hb, fun hd => h.d2 (e (by decide) hd), fun hd => (h.d3 (e (by decide) hd)).below hb, fun hd => by obtain ⟨u, h1, -⟩ := h.d4 (e (by decide) hd); exact ⟨u, h1.below hb, fun h6 => absurd (Or.inl h6) hnl'⟩, fun hd => by obtain ⟨u, h1, -⟩ := h.d5 (e (by decide) hd); exact ⟨u, h1.below hb, fun h7 => absurd (Or.inr h7) hnl'⟩⟩
theorem R2.s1 {x : Value} (h : R2 w0 A n c H hn hc xs ys l v32 v33 v34 v35 v9 v10 W) (hu : ¬ Dn l 1) (hb : Below W.heap.size W W') (hv : ClK w0.heap.size 47 2 n xs W' x) : R2 w0 A n c H hn hc xs ys (l.setIfInBounds 1 true) v32 x v34 v35 v9 v10 W' := by
  have hs : 1 < l.size := by rw [h.sz]; decide
  have hnl : ¬ (Dn l 6 ∨ Dn l 7) := fun hl => hu (h.late hl 1 (by decide))
  have e : ∀ {j}, j ≠ 1 → Dn (l.setIfInBounds 1 true) j → Dn l j := fun hj hd => ((Dn.set hs).1 hd).resolve_left hj
  have hnl' : ¬ (Dn (l.setIfInBounds 1 true) 6 ∨ Dn (l.setIfInBounds 1 true) 7) := fun hl => hnl (hl.imp (e (by decide)) (e (by decide)))
  exact ⟨by rw [Array.size_setIfInBounds]; exact h.sz, below_step h.bw hb, fun hl => absurd hl hnl', fun hd => h.d0 (e (by decide) hd), fun _ => hv, fun hd => h.d2 (e (by decide) hd), fun hd => (h.d3 (e (by decide) hd)).below hb, fun hd => by obtain ⟨u, h1, -⟩ := h.d4 (e (by decide) hd); exact ⟨u, h1.below hb, fun h6 => absurd (Or.inl h6) hnl'⟩, fun hd => by obtain ⟨u, h1, -⟩ := h.d5 (e (by decide) hd); exact ⟨u, h1.below hb, fun h7 => absurd (Or.inr h7) hnl'⟩⟩
theorem R2.s2 {x : Value} (h : R2 w0 A n c H hn hc xs ys l v32 v33 v34 v35 v9 v10 W) (hu : ¬ Dn l 2) (hb : Below W.heap.size W W') (hv : x = .slice H hn hc) : R2 w0 A n c H hn hc xs ys (l.setIfInBounds 2 true) v32 v33 x v35 v9 v10 W' := by
  have hs : 2 < l.size := by rw [h.sz]; decide
  have hnl : ¬ (Dn l 6 ∨ Dn l 7) := fun hl => hu (h.late hl 2 (by decide))
  have e : ∀ {j}, j ≠ 2 → Dn (l.setIfInBounds 2 true) j → Dn l j := fun hj hd => ((Dn.set hs).1 hd).resolve_left hj
  have hnl' : ¬ (Dn (l.setIfInBounds 2 true) 6 ∨ Dn (l.setIfInBounds 2 true) 7) := fun hl => hnl (hl.imp (e (by decide)) (e (by decide)))
  exact ⟨by rw [Array.size_setIfInBounds]; exact h.sz, below_step h.bw hb, fun hl => absurd hl hnl', fun hd => h.d0 (e (by decide) hd), fun hd => (h.d1 (e (by decide) hd)).below hb, fun _ => hv, fun hd => (h.d3 (e (by decide) hd)).below hb, fun hd => by obtain ⟨u, h1, -⟩ := h.d4 (e (by decide) hd); exact ⟨u, h1.below hb, fun h6 => absurd (Or.inl h6) hnl'⟩, fun hd => by obtain ⟨u, h1, -⟩ := h.d5 (e (by decide) hd); exact ⟨u, h1.below hb, fun h7 => absurd (Or.inr h7) hnl'⟩⟩
theorem R2.s3 {x : Value} (h : R2 w0 A n c H hn hc xs ys l v32 v33 v34 v35 v9 v10 W) (hu : ¬ Dn l 3) (hb : Below W.heap.size W W') (hv : ClK w0.heap.size 50 3 hn ys W' x) : R2 w0 A n c H hn hc xs ys (l.setIfInBounds 3 true) v32 v33 v34 x v9 v10 W' := by
  have hs : 3 < l.size := by rw [h.sz]; decide
  have hnl : ¬ (Dn l 6 ∨ Dn l 7) := fun hl => hu (h.late hl 3 (by decide))
  have e : ∀ {j}, j ≠ 3 → Dn (l.setIfInBounds 3 true) j → Dn l j := fun hj hd => ((Dn.set hs).1 hd).resolve_left hj
  have hnl' : ¬ (Dn (l.setIfInBounds 3 true) 6 ∨ Dn (l.setIfInBounds 3 true) 7) := fun hl => hnl (hl.imp (e (by decide)) (e (by decide)))
  exact ⟨by rw [Array.size_setIfInBounds]; exact h.sz, below_step h.bw hb, fun hl => absurd hl hnl', fun hd => h.d0 (e (by decide) hd), fun hd => (h.d1 (e (by decide) hd)).below hb, fun hd => h.d2 (e (by decide) hd), fun _ => hv, fun hd => by obtain ⟨u, h1, -⟩ := h.d4 (e (by decide) hd); exact ⟨u, h1.below hb, fun h6 => absurd (Or.inl h6) hnl'⟩, fun hd => by obtain ⟨u, h1, -⟩ := h.d5 (e (by decide) hd); exact ⟨u, h1.below hb, fun h7 => absurd (Or.inr h7) hnl'⟩⟩
theorem R2.s4 {x : Value} (h : R2 w0 A n c H hn hc xs ys l v32 v33 v34 v35 v9 v10 W) (hu : ¬ Dn l 4) (hb : Below W.heap.size W W') (hv : ∃ u, Bx w0.heap.size 25 W' x u) : R2 w0 A n c H hn hc xs ys (l.setIfInBounds 4 true) v32 v33 v34 v35 x v10 W' := by
  have hs : 4 < l.size := by rw [h.sz]; decide
  have hnl : ¬ (Dn l 6 ∨ Dn l 7) := fun hl => hu (h.late hl 4 (by decide))
  have e : ∀ {j}, j ≠ 4 → Dn (l.setIfInBounds 4 true) j → Dn l j := fun hj hd => ((Dn.set hs).1 hd).resolve_left hj
  have hnl' : ¬ (Dn (l.setIfInBounds 4 true) 6 ∨ Dn (l.setIfInBounds 4 true) 7) := fun hl => hnl (hl.imp (e (by decide)) (e (by decide)))
  exact ⟨by rw [Array.size_setIfInBounds]; exact h.sz, below_step h.bw hb, fun hl => absurd hl hnl', fun hd => h.d0 (e (by decide) hd), fun hd => (h.d1 (e (by decide) hd)).below hb, fun hd => h.d2 (e (by decide) hd), fun hd => (h.d3 (e (by decide) hd)).below hb, fun _ => by obtain ⟨u, h1⟩ := hv; exact ⟨u, h1, fun h6 => absurd (Or.inl h6) hnl'⟩, fun hd => by obtain ⟨u, h1, -⟩ := h.d5 (e (by decide) hd); exact ⟨u, h1.below hb, fun h7 => absurd (Or.inr h7) hnl'⟩⟩
theorem R2.s5 {x : Value} (h : R2 w0 A n c H hn hc xs ys l v32 v33 v34 v35 v9 v10 W) (hu : ¬ Dn l 5) (hb : Below W.heap.size W W') (hv : ∃ u, Bx w0.heap.size 27 W' x u) : R2 w0 A n c H hn hc xs ys (l.setIfInBounds 5 true) v32 v33 v34 v35 v9 x W' := by
  have hs : 5 < l.size := by rw [h.sz]; decide
  have hnl : ¬ (Dn l 6 ∨ Dn l 7) := fun hl => hu (h.late hl 5 (by decide))
  have e : ∀ {j}, j ≠ 5 → Dn (l.setIfInBounds 5 true) j → Dn l j := fun hj hd => ((Dn.set hs).1 hd).resolve_left hj
  have hnl' : ¬ (Dn (l.setIfInBounds 5 true) 6 ∨ Dn (l.setIfInBounds 5 true) 7) := fun hl => hnl (hl.imp (e (by decide)) (e (by decide)))
  exact ⟨by rw [Array.size_setIfInBounds]; exact h.sz, below_step h.bw hb, fun hl => absurd hl hnl', fun hd => h.d0 (e (by decide) hd), fun hd => (h.d1 (e (by decide) hd)).below hb, fun hd => h.d2 (e (by decide) hd), fun hd => (h.d3 (e (by decide) hd)).below hb, fun hd => by obtain ⟨u, h1, -⟩ := h.d4 (e (by decide) hd); exact ⟨u, h1.below hb, fun h6 => absurd (Or.inl h6) hnl'⟩, fun _ => by obtain ⟨u, h1⟩ := hv; exact ⟨u, h1, fun h7 => absurd (Or.inr h7) hnl'⟩⟩
theorem R2.s6 {p : Nat} (h : R2 w0 A n c H hn hc xs ys l v32 v33 v34 v35 v9 v10 W) (hall : ∀ j, j < 6 → Dn l j) (hp : v9 = .pointer (some ⟨p, 0, none⟩)) : R2 w0 A n c H hn hc xs ys (l.setIfInBounds 6 true) v32 v33 v34 v35 v9 v10 (W.setCell ⟨p, 0, none⟩ v33) := by
  have hs : 6 < l.size := by rw [h.sz]; decide
  have e : ∀ {j}, j ≠ 6 → Dn (l.setIfInBounds 6 true) j → Dn l j := fun hj hd => ((Dn.set hs).1 hd).resolve_left hj
  have e2 : ∀ {j}, Dn l j → Dn (l.setIfInBounds 6 true) j := fun hd => (Dn.set hs).2 (.inr hd)
  obtain ⟨u1, b1, k1⟩ := h.d4 (hall 4 (by decide))
  obtain ⟨u2, b2, k2⟩ := h.d5 (hall 5 (by decide))
  have n12 := b1.kinds b2 (by decide)
  have c1 := h.d1 (hall 1 (by decide))
  have c3 := h.d3 (hall 3 (by decide))
  have hB := b1
  obtain ⟨p', q1, q2, q3⟩ := hB
  rw [hp] at q1
  injection q1 with q1
  injection q1 with q1
  injection q1 with q1
  subst q1
  exact ⟨by rw [Array.size_setIfInBounds]; exact h.sz, h.bw.setCell (p := ⟨p, 0, none⟩) q2 _, fun _ j hj => e2 (hall j hj), fun hd => h.d0 (e (by decide) hd), fun _ => c1.set_ q3 (by decide), fun hd => h.d2 (e (by decide) hd), fun _ => c3.set_ q3 (by decide), fun _ => ⟨v33, by rw [hp] at b1 ⊢; exact b1.set_, fun _ => rfl⟩, fun _ => ⟨u2, b2.far (by rw [← hp]; exact n12.symm), fun hd => k2 (e (by decide) hd)⟩⟩
theorem R2.s7 {p : Nat} (h : R2 w0 A n c H hn hc xs ys l v32 v33 v34 v35 v9 v10 W) (hall : ∀ j, j < 6 → Dn l j) (hp : v10 = .pointer (some ⟨p, 0, none⟩)) : R2 w0 A n c H hn hc xs ys (l.setIfInBounds 7 true) v32 v33 v34 v35 v9 v10 (W.setCell ⟨p, 0, none⟩ v35) := by
  have hs : 7 < l.size := by rw [h.sz]; decide
  have e : ∀ {j}, j ≠ 7 → Dn (l.setIfInBounds 7 true) j → Dn l j := fun hj hd => ((Dn.set hs).1 hd).resolve_left hj
  have e2 : ∀ {j}, Dn l j → Dn (l.setIfInBounds 7 true) j := fun hd => (Dn.set hs).2 (.inr hd)
  obtain ⟨u1, b1, k1⟩ := h.d4 (hall 4 (by decide))
  obtain ⟨u2, b2, k2⟩ := h.d5 (hall 5 (by decide))
  have n12 := b1.kinds b2 (by decide)
  have c1 := h.d1 (hall 1 (by decide))
  have c3 := h.d3 (hall 3 (by decide))
  have hB := b2
  obtain ⟨p', q1, q2, q3⟩ := hB
  rw [hp] at q1
  injection q1 with q1
  injection q1 with q1
  injection q1 with q1
  subst q1
  exact ⟨by rw [Array.size_setIfInBounds]; exact h.sz, h.bw.setCell (p := ⟨p, 0, none⟩) q2 _, fun _ j hj => e2 (hall j hj), fun hd => h.d0 (e (by decide) hd), fun _ => c1.set_ q3 (by decide), fun hd => h.d2 (e (by decide) hd), fun _ => c3.set_ q3 (by decide), fun _ => ⟨u1, b1.far (by rw [← hp]; exact n12), fun hd => k1 (e (by decide) hd)⟩, fun _ => ⟨v35, by rw [hp] at b2 ⊢; exact b2.set_, fun _ => rfl⟩⟩
end
theorem puts6 (s : Act) (d0 d1 d2 d3 d4 d5 : Nat) : s = ((((((s.put (some d0) (s.tmps.getD d0 undef)).put (some d1) (s.tmps.getD d1 undef)).put (some d2) (s.tmps.getD d2 undef)).put (some d3) (s.tmps.getD d3 undef)).put (some d4) (s.tmps.getD d4 undef)).put (some d5) (s.tmps.getD d5 undef)) := by simp only [put_self]
/-- Where nothing can come up any more, all are done. -/
theorem all_done {md : Region.Mode} {ops : Array Oper} {l : Array Bool} (hs : l.size = ops.size) (hr : Region.ready md ops l = []) (hlow : ((List.range ops.size).all fun i => ((ops[i]?).map fun o => o.after.toList.all fun e => decide (e.on < i)).getD true) = true) : ∀ i, i < ops.size → Dn l i := by
  intro i
  induction i using Nat.strongRecOn with
  | ind i ih =>
    intro hi
    refine Classical.byContradiction fun hn => ?_
    have ho : ops[i]? = some ops[i] := Array.getElem?_eq_getElem hi
    have h1 := List.all_eq_true.1 hlow i (List.mem_range.2 hi)
    rw [ho] at h1
    simp only [Option.map_some, Option.getD_some] at h1
    have hm : i ∈ Region.ready md ops l := by
      refine mem_ready.2 ⟨?_, ops[i], ho, fun e he hb => ?_⟩
      · unfold Dn at hn
        have hl : i < l.size := by omega
        simp [hl] at hn ⊢
        exact hn
      · have h2 : e.on < i := by
          have := List.all_eq_true.1 h1 e (Array.mem_toList_iff.2 he)
          simpa using this
        exact ih e.on h2 (by omega)
    rw [hr] at hm
    cases hm
end Go.Proofs.Ytbmkbnalembbjaa
