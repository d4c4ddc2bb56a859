/-
  Texts joined: AnyOrder ThreeBoxes CleanLaw.
-/
import Derived.Orders
import Derived.Test.YtbmkbnalembbjaaS0
import Derived.Test.YtbmkbnalembbjaaS9
namespace Go.Proofs.Ytbmkbnalembbjaa
open Go.RowKit
theorem count_set (l : List Bool) (i : Nat) (h : l[i]? = some false) : (l.set i true).count false + 1 = l.count false := by
  induction l generalizing i with
  | nil => simp at h
  | cons b t ih =>
    cases i with
    | zero =>
      simp only [List.getElem?_cons_zero, Option.some.injEq] at h
      subst h
      simp [List.count_cons]
    | succ i =>
      simp only [List.getElem?_cons_succ] at h
      have := ih i h
      simp only [List.set_cons_succ, List.count_cons]
      omega
theorem wpAny_inv {P : Program} {md : Region.Mode} {ops : Array Oper} {Q : Exit → Act → World → Prop} (I : Array Bool → Act → World → Prop)
    (hend : ∀ listed a w, I listed a w → Region.ready md ops listed = [] → Q .normal a w)
    (hstep : ∀ listed a w i, I listed a w → i ∈ Region.ready md ops listed → wpOp P ops Q i (I (listed.setIfInBounds i true)) a w) :
    ∀ (fuel : Nat) (listed : Array Bool) (a : Act) (w : World), I listed a w → listed.toList.count false ≤ fuel → wpAny P md ops Q fuel listed a w := by
  intro fuel
  induction fuel with
  | zero =>
    intro listed a w h hc
    have hr : Region.ready md ops listed = [] := by
      cases hr : Region.ready md ops listed with
      | nil => rfl
      | cons i t =>
        have hi := (mem_ready.1 (show i ∈ Region.ready md ops listed by rw [hr]; simp)).1
        have h1 : listed.toList[i]? = some false := by
          rcases Nat.lt_or_ge i listed.size with h' | h'
          · simp [h'] at hi ⊢; exact hi
          · simp [Array.getElem?_eq_none h'] at hi
        have := count_set _ _ h1
        omega
    exact ⟨hr, hend _ _ _ h hr⟩
  | succ fuel ih =>
    intro listed a w h hc
    refine ⟨fun hr => hend _ _ _ h hr, fun i hi => ?_⟩
    refine wpOp_mono (fun a' w' h' => ih _ _ _ h' ?_) (hstep _ _ _ _ h hi)
    have hi2 := (mem_ready.1 hi).1
    have h1 : listed.toList[i]? = some false := by
      rcases Nat.lt_or_ge i listed.size with h' | h'
      · simp [h'] at hi2 ⊢; exact hi2
      · simp [Array.getElem?_eq_none h'] at hi2
    have := count_set _ _ h1
    rw [Array.toList_setIfInBounds]
    omega
theorem wpAny_inv2 {P : Program} {md : Region.Mode} {ops : Array Oper} {Q : Exit → Act → World → Prop} (I : Act → Array Bool → Act → World → Prop) (a0 : Act) (fuel : Nat) (listed : Array Bool) (w : World)
    (hend : ∀ listed a w, I a0 listed a w → Region.ready md ops listed = [] → Q .normal a w)
    (hstep : ∀ listed a w i, I a0 listed a w → i ∈ Region.ready md ops listed → wpOp P ops Q i (I a0 (listed.setIfInBounds i true)) a w)
    (h : I a0 listed a0 w) (hc : listed.toList.count false ≤ fuel) : wpAny P md ops Q fuel listed a0 w := wpAny_inv (I a0) hend hstep fuel listed a0 w h hc
theorem put_self (s : Act) (d : Nat) : s.put (some d) (s.tmps.getD d undef) = s := by
  unfold Act.put
  dsimp only
  have h : s.tmps.setIfInBounds d (s.tmps.getD d undef) = s.tmps := by
    apply Array.ext_getElem?
    intro i
    by_cases hi : i = d
    · subst hi
      rcases Nat.lt_or_ge i s.tmps.size with h' | h'
      · simp [h']
      · simp [h']
    · rw [Array.getElem?_setIfInBounds_ne (Ne.symm hi)]
  rw [h]
def onto (K : Act → World → Prop) (Q : Exit → Act → World → Prop) : Exit → Act → World → Prop
  | .normal, a, w => K a w
  | e, a, w => Q e a w
theorem wpOp_list {P : Program} {ops : Array Oper} {Q : Exit → Act → World → Prop} {K : Act → World → Prop} {i : Nat} {a : Act} {w : World} {o : Oper} (hi : ops[i]? = some o) (h : wpList P ops (onto K Q) [o] a w) : wpOp P ops Q i K a w := by
  unfold wpOp
  rw [hi]
  unfold wpList at h
  dsimp only
  split
  · rename_i hw
    rw [if_pos hw] at h
    rcases h with h | h
    · left
      unfold Oper.wp at *
      generalize (execOp a.eval o).run P w = r at *
      cases r with
      | ok n w' => cases n <;> exact h
      | halt x w' => cases x <;> exact h
    · exact .inr h
  · rename_i hw
    rw [if_neg hw] at h
    exact h
def Dn (l : Array Bool) (j : Nat) : Prop := l.getD j false = true
theorem Dn.set {l : Array Bool} {i j : Nat} (hi : i < l.size) : Dn (l.setIfInBounds i true) j ↔ j = i ∨ Dn l j := by
  unfold Dn
  by_cases h : j = i
  · subst h
    simp [hi]
  · simp only [h, false_or]
    rw [getD_set_ne false (Ne.symm h)]
theorem Dn.none {n j : Nat} : ¬ Dn (Array.replicate n false) j := by
  unfold Dn
  simp only [Array.getD_eq_getD_getElem?, Array.getElem?_replicate]
  split <;> simp
theorem Dn.of_ready {md : Region.Mode} {ops : Array Oper} {l : Array Bool} {i : Nat} (h : i ∈ Region.ready md ops l) (hs : l.size = ops.size) : i < l.size ∧ ¬ Dn l i ∧ ∃ o, ops[i]? = some o ∧ ∀ e ∈ o.after, Region.binds md e = true → Dn l e.on := by
  obtain ⟨h1, o, ho, h2⟩ := mem_ready.1 h
  have hl : i < l.size := by rw [hs]; exact (Array.getElem?_eq_some_iff.1 ho).1
  refine ⟨hl, ?_, o, ho, fun e he hb => h2 e he hb⟩
  unfold Dn
  simp [hl] at h1 ⊢
  exact h1
def Closed (md : Region.Mode) (ops : Array Oper) (l : Array Bool) : Prop := ∀ i o, ops[i]? = some o → Dn l i → ∀ e ∈ o.after, Region.binds md e = true → Dn l e.on
theorem wpAny_inv3 {P : Program} {md : Region.Mode} {ops : Array Oper} {Q : Exit → Act → World → Prop} (I : Act → Array Bool → Act → World → Prop) (a0 : Act) (w : World)
    (hend : ∀ l a w, I a0 l a w → l.size = ops.size → Region.ready md ops l = [] → Q .normal a w)
    (hstep : ∀ l a w i o, I a0 l a w → Closed md ops l → i < l.size → ¬ Dn l i → ops[i]? = some o → (∀ e ∈ o.after, Region.binds md e = true → Dn l e.on) → wpOp P ops Q i (I a0 (l.setIfInBounds i true)) a w)
    (h : I a0 (Array.replicate ops.size false) a0 w) : wpAny P md ops Q ops.size (Array.replicate ops.size false) a0 w := by
  refine wpAny_inv2 (I := fun a0 l a w => I a0 l a w ∧ Closed md ops l ∧ l.size = ops.size) a0 _ _ w ?_ ?_ ⟨h, fun i o _ hd => absurd hd Dn.none, by simp⟩ ?_
  · intro l a w hI hr
    exact hend l a w hI.1 hI.2.2 hr
  · intro l a w i hI hi
    obtain ⟨h1, h2, o, h3, h4⟩ := Dn.of_ready hi hI.2.2
    refine wpOp_mono (fun a' w' h' => ⟨h', fun j oj hj hd e he hb => ?_, by rw [Array.size_setIfInBounds]; exact hI.2.2⟩) (hstep l a w i o hI.1 hI.2.1 h1 h2 h3 h4)
    rcases (Dn.set h1).1 hd with rfl | hd
    · obtain rfl := Option.some.inj (h3.symm.trans hj)
      exact (Dn.set h1).2 (.inr (h4 e he hb))
    · exact (Dn.set h1).2 (.inr (hI.2.1 j oj hj hd e he hb))
  · rw [Array.toList_replicate, List.count_replicate]
    simp
theorem pre_dn {md : Region.Mode} {ops : Array Oper} {l : Array Bool} {i : Nat} {o : Oper} (ho : ops[i]? = some o) (haf : ∀ e ∈ o.after, Region.binds md e = true → Dn l e.on) (j : Nat) (hx : (((ops[i]?).map fun o => o.after.toList.any fun e => e.on == j && Region.binds md e).getD false) = true) : Dn l j := by
  rw [ho] at hx
  simp only [Option.map_some, Option.getD_some] at hx
  obtain ⟨e, he, h⟩ := List.any_eq_true.1 hx
  simp only [Bool.and_eq_true, beq_iff_eq] at h
  have := haf e (Array.mem_toList_iff.1 he) h.2
  rwa [h.1] at this
theorem Closed.dn {md : Region.Mode} {ops : Array Oper} {l : Array Bool} {i : Nat} (h : Closed md ops l) (hd : Dn l i) (j : Nat) (hx : (((ops[i]?).map fun o => o.after.toList.any fun e => e.on == j && Region.binds md e).getD false) = true) : Dn l j := by
  cases ho : ops[i]? with
  | none =>
    rw [ho] at hx
    cases hx
  | some o => exact pre_dn ho (h i o ho hd) j hx
theorem onto_normal {K : Act → World → Prop} {Q : Exit → Act → World → Prop} {a : Act} {w : World} (h : K a w) : onto K Q .normal a w := h
end Go.Proofs.Ytbmkbnalembbjaa

namespace Go.Proofs.Ytbmkbnalembbjaa
open Go.RowKit
def Bx (base : Nat) (t : TypeId) (W : World) (v u : Value) : Prop := ∃ p, v = .pointer (some ⟨p, 0, none⟩) ∧ base ≤ p ∧ Blk W p t #[u]
theorem Bx.below {base : Nat} {t : TypeId} {W W' : World} {v u : Value} (h : Bx base t W v u) (hb : Below W.heap.size W W') : Bx base t W' v u := by
  obtain ⟨p, h1, h2, h3⟩ := h
  exact ⟨p, h1, h2, h3.below hb h3.lt⟩
theorem Bx.ne {base : Nat} {t : TypeId} {W : World} {v u : Value} (h : Bx base t W v u) : v ≠ .pointer (some ⟨W.heap.size, 0, none⟩) := by
  obtain ⟨p, rfl, h2, h3⟩ := h
  intro e
  have := h3.lt
  injection e with e
  injection e with e
  injection e with e
  omega
theorem Bx.set_ {base : Nat} {t : TypeId} {W : World} {p : Nat} {u x : Value} (h : Bx base t W (.pointer (some ⟨p, 0, none⟩)) u) : Bx base t (W.setCell ⟨p, 0, none⟩ x) (.pointer (some ⟨p, 0, none⟩)) x := by
  obtain ⟨q, h1, h2, h3⟩ := h
  injection h1 with h1
  injection h1 with h1
  injection h1 with h1
  subst h1
  exact ⟨p, rfl, h2, by simpa using h3.set_ 0 x⟩
theorem Bx.far {base : Nat} {t : TypeId} {W : World} {p : Nat} {v u x : Value} (h : Bx base t W v u) (hne : v ≠ .pointer (some ⟨p, 0, none⟩)) : Bx base t (W.setCell ⟨p, 0, none⟩ x) v u := by
  obtain ⟨q, rfl, h2, h3⟩ := h
  refine ⟨q, rfl, h2, h3.far (p := ⟨p, 0, none⟩) (fun e => hne (by rw [e])) x⟩
def Cl (base : Nat) (e : TypeId) (n : Nat) (xs : List Value) (W : World) (v : Value) : Prop := ∃ A c, v = .slice A n c ∧ W.ownsRow base e 1 (.slice A n c) n xs
theorem Cl.below {base n : Nat} {e : TypeId} {xs : List Value} {W W' : World} {v : Value} (h : Cl base e n xs W v) (hb : Below W.heap.size W W') : Cl base e n xs W' v := by
  obtain ⟨A, c, h1, h2⟩ := h
  exact ⟨A, c, h1, own_below h2 hb⟩
theorem Cl.set_ {base n p : Nat} {e t : TypeId} {xs : List Value} {W : World} {v u x : Value} (h : Cl base e n xs W v) (hB : Blk W p t #[u]) (he : e ≠ t) : Cl base e n xs (W.setCell ⟨p, 0, none⟩ x) v := by
  obtain ⟨A, c, h1, h2⟩ := h
  exact ⟨A, c, h1, own_apart (p := ⟨p, 0, none⟩) h2 (own_blk_ne h2 hB he) x⟩
theorem Bx.kinds {W : World} {base base' : Nat} {t t' : TypeId} {v v' u u' : Value} (h : Bx base t W v u) (h' : Bx base' t' W v' u') (ht : t ≠ t') : v ≠ v' := by
  obtain ⟨p, rfl, -, h3⟩ := h
  obtain ⟨q, rfl, -, h6⟩ := h'
  intro e
  injection e with e
  injection e with e
  injection e with e
  subst e
  unfold Blk at h3 h6
  rw [h3] at h6
  simp only [Option.some.injEq, Obj.cells.injEq] at h6
  exact ht h6.2.1
structure R3B (w0 : World) (A : Option Addr) (n c : Nat) (G : Option Addr) (gn gc : Nat) (K : Option Addr) (kn kc : Nat) (a g b : List Int) (l : Array Bool) (v29 v30 v31 v32 v33 v34 v7 v8 v9 : Value) (W : World) : Prop where
  sz : l.size = 12
  bw : Below w0.heap.size w0 W
  late : Dn l 9 ∨ Dn l 10 ∨ Dn l 11 → ∀ j, j < 9 → Dn l j
  d0 : Dn l 0 → v29 = .slice A n c
  d1 : Dn l 1 → Cl w0.heap.size 37 n (a.map (.int .u64)) W v30
  d2 : Dn l 2 → v31 = .slice G gn gc
  d3 : Dn l 3 → Cl w0.heap.size 3 gn (g.map (.int .i64)) W v32
  d4 : Dn l 4 → v33 = .slice K kn kc
  d5 : Dn l 5 → Cl w0.heap.size 3 kn (b.map (.int .i64)) W v34
  d6 : Dn l 6 → ∃ u, Bx w0.heap.size 23 W v7 u ∧ (Dn l 9 → u = v30)
  d7 : Dn l 7 → ∃ u, Bx w0.heap.size 24 W v8 u ∧ (Dn l 10 → u = v32)
  d8 : Dn l 8 → ∃ u, Bx w0.heap.size 24 W v9 u ∧ (Dn l 11 → u = v34)
  ne : Dn l 7 → Dn l 8 → v8 ≠ v9
section
variable {w0 W W' : World} {A : Option Addr} {n c : Nat} {G : Option Addr} {gn gc : Nat} {K : Option Addr} {kn kc : Nat} {a g b : List Int} {l : Array Bool} {v29 v30 v31 v32 v33 v34 v7 v8 v9 : Value}
theorem R3B.start (h : Below w0.heap.size w0 W) : R3B w0 A n c G gn gc K kn kc a g b (Array.replicate 12 false) v29 v30 v31 v32 v33 v34 v7 v8 v9 W :=
  ⟨by simp, h, fun hl => by rcases hl with h | h | h <;> exact absurd h Dn.none, fun h => absurd h Dn.none, fun h => absurd h Dn.none, fun h => absurd h Dn.none, fun h => absurd h Dn.none, fun h => absurd h Dn.none, fun h => absurd h Dn.none, fun h => absurd h Dn.none, fun h => absurd h Dn.none, fun h => absurd h Dn.none, fun h => absurd h Dn.none⟩
theorem R3B.s0 {x : Value} (h : R3B w0 A n c G gn gc K kn kc a g b l v29 v30 v31 v32 v33 v34 v7 v8 v9 W) (hu : ¬ Dn l 0) (hb : Below W.heap.size W W') (hv : x = .slice A n c) : R3B w0 A n c G gn gc K kn kc a g b (l.setIfInBounds 0 true) x v30 v31 v32 v33 v34 v7 v8 v9 W' := by
  have hs : 0 < l.size := by rw [h.sz]; decide
  have hnl : ¬ (Dn l 9 ∨ Dn l 10 ∨ Dn l 11) := fun hl => hu (h.late hl 0 (by decide))
  have e : ∀ {j}, j ≠ 0 → Dn (l.setIfInBounds 0 true) j → Dn l j := fun hj hd => ((Dn.set hs).1 hd).resolve_left hj
  have hnl' : ¬ (Dn (l.setIfInBounds 0 true) 9 ∨ Dn (l.setIfInBounds 0 true) 10 ∨ Dn (l.setIfInBounds 0 true) 11) := fun hl => hnl (hl.imp (e (by decide)) (Or.imp (e (by decide)) (e (by decide))))
  exact ⟨by rw [Array.size_setIfInBounds]; exact h.sz, below_step h.bw hb, fun hl => absurd hl hnl', fun _ => hv, fun hd => (h.d1 (e (by decide) hd)).below hb, fun hd => h.d2 (e (by decide) hd), fun hd => (h.d3 (e (by decide) hd)).below hb, fun hd => h.d4 (e (by decide) hd), fun hd => (h.d5 (e (by decide) hd)).below hb, fun hd => by obtain ⟨u, h1, -⟩ := h.d6 (e (by decide) hd); exact ⟨u, h1.below hb, fun h9 => absurd (Or.inl h9) hnl'⟩, fun hd => by obtain ⟨u, h1, -⟩ := h.d7 (e (by decide) hd); exact ⟨u, h1.below hb, fun h10 => absurd (Or.inr (Or.inl h10)) hnl'⟩, fun hd => by obtain ⟨u, h1, -⟩ := h.d8 (e (by decide) hd); exact ⟨u, h1.below hb, fun h11 => absurd (Or.inr (Or.inr h11)) hnl'⟩, fun h1 h2 => h.ne (e (by decide) h1) (e (by decide) h2)⟩
theorem R3B.s1 {x : Value} (h : R3B w0 A n c G gn gc K kn kc a g b l v29 v30 v31 v32 v33 v34 v7 v8 v9 W) (hu : ¬ Dn l 1) (hb : Below W.heap.size W W') (hv : Cl w0.heap.size 37 n (a.map (.int .u64)) W' x) : R3B w0 A n c G gn gc K kn kc a g b (l.setIfInBounds 1 true) v29 x v31 v32 v33 v34 v7 v8 v9 W' := by
  have hs : 1 < l.size := by rw [h.sz]; decide
  have hnl : ¬ (Dn l 9 ∨ Dn l 10 ∨ Dn l 11) := fun hl => hu (h.late hl 1 (by decide))
  have e : ∀ {j}, j ≠ 1 → Dn (l.setIfInBounds 1 true) j → Dn l j := fun hj hd => ((Dn.set hs).1 hd).resolve_left hj
  have hnl' : ¬ (Dn (l.setIfInBounds 1 true) 9 ∨ Dn (l.setIfInBounds 1 true) 10 ∨ Dn (l.setIfInBounds 1 true) 11) := fun hl => hnl (hl.imp (e (by decide)) (Or.imp (e (by decide)) (e (by decide))))
  exact ⟨by rw [Array.size_setIfInBounds]; exact h.sz, below_step h.bw hb, fun hl => absurd hl hnl', fun hd => h.d0 (e (by decide) hd), fun _ => hv, fun hd => h.d2 (e (by decide) hd), fun hd => (h.d3 (e (by decide) hd)).below hb, fun hd => h.d4 (e (by decide) hd), fun hd => (h.d5 (e (by decide) hd)).below hb, fun hd => by obtain ⟨u, h1, -⟩ := h.d6 (e (by decide) hd); exact ⟨u, h1.below hb, fun h9 => absurd (Or.inl h9) hnl'⟩, fun hd => by obtain ⟨u, h1, -⟩ := h.d7 (e (by decide) hd); exact ⟨u, h1.below hb, fun h10 => absurd (Or.inr (Or.inl h10)) hnl'⟩, fun hd => by obtain ⟨u, h1, -⟩ := h.d8 (e (by decide) hd); exact ⟨u, h1.below hb, fun h11 => absurd (Or.inr (Or.inr h11)) hnl'⟩, fun h1 h2 => h.ne (e (by decide) h1) (e (by decide) h2)⟩
theorem R3B.s2 {x : Value} (h : R3B w0 A n c G gn gc K kn kc a g b l v29 v30 v31 v32 v33 v34 v7 v8 v9 W) (hu : ¬ Dn l 2) (hb : Below W.heap.size W W') (hv : x = .slice G gn gc) : R3B w0 A n c G gn gc K kn kc a g b (l.setIfInBounds 2 true) v29 v30 x v32 v33 v34 v7 v8 v9 W' := by
  have hs : 2 < l.size := by rw [h.sz]; decide
  have hnl : ¬ (Dn l 9 ∨ Dn l 10 ∨ Dn l 11) := fun hl => hu (h.late hl 2 (by decide))
  have e : ∀ {j}, j ≠ 2 → Dn (l.setIfInBounds 2 true) j → Dn l j := fun hj hd => ((Dn.set hs).1 hd).resolve_left hj
  have hnl' : ¬ (Dn (l.setIfInBounds 2 true) 9 ∨ Dn (l.setIfInBounds 2 true) 10 ∨ Dn (l.setIfInBounds 2 true) 11) := fun hl => hnl (hl.imp (e (by decide)) (Or.imp (e (by decide)) (e (by decide))))
  exact ⟨by rw [Array.size_setIfInBounds]; exact h.sz, below_step h.bw hb, fun hl => absurd hl hnl', fun hd => h.d0 (e (by decide) hd), fun hd => (h.d1 (e (by decide) hd)).below hb, fun _ => hv, fun hd => (h.d3 (e (by decide) hd)).below hb, fun hd => h.d4 (e (by decide) hd), fun hd => (h.d5 (e (by decide) hd)).below hb, fun hd => by obtain ⟨u, h1, -⟩ := h.d6 (e (by decide) hd); exact ⟨u, h1.below hb, fun h9 => absurd (Or.inl h9) hnl'⟩, fun hd => by obtain ⟨u, h1, -⟩ := h.d7 (e (by decide) hd); exact ⟨u, h1.below hb, fun h10 => absurd (Or.inr (Or.inl h10)) hnl'⟩, fun hd => by obtain ⟨u, h1, -⟩ := h.d8 (e (by decide) hd); exact ⟨u, h1.below hb, fun h11 => absurd (Or.inr (Or.inr h11)) hnl'⟩, fun h1 h2 => h.ne (e (by decide) h1) (e (by decide) h2)⟩
theorem R3B.s3 {x : Value} (h : R3B w0 A n c G gn gc K kn kc a g b l v29 v30 v31 v32 v33 v34 v7 v8 v9 W) (hu : ¬ Dn l 3) (hb : Below W.heap.size W W') (hv : Cl w0.heap.size 3 gn (g.map (.int .i64)) W' x) : R3B w0 A n c G gn gc K kn kc a g b (l.setIfInBounds 3 true) v29 v30 v31 x v33 v34 v7 v8 v9 W' := by
  have hs : 3 < l.size := by rw [h.sz]; decide
  have hnl : ¬ (Dn l 9 ∨ Dn l 10 ∨ Dn l 11) := fun hl => hu (h.late hl 3 (by decide))
  have e : ∀ {j}, j ≠ 3 → Dn (l.setIfInBounds 3 true) j → Dn l j := fun hj hd => ((Dn.set hs).1 hd).resolve_left hj
  have hnl' : ¬ (Dn (l.setIfInBounds 3 true) 9 ∨ Dn (l.setIfInBounds 3 true) 10 ∨ Dn (l.setIfInBounds 3 true) 11) := fun hl => hnl (hl.imp (e (by decide)) (Or.imp (e (by decide)) (e (by decide))))
  exact ⟨by rw [Array.size_setIfInBounds]; exact h.sz, below_step h.bw hb, fun hl => absurd hl hnl', fun hd => h.d0 (e (by decide) hd), fun hd => (h.d1 (e (by decide) hd)).below hb, fun hd => h.d2 (e (by decide) hd), fun _ => hv, fun hd => h.d4 (e (by decide) hd), fun hd => (h.d5 (e (by decide) hd)).below hb, fun hd => by obtain ⟨u, h1, -⟩ := h.d6 (e (by decide) hd); exact ⟨u, h1.below hb, fun h9 => absurd (Or.inl h9) hnl'⟩, fun hd => by obtain ⟨u, h1, -⟩ := h.d7 (e (by decide) hd); exact ⟨u, h1.below hb, fun h10 => absurd (Or.inr (Or.inl h10)) hnl'⟩, fun hd => by obtain ⟨u, h1, -⟩ := h.d8 (e (by decide) hd); exact ⟨u, h1.below hb, fun h11 => absurd (Or.inr (Or.inr h11)) hnl'⟩, fun h1 h2 => h.ne (e (by decide) h1) (e (by decide) h2)⟩
theorem R3B.s4 {x : Value} (h : R3B w0 A n c G gn gc K kn kc a g b l v29 v30 v31 v32 v33 v34 v7 v8 v9 W) (hu : ¬ Dn l 4) (hb : Below W.heap.size W W') (hv : x = .slice K kn kc) : R3B w0 A n c G gn gc K kn kc a g b (l.setIfInBounds 4 true) v29 v30 v31 v32 x v34 v7 v8 v9 W' := by
  have hs : 4 < l.size := by rw [h.sz]; decide
  have hnl : ¬ (Dn l 9 ∨ Dn l 10 ∨ Dn l 11) := fun hl => hu (h.late hl 4 (by decide))
  have e : ∀ {j}, j ≠ 4 → Dn (l.setIfInBounds 4 true) j → Dn l j := fun hj hd => ((Dn.set hs).1 hd).resolve_left hj
  have hnl' : ¬ (Dn (l.setIfInBounds 4 true) 9 ∨ Dn (l.setIfInBounds 4 true) 10 ∨ Dn (l.setIfInBounds 4 true) 11) := fun hl => hnl (hl.imp (e (by decide)) (Or.imp (e (by decide)) (e (by decide))))
  exact ⟨by rw [Array.size_setIfInBounds]; exact h.sz, below_step h.bw hb, fun hl => absurd hl hnl', fun hd => h.d0 (e (by decide) hd), fun hd => (h.d1 (e (by decide) hd)).below hb, fun hd => h.d2 (e (by decide) hd), fun hd => (h.d3 (e (by decide) hd)).below hb, fun _ => hv, fun hd => (h.d5 (e (by decide) hd)).below hb, fun hd => by obtain ⟨u, h1, -⟩ := h.d6 (e (by decide) hd); exact ⟨u, h1.below hb, fun h9 => absurd (Or.inl h9) hnl'⟩, fun hd => by obtain ⟨u, h1, -⟩ := h.d7 (e (by decide) hd); exact ⟨u, h1.below hb, fun h10 => absurd (Or.inr (Or.inl h10)) hnl'⟩, fun hd => by obtain ⟨u, h1, -⟩ := h.d8 (e (by decide) hd); exact ⟨u, h1.below hb, fun h11 => absurd (Or.inr (Or.inr h11)) hnl'⟩, fun h1 h2 => h.ne (e (by decide) h1) (e (by decide) h2)⟩
theorem R3B.s5 {x : Value} (h : R3B w0 A n c G gn gc K kn kc a g b l v29 v30 v31 v32 v33 v34 v7 v8 v9 W) (hu : ¬ Dn l 5) (hb : Below W.heap.size W W') (hv : Cl w0.heap.size 3 kn (b.map (.int .i64)) W' x) : R3B w0 A n c G gn gc K kn kc a g b (l.setIfInBounds 5 true) v29 v30 v31 v32 v33 x v7 v8 v9 W' := by
  have hs : 5 < l.size := by rw [h.sz]; decide
  have hnl : ¬ (Dn l 9 ∨ Dn l 10 ∨ Dn l 11) := fun hl => hu (h.late hl 5 (by decide))
  have e : ∀ {j}, j ≠ 5 → Dn (l.setIfInBounds 5 true) j → Dn l j := fun hj hd => ((Dn.set hs).1 hd).resolve_left hj
  have hnl' : ¬ (Dn (l.setIfInBounds 5 true) 9 ∨ Dn (l.setIfInBounds 5 true) 10 ∨ Dn (l.setIfInBounds 5 true) 11) := fun hl => hnl (hl.imp (e (by decide)) (Or.imp (e (by decide)) (e (by decide))))
  exact ⟨by rw [Array.size_setIfInBounds]; exact h.sz, below_step h.bw hb, fun hl => absurd hl hnl', fun hd => h.d0 (e (by decide) hd), fun hd => (h.d1 (e (by decide) hd)).below hb, fun hd => h.d2 (e (by decide) hd), fun hd => (h.d3 (e (by decide) hd)).below hb, fun hd => h.d4 (e (by decide) hd), fun _ => hv, fun hd => by obtain ⟨u, h1, -⟩ := h.d6 (e (by decide) hd); exact ⟨u, h1.below hb, fun h9 => absurd (Or.inl h9) hnl'⟩, fun hd => by obtain ⟨u, h1, -⟩ := h.d7 (e (by decide) hd); exact ⟨u, h1.below hb, fun h10 => absurd (Or.inr (Or.inl h10)) hnl'⟩, fun hd => by obtain ⟨u, h1, -⟩ := h.d8 (e (by decide) hd); exact ⟨u, h1.below hb, fun h11 => absurd (Or.inr (Or.inr h11)) hnl'⟩, fun h1 h2 => h.ne (e (by decide) h1) (e (by decide) h2)⟩
theorem R3B.s6 {x : Value} (h : R3B w0 A n c G gn gc K kn kc a g b l v29 v30 v31 v32 v33 v34 v7 v8 v9 W) (hu : ¬ Dn l 6) (hb : Below W.heap.size W W') (hv : ∃ u, Bx w0.heap.size 23 W' x u) : R3B w0 A n c G gn gc K kn kc a g b (l.setIfInBounds 6 true) v29 v30 v31 v32 v33 v34 x v8 v9 W' := by
  have hs : 6 < l.size := by rw [h.sz]; decide
  have hnl : ¬ (Dn l 9 ∨ Dn l 10 ∨ Dn l 11) := fun hl => hu (h.late hl 6 (by decide))
  have e : ∀ {j}, j ≠ 6 → Dn (l.setIfInBounds 6 true) j → Dn l j := fun hj hd => ((Dn.set hs).1 hd).resolve_left hj
  have hnl' : ¬ (Dn (l.setIfInBounds 6 true) 9 ∨ Dn (l.setIfInBounds 6 true) 10 ∨ Dn (l.setIfInBounds 6 true) 11) := fun hl => hnl (hl.imp (e (by decide)) (Or.imp (e (by decide)) (e (by decide))))
  exact ⟨by rw [Array.size_setIfInBounds]; exact h.sz, below_step h.bw hb, fun hl => absurd hl hnl', fun hd => h.d0 (e (by decide) hd), fun hd => (h.d1 (e (by decide) hd)).below hb, fun hd => h.d2 (e (by decide) hd), fun hd => (h.d3 (e (by decide) hd)).below hb, fun hd => h.d4 (e (by decide) hd), fun hd => (h.d5 (e (by decide) hd)).below hb, fun _ => by obtain ⟨u, h1⟩ := hv; exact ⟨u, h1, fun h9 => absurd (Or.inl h9) hnl'⟩, fun hd => by obtain ⟨u, h1, -⟩ := h.d7 (e (by decide) hd); exact ⟨u, h1.below hb, fun h10 => absurd (Or.inr (Or.inl h10)) hnl'⟩, fun hd => by obtain ⟨u, h1, -⟩ := h.d8 (e (by decide) hd); exact ⟨u, h1.below hb, fun h11 => absurd (Or.inr (Or.inr h11)) hnl'⟩, fun h1 h2 => h.ne (e (by decide) h1) (e (by decide) h2)⟩
theorem R3B.s7 {x : Value} (h : R3B w0 A n c G gn gc K kn kc a g b l v29 v30 v31 v32 v33 v34 v7 v8 v9 W) (hu : ¬ Dn l 7) (hb : Below W.heap.size W W') (hv : ∃ u, Bx w0.heap.size 24 W' x u) (hne : Dn l 8 → x ≠ v9) : R3B w0 A n c G gn gc K kn kc a g b (l.setIfInBounds 7 true) v29 v30 v31 v32 v33 v34 v7 x v9 W' := by
  have hs : 7 < l.size := by rw [h.sz]; decide
  have hnl : ¬ (Dn l 9 ∨ Dn l 10 ∨ Dn l 11) := fun hl => hu (h.late hl 7 (by decide))
  have e : ∀ {j}, j ≠ 7 → Dn (l.setIfInBounds 7 true) j → Dn l j := fun hj hd => ((Dn.set hs).1 hd).resolve_left hj
  have hnl' : ¬ (Dn (l.setIfInBounds 7 true) 9 ∨ Dn (l.setIfInBounds 7 true) 10 ∨ Dn (l.setIfInBounds 7 true) 11) := fun hl => hnl (hl.imp (e (by decide)) (Or.imp (e (by decide)) (e (by decide))))
  exact ⟨by rw [Array.size_setIfInBounds]; exact h.sz, below_step h.bw hb, fun hl => absurd hl hnl', fun hd => h.d0 (e (by decide) hd), fun hd => (h.d1 (e (by decide) hd)).below hb, fun hd => h.d2 (e (by decide) hd), fun hd => (h.d3 (e (by decide) hd)).below hb, fun hd => h.d4 (e (by decide) hd), fun hd => (h.d5 (e (by decide) hd)).below hb, fun hd => by obtain ⟨u, h1, -⟩ := h.d6 (e (by decide) hd); exact ⟨u, h1.below hb, fun h9 => absurd (Or.inl h9) hnl'⟩, fun _ => by obtain ⟨u, h1⟩ := hv; exact ⟨u, h1, fun h10 => absurd (Or.inr (Or.inl h10)) hnl'⟩, fun hd => by obtain ⟨u, h1, -⟩ := h.d8 (e (by decide) hd); exact ⟨u, h1.below hb, fun h11 => absurd (Or.inr (Or.inr h11)) hnl'⟩, fun _ h2 => hne (e (by decide) h2)⟩
theorem R3B.s8 {x : Value} (h : R3B w0 A n c G gn gc K kn kc a g b l v29 v30 v31 v32 v33 v34 v7 v8 v9 W) (hu : ¬ Dn l 8) (hb : Below W.heap.size W W') (hv : ∃ u, Bx w0.heap.size 24 W' x u) (hne : Dn l 7 → v8 ≠ x) : R3B w0 A n c G gn gc K kn kc a g b (l.setIfInBounds 8 true) v29 v30 v31 v32 v33 v34 v7 v8 x W' := by
  have hs : 8 < l.size := by rw [h.sz]; decide
  have hnl : ¬ (Dn l 9 ∨ Dn l 10 ∨ Dn l 11) := fun hl => hu (h.late hl 8 (by decide))
  have e : ∀ {j}, j ≠ 8 → Dn (l.setIfInBounds 8 true) j → Dn l j := fun hj hd => ((Dn.set hs).1 hd).resolve_left hj
  have hnl' : ¬ (Dn (l.setIfInBounds 8 true) 9 ∨ Dn (l.setIfInBounds 8 true) 10 ∨ Dn (l.setIfInBounds 8 true) 11) := fun hl => hnl (hl.imp (e (by decide)) (Or.imp (e (by decide)) (e (by decide))))
  exact ⟨by rw [Array.size_setIfInBounds]; exact h.sz, below_step h.bw hb, fun hl => absurd hl hnl', fun hd => h.d0 (e (by decide) hd), fun hd => (h.d1 (e (by decide) hd)).below hb, fun hd => h.d2 (e (by decide) hd), fun hd => (h.d3 (e (by decide) hd)).below hb, fun hd => h.d4 (e (by decide) hd), fun hd => (h.d5 (e (by decide) hd)).below hb, fun hd => by obtain ⟨u, h1, -⟩ := h.d6 (e (by decide) hd); exact ⟨u, h1.below hb, fun h9 => absurd (Or.inl h9) hnl'⟩, fun hd => by obtain ⟨u, h1, -⟩ := h.d7 (e (by decide) hd); exact ⟨u, h1.below hb, fun h10 => absurd (Or.inr (Or.inl h10)) hnl'⟩, fun _ => by obtain ⟨u, h1⟩ := hv; exact ⟨u, h1, fun h11 => absurd (Or.inr (Or.inr h11)) hnl'⟩, fun h1 _ => hne (e (by decide) h1)⟩
theorem R3B.s9 {p : Nat} (h : R3B w0 A n c G gn gc K kn kc a g b l v29 v30 v31 v32 v33 v34 v7 v8 v9 W) (hall : ∀ j, j < 9 → Dn l j) (hp : v7 = .pointer (some ⟨p, 0, none⟩)) : R3B w0 A n c G gn gc K kn kc a g b (l.setIfInBounds 9 true) v29 v30 v31 v32 v33 v34 v7 v8 v9 (W.setCell ⟨p, 0, none⟩ v30) := by
  have hs : 9 < l.size := by rw [h.sz]; decide
  have e : ∀ {j}, j ≠ 9 → Dn (l.setIfInBounds 9 true) j → Dn l j := fun hj hd => ((Dn.set hs).1 hd).resolve_left hj
  have e2 : ∀ {j}, Dn l j → Dn (l.setIfInBounds 9 true) j := fun hd => (Dn.set hs).2 (.inr hd)
  obtain ⟨u1, b1, k1⟩ := h.d6 (hall 6 (by decide))
  obtain ⟨u2, b2, k2⟩ := h.d7 (hall 7 (by decide))
  obtain ⟨u3, b3, k3⟩ := h.d8 (hall 8 (by decide))
  have n12 := b1.kinds b2 (by decide)
  have n13 := b1.kinds b3 (by decide)
  have n23 := h.ne (hall 7 (by decide)) (hall 8 (by decide))
  have c1 := h.d1 (hall 1 (by decide))
  have c3 := h.d3 (hall 3 (by decide))
  have c5 := h.d5 (hall 5 (by decide))
  have hB := b1
  obtain ⟨p', q1, q2, q3⟩ := hB
  rw [hp] at q1
  injection q1 with q1
  injection q1 with q1
  injection q1 with q1
  subst q1
  exact ⟨by rw [Array.size_setIfInBounds]; exact h.sz, h.bw.setCell (p := ⟨p, 0, none⟩) q2 _, fun _ j hj => e2 (hall j hj), fun hd => h.d0 (e (by decide) hd), fun _ => c1.set_ q3 (by decide), fun hd => h.d2 (e (by decide) hd), fun _ => c3.set_ q3 (by decide), fun hd => h.d4 (e (by decide) hd), fun _ => c5.set_ q3 (by decide), fun _ => ⟨v30, by rw [hp] at b1 ⊢; exact b1.set_, fun _ => rfl⟩, fun _ => ⟨u2, b2.far (by rw [← hp]; exact n12.symm), fun hd => k2 (e (by decide) hd)⟩, fun _ => ⟨u3, b3.far (by rw [← hp]; exact n13.symm), fun hd => k3 (e (by decide) hd)⟩, fun h1 h2 => h.ne (e (by decide) h1) (e (by decide) h2)⟩
theorem R3B.s10 {p : Nat} (h : R3B w0 A n c G gn gc K kn kc a g b l v29 v30 v31 v32 v33 v34 v7 v8 v9 W) (hall : ∀ j, j < 9 → Dn l j) (hp : v8 = .pointer (some ⟨p, 0, none⟩)) : R3B w0 A n c G gn gc K kn kc a g b (l.setIfInBounds 10 true) v29 v30 v31 v32 v33 v34 v7 v8 v9 (W.setCell ⟨p, 0, none⟩ v32) := by
  have hs : 10 < l.size := by rw [h.sz]; decide
  have e : ∀ {j}, j ≠ 10 → Dn (l.setIfInBounds 10 true) j → Dn l j := fun hj hd => ((Dn.set hs).1 hd).resolve_left hj
  have e2 : ∀ {j}, Dn l j → Dn (l.setIfInBounds 10 true) j := fun hd => (Dn.set hs).2 (.inr hd)
  obtain ⟨u1, b1, k1⟩ := h.d6 (hall 6 (by decide))
  obtain ⟨u2, b2, k2⟩ := h.d7 (hall 7 (by decide))
  obtain ⟨u3, b3, k3⟩ := h.d8 (hall 8 (by decide))
  have n12 := b1.kinds b2 (by decide)
  have n13 := b1.kinds b3 (by decide)
  have n23 := h.ne (hall 7 (by decide)) (hall 8 (by decide))
  have c1 := h.d1 (hall 1 (by decide))
  have c3 := h.d3 (hall 3 (by decide))
  have c5 := h.d5 (hall 5 (by decide))
  have hB := b2
  obtain ⟨p', q1, q2, q3⟩ := hB
  rw [hp] at q1
  injection q1 with q1
  injection q1 with q1
  injection q1 with q1
  subst q1
  exact ⟨by rw [Array.size_setIfInBounds]; exact h.sz, h.bw.setCell (p := ⟨p, 0, none⟩) q2 _, fun _ j hj => e2 (hall j hj), fun hd => h.d0 (e (by decide) hd), fun _ => c1.set_ q3 (by decide), fun hd => h.d2 (e (by decide) hd), fun _ => c3.set_ q3 (by decide), fun hd => h.d4 (e (by decide) hd), fun _ => c5.set_ q3 (by decide), fun _ => ⟨u1, b1.far (by rw [← hp]; exact n12), fun hd => k1 (e (by decide) hd)⟩, fun _ => ⟨v32, by rw [hp] at b2 ⊢; exact b2.set_, fun _ => rfl⟩, fun _ => ⟨u3, b3.far (by rw [← hp]; exact n23.symm), fun hd => k3 (e (by decide) hd)⟩, fun h1 h2 => h.ne (e (by decide) h1) (e (by decide) h2)⟩
theorem R3B.s11 {p : Nat} (h : R3B w0 A n c G gn gc K kn kc a g b l v29 v30 v31 v32 v33 v34 v7 v8 v9 W) (hall : ∀ j, j < 9 → Dn l j) (hp : v9 = .pointer (some ⟨p, 0, none⟩)) : R3B w0 A n c G gn gc K kn kc a g b (l.setIfInBounds 11 true) v29 v30 v31 v32 v33 v34 v7 v8 v9 (W.setCell ⟨p, 0, none⟩ v34) := by
  have hs : 11 < l.size := by rw [h.sz]; decide
  have e : ∀ {j}, j ≠ 11 → Dn (l.setIfInBounds 11 true) j → Dn l j := fun hj hd => ((Dn.set hs).1 hd).resolve_left hj
  have e2 : ∀ {j}, Dn l j → Dn (l.setIfInBounds 11 true) j := fun hd => (Dn.set hs).2 (.inr hd)
  obtain ⟨u1, b1, k1⟩ := h.d6 (hall 6 (by decide))
  obtain ⟨u2, b2, k2⟩ := h.d7 (hall 7 (by decide))
  obtain ⟨u3, b3, k3⟩ := h.d8 (hall 8 (by decide))
  have n12 := b1.kinds b2 (by decide)
  have n13 := b1.kinds b3 (by decide)
  have n23 := h.ne (hall 7 (by decide)) (hall 8 (by decide))
  have c1 := h.d1 (hall 1 (by decide))
  have c3 := h.d3 (hall 3 (by decide))
  have c5 := h.d5 (hall 5 (by decide))
  have hB := b3
  obtain ⟨p', q1, q2, q3⟩ := hB
  rw [hp] at q1
  injection q1 with q1
  injection q1 with q1
  injection q1 with q1
  subst q1
  exact ⟨by rw [Array.size_setIfInBounds]; exact h.sz, h.bw.setCell (p := ⟨p, 0, none⟩) q2 _, fun _ j hj => e2 (hall j hj), fun hd => h.d0 (e (by decide) hd), fun _ => c1.set_ q3 (by decide), fun hd => h.d2 (e (by decide) hd), fun _ => c3.set_ q3 (by decide), fun hd => h.d4 (e (by decide) hd), fun _ => c5.set_ q3 (by decide), fun _ => ⟨u1, b1.far (by rw [← hp]; exact n13), fun hd => k1 (e (by decide) hd)⟩, fun _ => ⟨u2, b2.far (by rw [← hp]; exact n23), fun hd => k2 (e (by decide) hd)⟩, fun _ => ⟨v34, by rw [hp] at b3 ⊢; exact b3.set_, fun _ => rfl⟩, fun h1 h2 => h.ne (e (by decide) h1) (e (by decide) h2)⟩
end
theorem puts9 (s : Act) (d0 d1 d2 d3 d4 d5 d6 d7 d8 : Nat) : s = (((((((((s.put (some d0) (s.tmps.getD d0 undef)).put (some d1) (s.tmps.getD d1 undef)).put (some d2) (s.tmps.getD d2 undef)).put (some d3) (s.tmps.getD d3 undef)).put (some d4) (s.tmps.getD d4 undef)).put (some d5) (s.tmps.getD d5 undef)).put (some d6) (s.tmps.getD d6 undef)).put (some d7) (s.tmps.getD d7 undef)).put (some d8) (s.tmps.getD d8 undef)) := by simp only [put_self]
theorem all_done {md : Region.Mode} {ops : Array Oper} {l : Array Bool} (hs : l.size = ops.size) (hr : Region.ready md ops l = []) (hlow : ((List.range ops.size).all fun i => ((ops[i]?).map fun o => o.after.toList.all fun e => decide (e.on < i)).getD true) = true) : ∀ i, i < ops.size → Dn l i := by
  intro i
  induction i using Nat.strongRecOn with
  | ind i ih =>
    intro hi
    refine Classical.byContradiction fun hn => ?_
    have ho : ops[i]? = some ops[i] := Array.getElem?_eq_getElem hi
    have h1 := List.all_eq_true.1 hlow i (List.mem_range.2 hi)
    rw [ho] at h1
    simp only [Option.map_some, Option.getD_some] at h1
    have hm : i ∈ Region.ready md ops l := by
      refine mem_ready.2 ⟨?_, ops[i], ho, fun e he hb => ?_⟩
      · unfold Dn at hn
        have hl : i < l.size := by omega
        simp [hl] at hn ⊢
        exact hn
      · have h2 : e.on < i := by
          have := List.all_eq_true.1 h1 e (Array.mem_toList_iff.2 he)
          simpa using this
        exact ih e.on h2 (by omega)
    rw [hr] at hm
    cases hm
end Go.Proofs.Ytbmkbnalembbjaa

namespace Go.Proofs.Ytbmkbnalembbjaa
open Go.RowKit
structure Cleaned (a f p L Y b now : List Int) : Prop where
  laid : LaidOk a L Y b a.length
  closed : ClosedL a L
  plan : Planned a L p (longsV a L p) Y
  sub : ∀ x ∈ f ++ p, x ∈ L
  pin : ∀ x ∈ p, posL L Y x = x
  map : now ++ p = (f ++ p).map (posL L Y)
  len256 : a.length ≤ 256
  lenL : L.length ≤ 256
theorem Cleaned.alive {a f p L Y b now : List Int} (h : Cleaned a f p L Y b now) : ∀ x ∈ now ++ p, x ∈ begsL (spotsL b) := by
  intro x hx
  rw [h.map] at hx
  obtain ⟨z, hz, rfl⟩ := List.mem_map.1 hx
  have hzL := h.sub z hz
  obtain ⟨s, hs⟩ := begsL_iff.1 (h.closed.begs z hzL)
  obtain ⟨s', hs', -⟩ := h.laid.iso.at_ z hzL s hs
  exact begsL_iff.2 ⟨s', hs'⟩
theorem Cleaned.form {a f p L Y b now : List Int} (h : Cleaned a f p L Y b now) {os os' : List Ob} {fr fr' : List Int} (h1 : FormIs a (f ++ p) os fr) (h2 : FormIs b (now ++ p) os' fr') : os = os' ∧ fr = fr' := by
  rw [h.map] at h2
  exact form_iso h.laid.iso h.closed h.sub h1 h2
theorem words_wf {a : List Int} (h : ∀ x ∈ a, 0 ≤ x ∧ x < 18446744073709551616) : ∀ x ∈ a, (Lit.int .u64 x).wf = true := fun x hx => by
  obtain ⟨h1, h2⟩ := h x hx
  simp [Lit.wf, IntKind.min, IntKind.max, IntKind.signed, IntKind.bits]
  omega
theorem wf_words {a : List Int} (h : ∀ x ∈ a, (Lit.int .u64 x).wf = true) : ∀ x ∈ a, 0 ≤ x ∧ x < 18446744073709551616 := fun x hx => by
  have := h x hx
  simp [Lit.wf, IntKind.min, IntKind.max, IntKind.signed, IntKind.bits] at this
  omega
theorem laid_wf {a keep Y : List Int} {N : Nat} (ha : ∀ x ∈ a, (Lit.int .u64 x).wf = true) (hR : RowsOk N 0 (rowsOf a keep Y)) (hN : N ≤ 256) (hY : ∀ y ∈ Y, y ≤ 256) (hn : keep.Nodup) (hl : Y.length = keep.length) (hC : ClosedL a keep) (hY0 : ∀ y ∈ Y, 0 ≤ y) :
    ∀ x ∈ chunksW (laidC N 0 (rowsOf a keep Y)), (Lit.int .u64 x).wf = true := by
  refine words_wf (fun x hx => ?_)
  obtain ⟨c, hc, hxc⟩ := List.mem_flatMap.1 hx
  have hcok := laidC_ok hR hN c hc
  obtain ⟨w1, w2, w3, w4, w5, w6, w7⟩ := rdw_word c.r c.b c.t c.f hcok.1
  rcases List.mem_cons.1 hxc with rfl | hxp
  · exact ⟨w6, w7⟩
  · rcases laidC_mem hR c hc with ⟨q, -, -, rfl⟩ | ⟨y, hy⟩
    · have := List.eq_of_mem_replicate hxp
      omega
    · obtain ⟨j, hj⟩ := List.mem_iff_getElem?.1 hy
      have hjl : j < keep.length := by have := (List.getElem?_eq_some_iff.1 hj).1; rw [rowsOf_length hl] at this; exact this
      have := rowsOf_at (a := a) (List.getElem?_eq_getElem hjl) (List.getElem?_eq_getElem (l := Y) (i := j) (by omega))
      rw [hj] at this
      simp only [Option.some.injEq, Prod.mk.injEq] at this
      obtain ⟨-, rfl⟩ := this
      obtain ⟨s, hs⟩ := begsL_iff.1 (hC.begs _ (List.getElem_mem hjl))
      rw [rowAt_some hs] at hxp
      rcases List.mem_append.1 hxp with h | h
      · obtain ⟨v, hv, rfl⟩ := List.mem_map.1 h
        unfold refT
        by_cases h0 : v = 0
        · rw [if_pos h0]; omega
        · rw [if_neg h0]
          have hk := Iso.link_of hC (List.getElem_mem hjl) hs v hv h0
          obtain ⟨i, u, -, hu, e⟩ := posL_ex hn hl hk
          have h1 := hY u (List.mem_of_getElem? hu)
          have h2 := hY0 u (List.mem_of_getElem? hu)
          rw [e]
          omega
      · unfold bodyOf at h
        exact wf_words ha x (List.mem_of_mem_drop (List.mem_of_mem_take h))
theorem Cleaned.wf {a f p L Y b now : List Int} (h : Cleaned a f p L Y b now) (hI : CleanIs a f p L Y b now) (ha : ∀ x ∈ a, (Lit.int .u64 x).wf = true) : (∀ x ∈ b, (Lit.int .u64 x).wf = true) ∧ ∀ x ∈ now, (Lit.int .i64 x).wf = true := by
  have hN := h.len256
  have hYb : ∀ y ∈ Y, 0 ≤ y ∧ y ≤ 256 := fun y hy => by
    obtain ⟨j, hj⟩ := List.mem_iff_getElem?.1 hy
    have hjl : j < L.length := by rw [← h.plan.len]; exact (List.getElem?_eq_some_iff.1 hj).1
    obtain ⟨s, i, -, -, -, e4, e5, -, e7, -⟩ := h.plan.at_ j _ y (List.getElem?_eq_getElem hjl) hj
    have := e4.r0
    have := e4.b0
    unfold Spot.long at e5
    omega
  constructor
  · obtain ⟨-, -, -, -, rfl, rfl, -⟩ := hI
    exact laid_wf ha h.plan.rows hN (fun y hy => (hYb y hy).2) h.plan.nodup h.plan.len h.closed h.plan.nn
  · obtain ⟨-, -, -, -, -, -, rfl⟩ := hI
    intro x hx
    obtain ⟨z, hz, rfl⟩ := List.mem_map.1 hx
    obtain ⟨i, u, -, hu, e⟩ := posL_ex h.plan.nodup h.plan.len (h.sub z (List.mem_append_left _ hz))
    have := hYb u (List.mem_of_getElem? hu)
    rw [e]
    simp [Lit.wf, IntKind.min, IntKind.max, IntKind.signed, IntKind.bits]
    omega
theorem slides_ok : CleanOk [1, 1] [0] [] := by
  refine ⟨by decide, ?_, by decide⟩
  decide
set_option maxHeartbeats 1000000 in
theorem slides_true (w : World) : Calls Try.prog 23 #[] w fun e w' => e = .returned (.bool true) ∧ Below w.heap.size w w' := by
  have hn1 := reads_new w [.int .u64 1, .int .u64 1] 37 2 1 rfl
  have hb1 := below_new w (.cells #[.int .u64 1, .int .u64 1] 37)
  have hn2 := reads_new (w.alloc (.cells #[.int .u64 1, .int .u64 1] 37)) [.int .i64 0] 3 1 1 rfl
  have hb2 := below_new (w.alloc (.cells #[.int .u64 1, .int .u64 1] 37)) (.cells #[.int .i64 0] 3)
  have hn3 := (hn1.below (hb2.mono (by simp))).more (show w.heap.size + 1 ≤ ((w.alloc (.cells #[.int .u64 1, .int .u64 1] 37)).alloc (.cells #[.int .i64 0] 3)).heap.size by simp)
  simp only [World.size_alloc] at hn2
  have H := Lib.hid (fun A A2 w hr hr2 => clean_any A 2 2 [1, 1] A2 1 1 [0] none 0 0 [] w hr (by decide) (by decide) (by decide) hr2 (by decide) (by decide) Reads.none_ (by decide) (by decide))
  have HS := Lib.hid (fun w : World => (show Calls Try.prog 45 #[] w fun e w' => e = .returned (.slice (some ⟨w.heap.size, 0, none⟩) 2 2) ∧ w' = w.alloc (.cells #[.int .u64 1, .int .u64 1] 37) by
    go_enter Try.func45, Try.ntmps45
    go_wp2
    go_ret
    exact ⟨rfl, rfl⟩))
  clear hn1
  go_enter Try.func23, Try.ntmps23
  go_wp2_with fail
  refine (HS.out _).mono ?_
  rintro e w1 ⟨rfl, rfl⟩
  go_wp2_with fail
  refine (H.out _ _ _ (by simpa using hn3) (by simpa using hn2)).mono ?_
  rintro e w2 ⟨hb3, ⟨-, L, Y, b, now, A1, c1, A4, c4, -, rfl, -⟩ | ⟨hno, -⟩⟩
  · have hb4 := below_step (below_step hb1 hb2) hb3
    go_wp2
    go_ret
    exact ⟨by first | rfl | simp, hb4⟩
  · exact absurd slides_ok hno
end Go.Proofs.Ytbmkbnalembbjaa
