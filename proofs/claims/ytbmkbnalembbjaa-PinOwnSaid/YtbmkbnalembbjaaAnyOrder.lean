/-
  A region that draws its order, by an invariant over which of its operations are done. No program stands here.
-/
import Derived.Test.YtbmkbnalembbjaaBase
import Derived.Orders
namespace Go.Proofs.Ytbmkbnalembbjaa
open Go.RowKit

theorem count_set (l : List Bool) (i : Nat) (h : l[i]? = some false) : (l.set i true).count false + 1 = l.count false := by
  induction l generalizing i with
  | nil => simp at h
  | cons b t ih =>
    cases i with
    | zero =>
      simp only [List.getElem?_cons_zero, Option.some.injEq] at h
      subst h
      simp [List.count_cons]
    | succ i =>
      simp only [List.getElem?_cons_succ] at h
      have := ih i h
      simp only [List.set_cons_succ, List.count_cons]
      omega
theorem wpAny_inv {P : Program} {md : Region.Mode} {ops : Array Oper} {Q : Exit → Act → World → Prop} (I : Array Bool → Act → World → Prop)
    (hend : ∀ listed a w, I listed a w → Region.ready md ops listed = [] → Q .normal a w)
    (hstep : ∀ listed a w i, I listed a w → i ∈ Region.ready md ops listed → wpOp P ops Q i (I (listed.setIfInBounds i true)) a w) :
    ∀ (fuel : Nat) (listed : Array Bool) (a : Act) (w : World), I listed a w → listed.toList.count false ≤ fuel → wpAny P md ops Q fuel listed a w := by
  intro fuel
  induction fuel with
  | zero =>
    intro listed a w h hc
    have hr : Region.ready md ops listed = [] := by
      cases hr : Region.ready md ops listed with
      | nil => rfl
      | cons i t =>
        have hi := (mem_ready.1 (show i ∈ Region.ready md ops listed by rw [hr]; simp)).1
        have h1 : listed.toList[i]? = some false := by
          rcases Nat.lt_or_ge i listed.size with h' | h'
          · simp [h'] at hi ⊢; exact hi
          · simp [Array.getElem?_eq_none h'] at hi
        have := count_set _ _ h1
        omega
    exact ⟨hr, hend _ _ _ h hr⟩
  | succ fuel ih =>
    intro listed a w h hc
    refine ⟨fun hr => hend _ _ _ h hr, fun i hi => ?_⟩
    refine wpOp_mono (fun a' w' h' => ih _ _ _ h' ?_) (hstep _ _ _ _ h hi)
    have hi2 := (mem_ready.1 hi).1
    have h1 : listed.toList[i]? = some false := by
      rcases Nat.lt_or_ge i listed.size with h' | h'
      · simp [h'] at hi2 ⊢; exact hi2
      · simp [Array.getElem?_eq_none h'] at hi2
    have := count_set _ _ h1
    rw [Array.toList_setIfInBounds]
    omega
theorem wpAny_inv2 {P : Program} {md : Region.Mode} {ops : Array Oper} {Q : Exit → Act → World → Prop} (I : Act → Array Bool → Act → World → Prop) (a0 : Act) (fuel : Nat) (listed : Array Bool) (w : World)
    (hend : ∀ listed a w, I a0 listed a w → Region.ready md ops listed = [] → Q .normal a w)
    (hstep : ∀ listed a w i, I a0 listed a w → i ∈ Region.ready md ops listed → wpOp P ops Q i (I a0 (listed.setIfInBounds i true)) a w)
    (h : I a0 listed a0 w) (hc : listed.toList.count false ≤ fuel) : wpAny P md ops Q fuel listed a0 w := wpAny_inv (I a0) hend hstep fuel listed a0 w h hc
/-- A slot is given what it holds. -/
theorem put_self (s : Act) (d : Nat) : s.put (some d) (s.tmps.getD d undef) = s := by
  unfold Act.put
  dsimp only
  have h : s.tmps.setIfInBounds d (s.tmps.getD d undef) = s.tmps := by
    apply Array.ext_getElem?
    intro i
    by_cases hi : i = d
    · subst hi
      rcases Nat.lt_or_ge i s.tmps.size with h' | h'
      · simp [h']
      · simp [h']
    · rw [Array.getElem?_setIfInBounds_ne (Ne.symm hi)]
  rw [h]
/-- One operation alone, as a list. -/
def onto (K : Act → World → Prop) (Q : Exit → Act → World → Prop) : Exit → Act → World → Prop
  | .normal, a, w => K a w
  | e, a, w => Q e a w
theorem wpOp_list {P : Program} {ops : Array Oper} {Q : Exit → Act → World → Prop} {K : Act → World → Prop} {i : Nat} {a : Act} {w : World} {o : Oper} (hi : ops[i]? = some o) (h : wpList P ops (onto K Q) [o] a w) : wpOp P ops Q i K a w := by
  unfold wpOp
  rw [hi]
  unfold wpList at h
  dsimp only
  split
  · rename_i hw
    rw [if_pos hw] at h
    rcases h with h | h
    · left
      unfold Oper.wp at *
      generalize (execOp a.eval o).run P w = r at *
      cases r with
      | ok n w' => cases n <;> exact h
      | halt x w' => cases x <;> exact h
    · exact .inr h
  · rename_i hw
    rw [if_neg hw] at h
    exact h
/-- Which operations are done. -/
def Dn (l : Array Bool) (j : Nat) : Prop := l.getD j false = true
theorem Dn.set {l : Array Bool} {i j : Nat} (hi : i < l.size) : Dn (l.setIfInBounds i true) j ↔ j = i ∨ Dn l j := by
  unfold Dn
  by_cases h : j = i
  · subst h
    simp [hi]
  · simp only [h, false_or]
    rw [getD_set_ne false (Ne.symm h)]
theorem Dn.none {n j : Nat} : ¬ Dn (Array.replicate n false) j := by
  unfold Dn
  simp only [Array.getD_eq_getD_getElem?, Array.getElem?_replicate]
  split <;> simp
theorem Dn.of_ready {md : Region.Mode} {ops : Array Oper} {l : Array Bool} {i : Nat} (h : i ∈ Region.ready md ops l) (hs : l.size = ops.size) : i < l.size ∧ ¬ Dn l i ∧ ∃ o, ops[i]? = some o ∧ ∀ e ∈ o.after, Region.binds md e = true → Dn l e.on := by
  obtain ⟨h1, o, ho, h2⟩ := mem_ready.1 h
  have hl : i < l.size := by rw [hs]; exact (Array.getElem?_eq_some_iff.1 ho).1
  refine ⟨hl, ?_, o, ho, fun e he hb => h2 e he hb⟩
  unfold Dn
  simp [hl] at h1 ⊢
  exact h1
/-- Whatever an operation that is done waits for, is done. -/
def Closed (md : Region.Mode) (ops : Array Oper) (l : Array Bool) : Prop := ∀ i o, ops[i]? = some o → Dn l i → ∀ e ∈ o.after, Region.binds md e = true → Dn l e.on
theorem wpAny_inv3 {P : Program} {md : Region.Mode} {ops : Array Oper} {Q : Exit → Act → World → Prop} (I : Act → Array Bool → Act → World → Prop) (a0 : Act) (w : World)
    (hend : ∀ l a w, I a0 l a w → l.size = ops.size → Region.ready md ops l = [] → Q .normal a w)
    (hstep : ∀ l a w i o, I a0 l a w → Closed md ops l → i < l.size → ¬ Dn l i → ops[i]? = some o → (∀ e ∈ o.after, Region.binds md e = true → Dn l e.on) → wpOp P ops Q i (I a0 (l.setIfInBounds i true)) a w)
    (h : I a0 (Array.replicate ops.size false) a0 w) : wpAny P md ops Q ops.size (Array.replicate ops.size false) a0 w := by
  refine wpAny_inv2 (I := fun a0 l a w => I a0 l a w ∧ Closed md ops l ∧ l.size = ops.size) a0 _ _ w ?_ ?_ ⟨h, fun i o _ hd => absurd hd Dn.none, by simp⟩ ?_
  · intro l a w hI hr
    exact hend l a w hI.1 hI.2.2 hr
  · intro l a w i hI hi
    obtain ⟨h1, h2, o, h3, h4⟩ := Dn.of_ready hi hI.2.2
    refine wpOp_mono (fun a' w' h' => ⟨h', fun j oj hj hd e he hb => ?_, by rw [Array.size_setIfInBounds]; exact hI.2.2⟩) (hstep l a w i o hI.1 hI.2.1 h1 h2 h3 h4)
    rcases (Dn.set h1).1 hd with rfl | hd
    · obtain rfl := Option.some.inj (h3.symm.trans hj)
      exact (Dn.set h1).2 (.inr (h4 e he hb))
    · exact (Dn.set h1).2 (.inr (hI.2.1 j oj hj hd e he hb))
  · rw [Array.toList_replicate, List.count_replicate]
    simp
theorem pre_dn {md : Region.Mode} {ops : Array Oper} {l : Array Bool} {i : Nat} {o : Oper} (ho : ops[i]? = some o) (haf : ∀ e ∈ o.after, Region.binds md e = true → Dn l e.on) (j : Nat) (hx : (((ops[i]?).map fun o => o.after.toList.any fun e => e.on == j && Region.binds md e).getD false) = true) : Dn l j := by
  rw [ho] at hx
  simp only [Option.map_some, Option.getD_some] at hx
  obtain ⟨e, he, h⟩ := List.any_eq_true.1 hx
  simp only [Bool.and_eq_true, beq_iff_eq] at h
  have := haf e (Array.mem_toList_iff.1 he) h.2
  rwa [h.1] at this
theorem Closed.dn {md : Region.Mode} {ops : Array Oper} {l : Array Bool} {i : Nat} (h : Closed md ops l) (hd : Dn l i) (j : Nat) (hx : (((ops[i]?).map fun o => o.after.toList.any fun e => e.on == j && Region.binds md e).getD false) = true) : Dn l j := by
  cases ho : ops[i]? with
  | none =>
    rw [ho] at hx
    cases hx
  | some o => exact pre_dn ho (h i o ho hd) j hx
theorem onto_normal {K : Act → World → Prop} {Q : Exit → Act → World → Prop} {a : Act} {w : World} (h : K a w) : onto K Q .normal a w := h
end Go.Proofs.Ytbmkbnalembbjaa
