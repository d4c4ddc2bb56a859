/-
  Plain law: halves: a room is laid into the chain where it belongs, and taken out again. No program stands here.
-/
import Derived.Test.YtdlmnnibgpfdbabTwinLaw
import Derived.Test.YtdlmnnibgpfdbabSlices
namespace Go.Proofs.Ytdlmnnibgpfdbab
open Go.RowKit

/-- A piece that no room meets. -/
def FreeP (l : List Rm) (K : Nat) (x j : Nat) : Prop := j ≤ K ∧ x + 2 ^ j ≤ 2 ^ K ∧ x % 2 ^ j = 0 ∧ l.any (meetsB x (2 ^ j)) = false

theorem le_of_pow {j K : Nat} (h : 2 ^ j ≤ 2 ^ K) : j ≤ K := (Nat.pow_le_pow_iff_right (by decide)).1 h

theorem FreeP.of_gap {l : List Rm} {K : Nat} {g : Rn} (h : g ∈ tgapsL l K 0) : ∃ x j : Nat, g = ⟨x, ((2 ^ j : Nat) : Int)⟩ ∧ FreeP l K x j := by
  have hgs := tgaps_gs l K 0 (Nat.zero_mod _)
  rw [Nat.zero_add] at hgs
  obtain ⟨x, j, rfl, -, h2, h3⟩ := hgs.mem g h
  have hj : j ≤ K := le_of_pow (by omega)
  refine ⟨x, j, rfl, hj, h2, h3, ?_⟩
  rcases tgaps_parent l K 0 (Nat.zero_mod _) with ⟨h4, h5⟩ | h4
  · rw [h4] at h
    simp only [List.mem_cons, List.not_mem_nil, or_false, Rn.mk.injEq] at h
    obtain ⟨e1, e2⟩ := h
    obtain rfl : x = 0 := by omega
    have e3 : 2 ^ j = 2 ^ K := by exact_mod_cast e2
    rw [e3]
    exact h5
  · obtain ⟨x', j', e, h5, -⟩ := h4 _ h
    simp only [Rn.mk.injEq] at e
    obtain ⟨e1, e2⟩ := e
    obtain rfl : x = x' := by omega
    have e3 : 2 ^ j = 2 ^ j' := by exact_mod_cast e2
    rw [e3]
    exact h5

theorem FreeP.half {l : List Rm} {K x j : Nat} (h : FreeP l K x (j + 1)) : FreeP l K x j := by
  obtain ⟨h1, h2, h3, h4⟩ := h
  have hp := pow_pos2 j
  have hs : 2 ^ (j + 1) = 2 * 2 ^ j := by rw [Nat.pow_succ]; omega
  rw [hs] at h2 h3 h4
  refine ⟨by omega, by omega, Nat.mod_eq_zero_of_dvd (Nat.dvd_trans (Nat.dvd_mul_left _ 2) (Nat.dvd_of_mod_eq_zero h3)), ?_⟩
  rw [List.any_eq_false]
  intro r hr
  have := any_false_of h4 r hr
  unfold meetsB at this ⊢
  simp only [Bool.and_eq_false_iff, decide_eq_false_iff_not, Bool.and_eq_true, decide_eq_true_eq, not_and] at this ⊢
  generalize 2 ^ j = d at *
  omega

/-- Where a room is laid in: all before it lie lower, the next does not. -/
def AtIx (l : List Rm) (a i : Nat) : Prop := i ≤ l.length ∧ (∀ r ∈ l.take i, r.loc < (a : Int)) ∧ (∀ r, l[i]? = some r → (a : Int) ≤ r.loc)
def insRm (l : List Rm) (i : Nat) (r : Rm) : List Rm := l.take i ++ r :: l.drop i

theorem Chain.insert {o a j u : Nat} (hj : j ≤ o) (h1 : a + 2 ^ j ≤ 2 ^ o) (h2 : a % 2 ^ j = 0) (h3 : u ≤ 2 ^ j) (h4 : 2 ^ j / 2 < u) :
    ∀ {l : List Rm} {e i : Nat}, Chain o e l → e ≤ a → l.any (meetsB a (2 ^ j)) = false → AtIx l a i → Chain o e (insRm l i ⟨a, ((2 ^ j : Nat) : Int), u⟩) := by
  intro l
  induction l with
  | nil =>
    intro e i _ he _ hi
    obtain ⟨hi, -, -⟩ := hi
    obtain rfl : i = 0 := by simpa using hi
    exact ⟨j, a, u, hj, rfl, h1, h2, h3, h4, he, trivial⟩
  | cons r t ih =>
    intro e i hc he hm hi
    obtain ⟨k, b, v, q1, rfl, q2, q3, q4, q5, q6, q7⟩ := hc
    have hmr := any_false_of hm _ List.mem_cons_self
    have hmt : t.any (meetsB a (2 ^ j)) = false := by
      rw [List.any_cons, Bool.or_eq_false_iff] at hm
      exact hm.2
    unfold meetsB at hmr
    simp only [Bool.and_eq_false_iff, decide_eq_false_iff_not] at hmr
    have p1 := pow_pos2 j
    have p2 := pow_pos2 k
    cases i with
    | zero =>
      have h5 := hi.2.2 _ List.getElem?_cons_zero
      dsimp only at h5
      refine ⟨j, a, u, hj, rfl, h1, h2, h3, h4, he, k, b, v, q1, rfl, q2, q3, q4, q5, ?_, q7⟩
      generalize 2 ^ j = d at *
      generalize 2 ^ k = d' at *
      omega
    | succ i =>
      have h5 := hi.2.1 _ (by rw [List.take_succ_cons]; exact List.mem_cons_self)
      dsimp only at h5
      refine ⟨k, b, v, q1, rfl, q2, q3, q4, q5, q6, ih q7 ?_ hmt ⟨by have := hi.1; simp only [List.length_cons] at this; omega, fun r hr => hi.2.1 r (by rw [List.take_succ_cons]; exact List.mem_cons_of_mem _ hr), fun r hr => hi.2.2 r (by simpa using hr)⟩⟩
      generalize 2 ^ j = d at *
      generalize 2 ^ k = d' at *
      omega

theorem insRm_length {l : List Rm} {i : Nat} (h : i ≤ l.length) (r : Rm) : (insRm l i r).length = l.length + 1 := by
  unfold insRm
  simp only [List.length_append, List.length_cons, List.length_take, List.length_drop]
  omega
theorem insRm_del {l : List Rm} {i : Nat} (h : i ≤ l.length) (r : Rm) : (insRm l i r).take i ++ (insRm l i r).drop (i + 1) = l := by
  have e : (l.take i).length = i := by rw [List.length_take]; omega
  unfold insRm
  rw [List.take_append_of_le_length (by omega), List.take_of_length_le (by omega)]
  have : (l.take i ++ r :: l.drop i).drop (i + 1) = l.drop i := by
    rw [List.drop_append]
    rw [List.drop_of_length_le (by omega), e, show i + 1 - i = 1 by omega]
    rfl
  rw [this, List.take_append_drop]
theorem roomsC_take (l : List Rm) : ∀ i, (roomsC l).take (i * 3) = roomsC (l.take i) := by
  induction l with
  | nil => intro i; simp [roomsC]
  | cons r t ih =>
    intro i
    cases i with
    | zero => simp [roomsC]
    | succ i =>
      rw [show (i + 1) * 3 = i * 3 + 3 by omega, List.take_succ_cons]
      simp only [roomsC, List.flatMap_cons] at ih ⊢
      rw [List.take_append, show (roomC r).length = 3 from rfl, List.take_of_length_le (show (roomC r).length ≤ i * 3 + 3 by rw [show (roomC r).length = 3 from rfl]; omega), Nat.add_sub_cancel, ih]
theorem roomsC_drop (l : List Rm) : ∀ i, (roomsC l).drop (i * 3) = roomsC (l.drop i) := by
  induction l with
  | nil => intro i; simp [roomsC]
  | cons r t ih =>
    intro i
    cases i with
    | zero => simp [roomsC]
    | succ i =>
      rw [show (i + 1) * 3 = i * 3 + 3 by omega, List.drop_succ_cons]
      simp only [roomsC, List.flatMap_cons] at ih ⊢
      rw [List.drop_append, show (roomC r).length = 3 from rfl, List.drop_of_length_le (show (roomC r).length ≤ i * 3 + 3 by rw [show (roomC r).length = 3 from rfl]; omega), Nat.add_sub_cancel, ih]
      rfl
theorem roomsC_ins (l : List Rm) (i : Nat) (r : Rm) : (roomsC l).take (i * 3) ++ (roomC r ++ (roomsC l).drop (i * 3)) = roomsC (insRm l i r) := by
  rw [roomsC_take, roomsC_drop]
  unfold insRm roomsC
  rw [List.flatMap_append, List.flatMap_cons]
theorem roomsC_del (l : List Rm) (i : Nat) : (roomsC l).take (i * 3) ++ (roomsC l).drop ((i + 1) * 3) = roomsC (l.take i ++ l.drop (i + 1)) := by
  rw [roomsC_take, roomsC_drop]
  unfold roomsC
  rw [List.flatMap_append]

theorem ixOf_ins {l : List Rm} {a i : Nat} {r : Rm} (hr : r.loc = (a : Int)) (h : AtIx l a i) : ixOf (fun x => x.loc == (a : Int)) (insRm l i r) = (i : Int) := by
  have e : (l.take i).length = i := by rw [List.length_take]; have := h.1; omega
  have h1 : (insRm l i r)[i]? = some r := by
    unfold insRm
    rw [List.getElem?_append_right (by omega), e, Nat.sub_self]
    rfl
  have h2 : (insRm l i r).take i = l.take i := by
    unfold insRm
    rw [List.take_append_of_le_length (by omega), List.take_of_length_le (by omega)]
  refine ixOf_some h1 (by simpa using hr) ?_
  rw [h2]
  intro x hx
  have := h.2.1 x hx
  simp only [beq_eq_false_iff_ne]
  omega
end Go.Proofs.Ytdlmnnibgpfdbab
