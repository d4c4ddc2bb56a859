/-
  Plain law: the gaps of a halved room: all words once; no two gaps are the halves of one piece. No program stands here.
-/
import Derived.Test.YtdlmnnibgpfdbabTwinDefs
import Derived.Test.YtdlmnnibgpfdbabRunsLaw
namespace Go.Proofs.Ytdlmnnibgpfdbab
open Go.RowKit

theorem pow_pos2 (k : Nat) : 0 < 2 ^ k := Nat.pos_of_ne_zero (by simp)

/-- Gaps in order, aligned, from lo on, up to hi. -/
def Gs (hi : Nat) : Nat → List Rn → Prop
  | _, [] => True
  | lo, g :: t => ∃ x j : Nat, g = ⟨x, ((2 ^ j : Nat) : Int)⟩ ∧ lo ≤ x ∧ x + 2 ^ j ≤ hi ∧ x % 2 ^ j = 0 ∧ Gs hi (x + 2 ^ j) t
theorem Gs.weak {hi : Nat} : ∀ {l : List Rn} {lo lo' : Nat}, Gs hi lo l → lo' ≤ lo → Gs hi lo' l
  | [], _, _, _, _ => trivial
  | _ :: _, _, _, ⟨x, j, h1, h2, h3⟩, h => ⟨x, j, h1, by omega, h3⟩
theorem Gs.wide {hi hi' : Nat} : ∀ {l : List Rn} {lo : Nat}, Gs hi lo l → hi ≤ hi' → Gs hi' lo l
  | [], _, _, _ => trivial
  | _ :: _, _, ⟨x, j, h1, h2, h3, h4, h5⟩, h => ⟨x, j, h1, h2, by omega, h4, h5.wide h⟩
theorem Gs.app {mid hi : Nat} : ∀ {l m : List Rn} {lo : Nat}, Gs mid lo l → lo ≤ mid → Gs hi mid m → mid ≤ hi → Gs hi lo (l ++ m)
  | [], _, _, _, hl, hm, _ => hm.weak hl
  | _ :: _, _, _, ⟨x, j, h1, h2, h3, h4, h5⟩, hl, hm, hh => ⟨x, j, h1, h2, by omega, h4, h5.app h3 hm hh⟩
theorem Gs.mem {hi : Nat} : ∀ {l : List Rn} {lo : Nat}, Gs hi lo l → ∀ g ∈ l, ∃ x j : Nat, g = ⟨x, ((2 ^ j : Nat) : Int)⟩ ∧ lo ≤ x ∧ x + 2 ^ j ≤ hi ∧ x % 2 ^ j = 0
  | [], _, _, _, h => by simp at h
  | y :: t, lo, ⟨x, j, h1, h2, h3, h4, h5⟩, g, h => by
    rcases List.mem_cons.1 h with rfl | h
    · exact ⟨x, j, h1, h2, h3, h4⟩
    · obtain ⟨x', j', q1, q2, q3⟩ := h5.mem g h
      have := pow_pos2 j
      exact ⟨x', j', q1, by omega, q3⟩
theorem Gs.next {hi : Nat} : ∀ {l : List Rn} {lo : Nat}, Gs hi lo l → ∀ (i : Nat) (g g' : Rn), l[i]? = some g → l[i + 1]? = some g' → g.loc + g.len ≤ g'.loc
  | [], _, _, i, g, g', h, _ => by simp at h
  | y :: t, lo, ⟨x, j, h1, h2, h3, h4, h5⟩, i, g, g', hg, hg' => by
    cases i with
    | zero =>
      simp only [List.getElem?_cons_zero, Option.some.injEq] at hg
      simp only [List.getElem?_cons_succ] at hg'
      obtain ⟨x', j', q1, q2, -⟩ := h5.mem g' (List.mem_of_getElem? hg')
      subst hg
      subst q1
      rw [h1]
      dsimp only
      omega
    | succ i =>
      simp only [List.getElem?_cons_succ] at hg hg'
      exact h5.next i g g' hg hg'

theorem tgaps_gs (l : List Rm) : ∀ (k a : Nat), a % 2 ^ k = 0 → Gs (a + 2 ^ k) a (tgapsL l k a) := by
  intro k
  induction k with
  | zero =>
    intro a ha
    unfold tgapsL
    split
    · trivial
    · exact ⟨a, 0, rfl, Nat.le_refl _, Nat.le_refl _, ha, trivial⟩
  | succ k ih =>
    intro a ha
    unfold tgapsL
    have hp : 2 ^ (k + 1) = 2 ^ k + 2 ^ k := by omega
    have h0 : a % 2 ^ k = 0 := by
      have : 2 ^ k ∣ a := Nat.dvd_trans ⟨2, by omega⟩ (Nat.dvd_of_mod_eq_zero ha)
      exact Nat.mod_eq_zero_of_dvd this
    split
    · have h1 := ih a h0
      have h2 := ih (a + 2 ^ k) (by rw [Nat.add_mod_right]; exact h0)
      refine h1.app (by omega) (h2.wide (by omega)) (by omega)
    · exact ⟨a, k + 1, rfl, Nat.le_refl _, Nat.le_refl _, ha, trivial⟩

/-- No gap is met; and unless it is the whole, the piece of which it is a half is met. -/
theorem tgaps_parent (l : List Rm) : ∀ (k a : Nat), a % 2 ^ k = 0 →
    (tgapsL l k a = [⟨a, ((2 ^ k : Nat) : Int)⟩] ∧ l.any (meetsB a (2 ^ k)) = false) ∨
    (∀ g ∈ tgapsL l k a, ∃ x j : Nat, g = ⟨x, ((2 ^ j : Nat) : Int)⟩ ∧ l.any (meetsB x (2 ^ j)) = false ∧ l.any (meetsB (x - x % 2 ^ (j + 1)) (2 ^ (j + 1))) = true) := by
  intro k
  induction k with
  | zero =>
    intro a ha
    unfold tgapsL
    split
    · exact .inr (fun g hg => by simp at hg)
    · rename_i h
      exact .inl ⟨rfl, by simpa using h⟩
  | succ k ih =>
    intro a ha
    unfold tgapsL
    have hp : 2 ^ (k + 1) = 2 ^ k + 2 ^ k := by omega
    have hpp := pow_pos2 k
    have h0 : a % 2 ^ k = 0 := by
      have : 2 ^ k ∣ a := Nat.dvd_trans ⟨2, by omega⟩ (Nat.dvd_of_mod_eq_zero ha)
      exact Nat.mod_eq_zero_of_dvd this
    have hpa : a - a % 2 ^ (k + 1) = a := by omega
    have hpb : a + 2 ^ k - (a + 2 ^ k) % 2 ^ (k + 1) = a := by
      have : (a + 2 ^ k) % 2 ^ (k + 1) = 2 ^ k := by
        rw [Nat.add_mod, ha, Nat.zero_add, Nat.mod_mod, Nat.mod_eq_of_lt (by omega)]
      omega
    split
    · rename_i hm
      refine .inr (fun g hg => ?_)
      rcases List.mem_append.1 hg with hg | hg
      · rcases ih a h0 with ⟨h1, h2⟩ | h1
        · rw [h1] at hg
          obtain rfl := List.mem_singleton.1 hg
          exact ⟨a, k, rfl, h2, by rw [hpa]; exact hm⟩
        · exact h1 g hg
      · rcases ih (a + 2 ^ k) (by rw [Nat.add_mod_right]; exact h0) with ⟨h1, h2⟩ | h1
        · rw [h1] at hg
          obtain rfl := List.mem_singleton.1 hg
          exact ⟨a + 2 ^ k, k, rfl, h2, by rw [hpb]; exact hm⟩
        · exact h1 g hg
    · rename_i h
      exact .inl ⟨rfl, by simpa using h⟩

theorem any_false_of {α : Type} {p : α → Bool} {l : List α} (h : l.any p = false) : ∀ r ∈ l, p r = false := by
  intro r hr
  cases hp : p r
  · rfl
  · rw [List.any_eq_true.2 ⟨r, hr, hp⟩] at h; cases h

/-- No two gaps that stand side by side are the halves of one piece. -/
theorem tgaps_apart {l : List Rm} (hl : ∀ r ∈ l, 0 < r.len) {k : Nat} {i : Nat} {g g' : Rn} (hg : (tgapsL l k 0)[i]? = some g) (hg' : (tgapsL l k 0)[i + 1]? = some g')
    (e1 : g.len = g'.len) (e2 : g.loc + g'.len = g'.loc) (e3 : g.loc % (2 * g'.len) = 0) : False := by
  rcases tgaps_parent l k 0 (Nat.zero_mod _) with ⟨h1, -⟩ | h1
  · rw [h1] at hg'
    simp at hg'
  · obtain ⟨x, j, rfl, n1, m1⟩ := h1 g (List.mem_of_getElem? hg)
    obtain ⟨x', j', rfl, n2, -⟩ := h1 g' (List.mem_of_getElem? hg')
    dsimp only at e1 e2 e3
    have ej : 2 ^ j = 2 ^ j' := by exact_mod_cast e1
    rw [← ej] at n2 e2 e3
    have hp : 2 ^ (j + 1) = 2 ^ j + 2 ^ j := by omega
    have hx : x' = x + 2 ^ j := by omega
    have hm : x % 2 ^ (j + 1) = 0 := by
      have : (x : Int) % ((2 ^ (j + 1) : Nat) : Int) = 0 := by
        rw [show ((2 ^ (j + 1) : Nat) : Int) = 2 * ((2 ^ j : Nat) : Int) by omega]
        exact e3
      exact_mod_cast this
    rw [hm, Nat.sub_zero] at m1
    obtain ⟨r, hr, hmr⟩ := List.any_eq_true.1 m1
    have q1 := any_false_of n1 r hr
    have q2 := any_false_of n2 r hr
    have q3 := hl r hr
    subst hx
    unfold meetsB at hmr q1 q2
    simp only [Bool.and_eq_true, decide_eq_true_eq, Bool.and_eq_false_iff, decide_eq_false_iff_not] at hmr q1 q2
    omega

def covB (x : Nat) (r : Rm) : Bool := decide (r.loc ≤ (x : Int)) && decide ((x : Int) < r.loc + r.len)
/-- How many words of a stretch nothing covers. -/
def unc (l : List Rm) (a : Nat) : Nat → Nat
  | 0 => 0
  | n + 1 => unc l a n + (if l.any (covB (a + n)) = true then 0 else 1)
theorem unc_add (l : List Rm) (a m : Nat) : ∀ n, unc l a (m + n) = unc l a m + unc l (a + m) n
  | 0 => rfl
  | n + 1 => by
    rw [show m + (n + 1) = (m + n) + 1 by omega, unc, unc_add l a m n, unc, show a + (m + n) = a + m + n by omega]
    omega
theorem unc_all {l : List Rm} {a : Nat} : ∀ {n : Nat}, (∀ x, a ≤ x → x < a + n → l.any (covB x) = false) → unc l a n = n
  | 0, _ => rfl
  | n + 1, h => by
    rw [unc, unc_all (fun x h1 h2 => h x h1 (by omega)), h (a + n) (by omega) (by omega)]
    simp
theorem unc_none {l : List Rm} {a : Nat} : ∀ {n : Nat}, (∀ x, a ≤ x → x < a + n → l.any (covB x) = true) → unc l a n = 0
  | 0, _ => rfl
  | n + 1, h => by
    rw [unc, unc_none (fun x h1 h2 => h x h1 (by omega)), h (a + n) (by omega) (by omega)]
    simp
theorem unc_eq {l m : List Rm} {a : Nat} : ∀ {n : Nat}, (∀ x, a ≤ x → x < a + n → l.any (covB x) = m.any (covB x)) → unc l a n = unc m a n
  | 0, _ => rfl
  | n + 1, h => by
    rw [unc, unc, unc_eq (fun x h1 h2 => h x h1 (by omega)), h (a + n) (by omega) (by omega)]
theorem not_cov {l : List Rm} {a L : Nat} (h : l.any (meetsB a L) = false) : ∀ x, a ≤ x → x < a + L → l.any (covB x) = false := by
  intro x h1 h2
  rw [List.any_eq_false]
  intro r hr
  have := any_false_of h r hr
  unfold meetsB at this
  unfold covB
  simp only [Bool.and_eq_true, decide_eq_true_eq, Bool.and_eq_false_iff, decide_eq_false_iff_not] at *
  omega
theorem tgaps_sum (l : List Rm) : ∀ (k a : Nat), lsum (tgapsL l k a) = (unc l a (2 ^ k) : Int) := by
  intro k
  induction k with
  | zero =>
    intro a
    unfold tgapsL
    split
    · rename_i h
      have : unc l a 1 = 0 := unc_none (fun x h1 h2 => by
        obtain rfl : x = a := by omega
        obtain ⟨r, hr, hm⟩ := List.any_eq_true.1 h
        refine List.any_eq_true.2 ⟨r, hr, ?_⟩
        unfold meetsB at hm
        unfold covB
        simp only [Bool.and_eq_true, decide_eq_true_eq] at *
        omega)
      rw [show 2 ^ 0 = 1 from rfl, this]
      rfl
    · rename_i h
      rw [show 2 ^ 0 = 1 from rfl, unc_all (not_cov (by simpa using h))]
      rfl
  | succ k ih =>
    intro a
    unfold tgapsL
    have hp : 2 ^ (k + 1) = 2 ^ k + 2 ^ k := by omega
    split
    · rw [lsum_append, ih, ih, hp, unc_add]
      omega
    · rename_i h
      rw [unc_all (not_cov (by simpa using h))]
      simp [lsum]

def roomSum : List Rm → Int
  | [] => 0
  | r :: t => r.len + roomSum t
theorem roomSum_take {l : List Rm} {j : Nat} {r : Rm} (hj : l[j]? = some r) : roomSum (l.take (j + 1)) = roomSum (l.take j) + r.len := by
  induction l generalizing j with
  | nil => simp at hj
  | cons x t ih =>
    cases j with
    | zero => simp only [List.getElem?_cons_zero, Option.some.injEq] at hj; subst hj; simp [roomSum]
    | succ j =>
      simp only [List.getElem?_cons_succ] at hj
      simp only [List.take_succ_cons, roomSum]
      rw [ih hj]
      omega
theorem Chain.sum {o : Nat} : ∀ {l : List Rm} {e : Nat}, Chain o e l → e ≤ 2 ^ o → roomSum l + (unc l e (2 ^ o - e) : Int) = ((2 ^ o - e : Nat) : Int)
  | [], e, _, _ => by
    rw [unc_all (fun _ _ _ => rfl)]
    simp [roomSum]
  | r :: t, e, hc, he => by
    obtain ⟨k, a, u, h1, rfl, h2, h3, h4, h5, h6, h7⟩ := hc
    have ih := h7.sum h2
    have hp := pow_pos2 k
    have hmt := h7.mem
    have e1 : 2 ^ o - e = (a - e) + (2 ^ k + (2 ^ o - (a + 2 ^ k))) := by omega
    have u1 : unc (⟨a, ((2 ^ k : Nat) : Int), u⟩ :: t) e (a - e) = a - e := unc_all (fun x q1 q2 => by
      rw [List.any_eq_false]
      intro r hr
      unfold covB
      simp only [Bool.and_eq_true, decide_eq_true_eq]
      rcases List.mem_cons.1 hr with rfl | hr
      · dsimp only; omega
      · obtain ⟨k', a', u', z1, rfl, z2, z3, z4, z5, z6⟩ := hmt r hr
        dsimp only; omega)
    have u2 : unc (⟨a, ((2 ^ k : Nat) : Int), u⟩ :: t) a (2 ^ k) = 0 := unc_none (fun x q1 q2 => by
      refine List.any_eq_true.2 ⟨_, List.mem_cons_self, ?_⟩
      unfold covB
      simp only [Bool.and_eq_true, decide_eq_true_eq]
      omega)
    have u3 : unc (⟨a, ((2 ^ k : Nat) : Int), u⟩ :: t) (a + 2 ^ k) (2 ^ o - (a + 2 ^ k)) = unc t (a + 2 ^ k) (2 ^ o - (a + 2 ^ k)) := unc_eq (fun x q1 q2 => by
      rw [List.any_cons]
      have : covB x ⟨a, ((2 ^ k : Nat) : Int), u⟩ = false := by
        unfold covB
        simp only [Bool.and_eq_false_iff, decide_eq_false_iff_not]
        omega
      rw [this, Bool.false_or])
    rw [e1, unc_add, u1, show e + (a - e) = a by omega, unc_add, u2, u3]
    simp only [roomSum]
    omega
theorem Chain.waste {o : Nat} : ∀ {l : List Rm} {e : Nat}, Chain o e l → ∀ r ∈ l, 0 < r.len ∧ 0 ≤ r.len - r.used ∧ 2 * (r.len - r.used) < r.len := by
  intro l e hc r hr
  obtain ⟨k, a, u, h1, rfl, h2, h3, h4, h5, h6⟩ := hc.mem r hr
  have := pow_pos2 k
  dsimp only
  omega
end Go.Proofs.Ytdlmnnibgpfdbab
