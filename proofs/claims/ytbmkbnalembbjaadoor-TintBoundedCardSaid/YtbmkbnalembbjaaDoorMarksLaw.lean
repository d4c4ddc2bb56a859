/-
  Plain law: checks and counts of marks. No program stands here.
-/
import Derived.Test.YtbmkbnalembbjaaDoorMarks
namespace Go.Proofs.YtbmkbnalembbjaaDoor
open Go.RowKit

/-- Are marks set behind the last word that is there? -/
def lastOver (m : List Int) (N : Nat) : Bool := decide (N % 64 ≠ 0) && ((m.getD (m.length - 1) 0).toNat / 2 ^ (N % 64) != 0)
def mchkE (m : List Int) (n : Int) : Int := if n < 0 ∨ 256 < n then 4 else if (m.length : Int) ≠ (n + 63) / 64 then 3 else if lastOver m n.toNat = true then 3 else 0
def mstE (m : List Int) (n a l : Int) : Int := if mchkE m n ≠ 0 then mchkE m n else if l < 0 ∨ a < 0 ∨ n < a ∨ n - a < l then 4 else 0

theorem mchkE_ok {m : List Int} {n : Int} (h : mchkE m n = 0) : ∃ N : Nat, n = N ∧ N ≤ 256 ∧ m.length = (N + 63) / 64 ∧ lastOver m N = false := by
  unfold mchkE at h
  split at h
  · cases h
  · split at h
    · cases h
    · split at h
      · cases h
      · rename_i h1 h2 h3
        refine ⟨n.toNat, by omega, by omega, by omega, by simpa using h3⟩
theorem mstE_ok {m : List Int} {n a l : Int} (h : mstE m n a l = 0) : ∃ N A L : Nat, n = N ∧ a = A ∧ l = L ∧ N ≤ 256 ∧ m.length = (N + 63) / 64 ∧ lastOver m N = false ∧ A + L ≤ N ∧ mchkE m n = 0 := by
  unfold mstE at h
  split at h
  · rename_i h1; exact absurd h h1
  · rename_i h1
    have h1 : mchkE m n = 0 := by simpa using h1
    obtain ⟨N, h2, h3, h4, h5⟩ := mchkE_ok h1
    split at h
    · cases h
    · rename_i h6
      exact ⟨N, a.toNat, l.toNat, h2, by omega, by omega, h3, h4, h5, by omega, h1⟩
theorem mstE_of {m : List Int} {N A L : Nat} (h : mchkE m N = 0) (hl : A + L ≤ N) : mstE m N A L = 0 := by
  unfold mstE
  rw [if_neg (by simp [h]), if_neg (by omega)]
theorem mchkE_cases (m : List Int) (n : Int) : mchkE m n = 0 ∨ mchkE m n = 3 ∨ mchkE m n = 4 := by
  unfold mchkE
  split
  · exact .inr (.inr rfl)
  · split
    · exact .inr (.inl rfl)
    · split
      · exact .inr (.inl rfl)
      · exact .inl rfl

/-- How many of l marks from a on are set. -/
def cnt (m : List Int) (a : Nat) : Nat → Nat
  | 0 => 0
  | l + 1 => cnt m a l + (if mk m (a + l) = true then 1 else 0)
theorem cnt_add (m : List Int) (a i : Nat) : ∀ k, cnt m a (i + k) = cnt m a i + cnt m (a + i) k := by
  intro k
  induction k with
  | zero => simp [cnt]
  | succ k ih =>
    rw [← Nat.add_assoc]
    simp only [cnt]
    rw [ih, Nat.add_assoc a i k]
    omega
theorem cnt_le (m : List Int) (a : Nat) : ∀ l, cnt m a l ≤ l := by
  intro l
  induction l with
  | zero => simp [cnt]
  | succ l ih => simp only [cnt]; split <;> omega
theorem cnt_none (m : List Int) (a : Nat) : ∀ l, (∀ j, a ≤ j → j < a + l → mk m j ≠ true) → cnt m a l = 0 := by
  intro l
  induction l with
  | zero => intro _; rfl
  | succ l ih =>
    intro h
    simp only [cnt]
    rw [ih (fun j h1 h2 => h j h1 (by omega)), if_neg (h (a + l) (by omega) (by omega))]
theorem cnt_next {m : List Int} {a s k : Nat} (h1 : a ≤ s) (h2 : s ≤ k) (hn : ∀ j, s ≤ j → j < k → mk m j ≠ true) (hk : mk m k = true) : cnt m a (k + 1 - a) = cnt m a (s - a) + 1 := by
  have e1 : k + 1 - a = (s - a) + ((k - s) + 1) := by omega
  rw [e1, cnt_add, show a + (s - a) = s by omega, cnt_add, cnt_none m s (k - s) (fun j a1 a2 => hn j a1 (by omega)), show s + (k - s) = k by omega]
  simp only [cnt]
  rw [if_pos (by rw [Nat.add_zero]; exact hk)]
theorem cnt_stop {m : List Int} {a s t : Nat} (h1 : a ≤ s) (h2 : s ≤ t) (hn : ∀ j, s ≤ j → j < t → mk m j ≠ true) : cnt m a (t - a) = cnt m a (s - a) := by
  have e1 : t - a = (s - a) + (t - s) := by omega
  rw [e1, cnt_add, show a + (s - a) = s by omega, cnt_none m s (t - s) (fun j a1 a2 => hn j a1 (by omega)), Nat.add_zero]
end Go.Proofs.YtbmkbnalembbjaaDoor
