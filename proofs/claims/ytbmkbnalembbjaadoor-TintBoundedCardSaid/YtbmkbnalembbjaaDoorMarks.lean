/-
  Plain law: marks, one bit each. No program stands here.
-/
import Derived.Test.YtbmkbnalembbjaaDoorBase2
namespace Go.Proofs.YtbmkbnalembbjaaDoor
open Go.RowKit

def mk (m : List Int) (k : Nat) : Bool := (m.getD (k / 64) 0).toNat.testBit (k % 64)

/-- k is the next mark that is 'on', from a on; N: there is none. -/
def Nx (m : List Int) (N a : Nat) (on : Bool) (k : Nat) : Prop := a ≤ k ∧ k ≤ N ∧ (∀ j, a ≤ j → j < k → mk m j ≠ on) ∧ (k < N → mk m k = on)
theorem Nx.unique {m : List Int} {N a : Nat} {on : Bool} {k l : Nat} (h : Nx m N a on k) (h2 : Nx m N a on l) : k = l := by
  obtain ⟨a1, a2, a3, a4⟩ := h
  obtain ⟨b1, b2, b3, b4⟩ := h2
  rcases Nat.lt_trichotomy k l with h | h | h
  · exact absurd (a4 (by omega)) (b3 k a1 h)
  · exact h
  · exact absurd (b4 (by omega)) (a3 l b1 h)

theorem low_bit (x t : Nat) (hx : x < 2 ^ 64) (h1 : x % 2 ^ t = 0) (h2 : x / 2 ^ t % 2 = 1) : x &&& (2 ^ 64 - x) = 2 ^ t := by
  obtain ⟨q, hq⟩ : ∃ q, x / 2 ^ t = 2 * q + 1 := ⟨x / 2 ^ t / 2, by omega⟩
  have hx1 : x = 2 ^ (t + 1) * q + 2 ^ t := by
    have := Nat.div_add_mod x (2 ^ t)
    rw [h1, hq] at this
    rw [Nat.pow_succ]
    rw [← this, Nat.mul_add, Nat.mul_one, Nat.add_zero, Nat.mul_assoc]
  have hp : 0 < 2 ^ t := Nat.two_pow_pos t
  have hlt : 2 ^ t < 2 ^ (t + 1) := by rw [Nat.pow_succ]; omega
  obtain ⟨y, hy⟩ : ∃ y, y = x - 1 := ⟨_, rfl⟩
  have hy1 : y = 2 ^ (t + 1) * q + (2 ^ t - 1) := by omega
  have hy2 : 2 ^ 64 - x = 2 ^ 64 - (y + 1) := by omega
  rw [hy2]
  apply Nat.eq_of_testBit_eq
  intro i
  rw [Nat.testBit_and, Nat.testBit_two_pow_sub_succ (by omega), Nat.testBit_two_pow, hx1, Nat.testBit_two_pow_mul_add q hlt, hy1, Nat.testBit_two_pow_mul_add q (by omega)]
  by_cases hi : i < t + 1
  · rw [if_pos hi, if_pos hi, Nat.testBit_two_pow, Nat.testBit_two_pow_sub_one]
    have ht64 : t < 64 := by
      rcases Nat.lt_or_ge t 64 with h | h
      · exact h
      · have := Nat.pow_le_pow_right (n := 2) (by decide) h
        omega
    by_cases he : t = i
    · subst he; simp; omega
    · have : i < t := by omega
      simp [he]
  · rw [if_neg hi, if_neg hi]
    have he : t ≠ i := by omega
    rw [decide_eq_false he]
    cases q.testBit (i - (t + 1)) <;> simp

def dbTab : List Int := [0, 1, 56, 2, 57, 49, 28, 3, 61, 58, 42, 50, 38, 29, 17, 4, 62, 47, 59, 36, 45, 43, 51, 22, 53, 39, 33, 30, 24, 18, 12, 5, 63, 55, 48, 27, 60, 41, 37, 16, 46, 35, 44, 21, 52, 32, 23, 11, 54, 26, 40, 15, 34, 20, 31, 10, 25, 14, 19, 9, 13, 8, 7, 6]
theorem db_all : ∀ t : Nat, t < 64 → dbTab.getD (2 ^ t * 285870213051353865 % 18446744073709551616 / 288230376151711744) 0 = (t : Int) ∧ 2 ^ t * 285870213051353865 % 18446744073709551616 / 288230376151711744 < 64 := by decide

/-- The lowest bit that is set. -/
theorem tz_ex : ∀ (n x : Nat), x < 2 ^ n → 0 < x → ∃ t, t < n ∧ x % 2 ^ t = 0 ∧ x / 2 ^ t % 2 = 1 := by
  intro n
  induction n with
  | zero => intro x h1 h2; simp at h1; omega
  | succ n ih =>
    intro x h1 h2
    rcases Nat.mod_two_eq_zero_or_one x with h | h
    · obtain ⟨t, a1, a2, a3⟩ := ih (x / 2) (by rw [Nat.pow_succ] at h1; omega) (by omega)
      refine ⟨t + 1, by omega, ?_, ?_⟩
      · rw [Nat.pow_succ, Nat.mul_comm, Nat.mod_mul, h, a2]
      · rw [Nat.pow_succ, Nat.mul_comm, ← Nat.div_div_eq_div_mul]; exact a3
    · exact ⟨0, by omega, by simp [Nat.mod_one], by simpa using h⟩
theorem tz_bits {x t : Nat} (h1 : x % 2 ^ t = 0) (h2 : x / 2 ^ t % 2 = 1) : x.testBit t = true ∧ ∀ i, i < t → x.testBit i = false := by
  refine ⟨by rw [Nat.testBit_eq_decide_div_mod_eq, h2]; rfl, fun i hi => ?_⟩
  obtain ⟨q, rfl⟩ : ∃ q, x = 2 ^ t * q := ⟨x / 2 ^ t, by have := Nat.div_add_mod x (2 ^ t); omega⟩
  have := Nat.testBit_two_pow_mul_add q (Nat.two_pow_pos t) i
  rw [Nat.add_zero, if_pos hi] at this
  rw [this]
  simp
theorem pow_dvd_bound {x t s : Nat} (hx : x < 2 ^ 64 / 2 ^ s) (hs : s < 64) (h2 : x / 2 ^ t % 2 = 1) : s + t < 64 := by
  rcases Nat.lt_or_ge (s + t) 64 with h | h
  · exact h
  · have h3 : 2 ^ 64 / 2 ^ s = 2 ^ (64 - s) := Nat.pow_div (by omega) (by decide)
    rw [h3] at hx
    have h4 := Nat.pow_le_pow_right (n := 2) (by decide) (show 64 - s ≤ t by omega)
    rw [Nat.div_eq_of_lt (by omega)] at h2
    omega
end Go.Proofs.YtbmkbnalembbjaaDoor
