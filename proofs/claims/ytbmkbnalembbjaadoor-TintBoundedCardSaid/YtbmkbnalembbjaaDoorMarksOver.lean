/-
  Plain law: marks behind the last word.
-/
import Derived.Test.YtbmkbnalembbjaaDoorSpotFn2
namespace Go.Proofs.YtbmkbnalembbjaaDoor
open Go.RowKit

theorem lastOver_marks {m : List Int} {N : Nat} (hm : U64s m) (hl : m.length = (N + 63) / 64) : lastOver m N = false ↔ ∀ j, N ≤ j → j < 64 * m.length → mk m j = false := by
  unfold lastOver
  by_cases h : N % 64 = 0
  · rw [decide_eq_false (by omega)]
    refine ⟨fun _ j h1 h2 => by omega, fun _ => rfl⟩
  · rw [decide_eq_true h, Bool.true_and]
    obtain ⟨x, hx⟩ : ∃ x, m[m.length - 1]? = some x := ⟨_, List.getElem?_eq_getElem (by omega)⟩
    have hwf := hm x (List.mem_of_getElem? hx)
    have hx0 : 0 ≤ x ∧ x < 18446744073709551616 := by simp [Lit.wf, IntKind.min, IntKind.max, IntKind.signed, IntKind.bits] at hwf; omega
    obtain ⟨X, rfl⟩ : ∃ X : Nat, x = X := ⟨x.toNat, by omega⟩
    have hX : X < 2 ^ 64 := by omega
    have hg : (m.getD (m.length - 1) 0).toNat = X := by rw [List.getD_eq_getElem?_getD, hx]; rfl
    rw [hg]
    have hb : ∀ j, j / 64 = m.length - 1 → mk m j = X.testBit (j % 64) := fun j hj => mk_word (by rw [hj]; exact hx)
    constructor
    · intro h0 j h1 h2
      have hz : X / 2 ^ (N % 64) = 0 := by simpa using h0
      rw [hb j (by omega)]
      have h3 : (X / 2 ^ (N % 64)).testBit (j % 64 - N % 64) = X.testBit (j % 64) := by rw [Nat.testBit_div_two_pow]; congr 1; omega
      rw [← h3, hz, Nat.zero_testBit]
    · intro h0
      have hz : X / 2 ^ (N % 64) = 0 := by
        apply Nat.eq_of_testBit_eq
        intro i
        rw [Nat.zero_testBit, Nat.testBit_div_two_pow]
        by_cases hi : N % 64 + i < 64
        · have h4 := h0 (64 * (m.length - 1) + (N % 64 + i)) (by omega) (by omega)
          rw [hb _ (by omega), show (64 * (m.length - 1) + (N % 64 + i)) % 64 = N % 64 + i by omega] at h4
          rw [Nat.add_comm]; exact h4
        · exact Nat.testBit_lt_two_pow (Nat.lt_of_lt_of_le hX (Nat.pow_le_pow_right (by decide) (by omega)))
      rw [hz]; rfl
end Go.Proofs.YtbmkbnalembbjaaDoor
