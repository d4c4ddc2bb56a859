/-
  Plain arithmetic of bits: masks and joins of 64-bit words.
-/
import Derived.WalkKit
namespace Go.Proofs.Ytbmkbnalembbjaa
open Go.RowKit

theorem band16 (x : Int) (h0 : 0 ≤ x) (h1 : x < 18446744073709551616) : bits .and .u64 x 65535 = x % 65536 := by
  rw [u64_and x 65535 h0 h1 (by decide) (by decide), show (65535 : Int).toNat = 2 ^ 16 - 1 from rfl, Nat.and_two_pow_sub_one_eq_mod]
  omega
theorem band48 (x : Int) (h0 : 0 ≤ x) (h1 : x < 18446744073709551616) : bits .and .u64 x 281474976710656 = x / 281474976710656 % 2 * 281474976710656 := by
  rw [u64_and x 281474976710656 h0 h1 (by decide) (by decide), show (281474976710656 : Int).toNat = 2 ^ 48 from rfl, nat_bit]
  have : (2 : Nat) ^ 48 = 281474976710656 := by decide
  rw [this]
  omega
theorem bor_join (i : Nat) (x y : Int) (h0 : 0 ≤ x) (h1 : x < 18446744073709551616) (h2 : 0 ≤ y) (h3 : y < 18446744073709551616) (hx : x % 2 ^ i = 0) (hy : y < 2 ^ i) : bits .or .u64 y x = y + x := by
  obtain ⟨a, rfl⟩ := Int.eq_ofNat_of_zero_le h0
  obtain ⟨b, rfl⟩ := Int.eq_ofNat_of_zero_le h2
  rw [u64_or_nat b a (by omega) (by omega), Nat.or_comm, nat_join i a b (by exact_mod_cast hx) (by exact_mod_cast hy)]
  omega

theorem wrap_u64_of {x : Int} (h0 : 0 ≤ x) (h1 : x < 18446744073709551616) : IntKind.u64.wrap x = x := by
  have : IntKind.u64.wrap x = x % 18446744073709551616 := by simp [IntKind.wrap, IntKind.signed, IntKind.bits]
  rw [this]
  omega
theorem or_byte (old : Int) (b e : Nat) (h0 : 0 ≤ old) (h1 : old < 2 ^ e) (hb : b < 256) (he : e ≤ 56) : bits .or .u64 old (IntKind.u64.wrap (IntKind.u64.wrap (b : Int) * 2 ^ e)) = old + b * 2 ^ e := by
  have hp : (2 : Nat) ^ e ≤ 2 ^ 56 := Nat.pow_le_pow_right (by decide) he
  have hp2 : ((2 ^ e : Nat) : Int) ≤ ((2 ^ 56 : Nat) : Int) := Int.ofNat_le.2 hp
  rw [Int.natCast_pow] at hp2
  have hp3 : (2 : Int) ^ e ≤ 72057594037927936 := hp2
  have hp0 : (0 : Int) < 2 ^ e := Int.pow_pos (by decide)
  have hm : (b : Int) * 2 ^ e ≤ 255 * 72057594037927936 := Int.le_trans (Int.mul_le_mul_of_nonneg_right (by omega : (b : Int) ≤ 255) (Int.le_of_lt hp0)) (Int.mul_le_mul_of_nonneg_left hp3 (by decide))
  have hm0 : 0 ≤ (b : Int) * 2 ^ e := Int.mul_nonneg (by omega) (Int.le_of_lt hp0)
  rw [wrap_u64_of (x := (b : Int)) (by omega) (by omega)]
  generalize hx : (b : Int) * 2 ^ e = x at *
  rw [wrap_u64_of hm0 (by omega)]
  have h : x % 2 ^ e = 0 := by rw [← hx]; exact Int.mul_emod_left _ _
  have hj := bor_join e x old
  generalize (2 : Int) ^ e = p at *
  exact hj hm0 (by omega) h0 (by omega) h h1

end Go.Proofs.Ytbmkbnalembbjaa
