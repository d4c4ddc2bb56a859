/-
  Plain law: heads of objects and their words. No program stands here.
-/
import Derived.WalkKit
namespace Go.Proofs.Ytbmkbnalembbjaa
open Go.RowKit

/-- A head as a value. -/
def hv (r b t : Int) (f : Bool) : Value := .agg #[.int .i64 r, .int .i64 b, .int .i64 t, .bool f]

/-- head.Check: what it answers. -/
def headE (r b t : Int) (f : Bool) : Int :=
  if r < 0 ∨ b < 0 ∨ t < 0 ∨ 256 < r ∨ 256 < b ∨ 65535 < t then 4
  else if f = true ∧ (0 < r ∨ 0 < t) then 3
  else if 256 < 1 + r + b then 2 else 0

/-- head.Word: the word. -/
def wordOf (r b t : Int) (f : Bool) : Int := r + b * 65536 + t * 4294967296 + (if f then 281474976710656 else 0)

theorem headE_ok {r b t : Int} {f : Bool} : headE r b t f = 0 ↔ (0 ≤ r ∧ r ≤ 256 ∧ 0 ≤ b ∧ b ≤ 256 ∧ 0 ≤ t ∧ t ≤ 65535 ∧ 1 + r + b ≤ 256 ∧ (f = true → r = 0 ∧ t = 0)) := by
  unfold headE
  constructor
  · intro h
    split at h
    · cases h
    · split at h
      · cases h
      · split at h
        · cases h
        · rename_i a b' c
          exact ⟨by omega, by omega, by omega, by omega, by omega, by omega, by omega, fun hf => by
            subst hf
            simp at b'
            omega⟩
  · rintro ⟨h1, h2, h3, h4, h5, h6, h7, h8⟩
    rw [if_neg (by omega), if_neg (by rintro ⟨hf, h⟩; have := h8 hf; omega), if_neg (by omega)]

theorem headE_cases (r b t : Int) (f : Bool) : headE r b t f = 0 ∨ headE r b t f = 2 ∨ headE r b t f = 3 ∨ headE r b t f = 4 := by
  unfold headE
  split
  · simp
  · split
    · simp
    · split <;> simp

/-- head.Read: the head that a word tells, and whether it is one. -/
def rdR (v : Int) : Int := v % 65536
def rdB (v : Int) : Int := v / 65536 % 65536
def rdT (v : Int) : Int := v / 4294967296 % 65536
def rdF (v : Int) : Bool := decide (v / 281474976710656 % 2 = 1)
def readOk (v : Int) : Prop := v / 562949953421312 = 0 ∧ headE (rdR v) (rdB v) (rdT v) (rdF v) = 0
instance readOkDec (v : Int) : Decidable (readOk v) := by unfold readOk; infer_instance
end Go.Proofs.Ytbmkbnalembbjaa
