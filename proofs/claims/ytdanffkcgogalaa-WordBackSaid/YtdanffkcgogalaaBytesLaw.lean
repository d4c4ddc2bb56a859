/-
  Plain law: words as eight bytes each, the lowest first, and back. No program stands here.
-/
import Derived.WalkKit
namespace Go.Proofs.Ytdanffkcgogalaa
open Go.RowKit

/-- Byte k of a word. -/
def byteAt (v : Int) (k : Nat) : UInt8 := UInt8.ofNat (v / 2 ^ (8 * k) % 256).toNat
def le8 (v : Int) : List UInt8 := (List.range 8).map (byteAt v)
/-- The number that bytes tell, the lowest first. -/
def leN : List UInt8 → Int
  | [] => 0
  | c :: r => c.toNat + 256 * leN r

theorem le8_length (v : Int) : (le8 v).length = 8 := by simp [le8]
theorem byteAt_val (v : Int) (k : Nat) : ((byteAt v k).toNat : Int) = v / 2 ^ (8 * k) % 256 := by
  unfold byteAt
  have : (v / 2 ^ (8 * k) % 256).toNat < 256 := by omega
  rw [UInt8.toNat_ofNat']
  rw [Nat.mod_eq_of_lt (by simpa using this)]
  omega

theorem leN_nonneg (l : List UInt8) : 0 ≤ leN l := by
  induction l with
  | nil => simp [leN]
  | cons c r ih => simp only [leN]; omega
theorem leN_lt (l : List UInt8) : leN l < 256 ^ l.length := by
  induction l with
  | nil => simp [leN]
  | cons c r ih =>
    simp only [leN, List.length_cons, Int.pow_succ]
    have := c.toNat_lt
    omega
theorem leN_snoc (l : List UInt8) (c : UInt8) : leN (l ++ [c]) = leN l + c.toNat * 256 ^ l.length := by
  induction l with
  | nil => simp [leN]
  | cons d r ih =>
    simp only [List.cons_append, leN, ih, List.length_cons, Int.pow_succ]
    rw [Int.mul_add, Int.mul_left_comm]
    have : (256 : Int) * 256 ^ r.length = 256 ^ r.length * 256 := Int.mul_comm _ _
    rw [← this, Int.mul_left_comm (c.toNat : Int), Int.add_assoc]

theorem leN_le8 {v : Int} (h0 : 0 ≤ v) (h1 : v < 18446744073709551616) : leN (le8 v) = v := by
  have e : le8 v = [byteAt v 0, byteAt v 1, byteAt v 2, byteAt v 3, byteAt v 4, byteAt v 5, byteAt v 6, byteAt v 7] := rfl
  rw [e]
  simp only [leN, byteAt_val]
  simp only [Nat.mul_zero, Int.pow_zero, show (2:Int) ^ (8 * 1) = 256 from rfl, show (2:Int) ^ (8 * 2) = 65536 from rfl, show (2:Int) ^ (8 * 3) = 16777216 from rfl, show (2:Int) ^ (8 * 4) = 4294967296 from rfl,
    show (2:Int) ^ (8 * 5) = 1099511627776 from rfl, show (2:Int) ^ (8 * 6) = 281474976710656 from rfl, show (2:Int) ^ (8 * 7) = 72057594037927936 from rfl]
  omega

theorem byteAt_cons (c : UInt8) (r : List UInt8) (k : Nat) : byteAt (leN (c :: r)) (k + 1) = byteAt (leN r) k := by
  unfold byteAt
  congr 3
  have hc := c.toNat_lt
  rw [show 8 * (k + 1) = 8 + 8 * k by omega, Int.pow_add, ← Int.ediv_ediv_of_nonneg (by decide)]
  congr 1
  simp only [leN]
  have : (2 : Int) ^ 8 = 256 := rfl
  rw [this]
  omega
theorem byteAt_zero (c : UInt8) (r : List UInt8) : byteAt (leN (c :: r)) 0 = c := by
  apply UInt8.toNat_inj.1
  have h := byteAt_val (leN (c :: r)) 0
  have hc := c.toNat_lt
  simp only [leN, Nat.mul_zero, Int.pow_zero, Int.ediv_one] at h
  simp only [leN]
  omega
theorem byteAt_leN (l : List UInt8) : (List.range l.length).map (byteAt (leN l)) = l := by
  induction l with
  | nil => rfl
  | cons c r ih =>
    rw [List.length_cons, List.range_succ_eq_map, List.map_cons, byteAt_zero, List.map_map]
    congr 1
    rw [← ih]
    simp only [List.length_map, List.length_range]
    apply List.map_congr_left
    intro k _
    show byteAt (leN (c :: List.map (byteAt (leN r)) (List.range r.length))) (k + 1) = _
    rw [byteAt_cons, ih]
theorem le8_leN {l : List UInt8} (h : l.length = 8) : le8 (leN l) = l := by
  have := byteAt_leN l
  rw [h] at this
  exact this

/-- word.Bytes, word.Words. -/
def bytesL (a : List Int) : List UInt8 := a.flatMap le8
def chunk (s : List UInt8) (q : Nat) : List UInt8 := (s.drop (8 * q)).take 8
def wordsL (s : List UInt8) : List Int := (List.range (s.length / 8)).map fun q => leN (chunk s q)
def wordsE (s : List UInt8) : Int := if 2048 < s.length then 2 else if s.length % 8 ≠ 0 then 3 else 0

theorem bytesL_length (a : List Int) : (bytesL a).length = 8 * a.length := by
  induction a with
  | nil => rfl
  | cons v a ih => simp only [bytesL, List.flatMap_cons, List.length_append, le8_length, List.length_cons] at ih ⊢; omega

theorem chunk_bytes (a : List Int) (q : Nat) (h : q < a.length) : chunk (bytesL a) q = le8 a[q] := by
  induction a generalizing q with
  | nil => simp at h
  | cons v a ih =>
    cases q with
    | zero =>
      show (List.drop 0 (le8 v ++ bytesL a)).take 8 = le8 v
      rw [List.drop_zero, List.take_append_of_le_length (by rw [le8_length]; exact Nat.le_refl _), List.take_of_length_le (by rw [le8_length]; exact Nat.le_refl _)]
    | succ q =>
      show (List.drop (8 * (q + 1)) (le8 v ++ bytesL a)).take 8 = _
      rw [List.drop_append, le8_length, List.drop_of_length_le (by rw [le8_length]; omega), List.nil_append, show 8 * (q + 1) - 8 = 8 * q by omega]
      exact ih q (by simpa using h)

theorem words_bytes {a : List Int} (ha : ∀ x ∈ a, 0 ≤ x ∧ x < 18446744073709551616) : wordsL (bytesL a) = a := by
  unfold wordsL
  rw [bytesL_length, Nat.mul_div_cancel_left _ (by decide)]
  apply List.ext_getElem
  · simp
  · intro q h1 h2
    simp only [List.getElem_map, List.getElem_range]
    rw [chunk_bytes a q h2]
    have := ha _ (List.getElem_mem h2)
    exact leN_le8 this.1 this.2

theorem chunks_join (s : List UInt8) : ∀ n, 8 * n = s.length → (List.range n).flatMap (chunk s) = s := by
  intro n
  induction n generalizing s with
  | zero => intro h; rw [List.length_eq_zero_iff.1 h.symm]; rfl
  | succ n ih =>
    intro h
    rw [List.range_succ_eq_map, List.flatMap_cons, List.flatMap_map]
    have e : ∀ q, chunk s (q + 1) = chunk (s.drop 8) q := by
      intro q
      unfold chunk
      rw [List.drop_drop]
      congr 2
      omega
    have e2 : List.flatMap (fun q => chunk s (q + 1)) (List.range n) = List.flatMap (chunk (s.drop 8)) (List.range n) := by
      congr 1
      funext q
      exact e q
    show chunk s 0 ++ List.flatMap (fun q => chunk s (q + 1)) (List.range n) = s
    rw [e2, ih (s.drop 8) (by rw [List.length_drop]; omega)]
    show List.take 8 (List.drop 0 s) ++ List.drop 8 s = s
    rw [List.drop_zero, List.take_append_drop]

theorem bytes_words {s : List UInt8} (h : s.length % 8 = 0) : bytesL (wordsL s) = s := by
  unfold bytesL wordsL
  rw [List.flatMap_map]
  have e : List.flatMap (fun q => le8 (leN (chunk s q))) (List.range (s.length / 8)) = List.flatMap (chunk s) (List.range (s.length / 8)) := by
    rw [List.flatMap_def, List.flatMap_def]
    congr 1
    apply List.map_congr_left
    intro q hq
    have hq := List.mem_range.1 hq
    exact le8_leN (by unfold chunk; rw [List.length_take, List.length_drop]; omega)
  rw [e]
  exact chunks_join s _ (by omega)

theorem wordsL_length (s : List UInt8) : (wordsL s).length = s.length / 8 := by simp [wordsL]
theorem wordsL_range (s : List UInt8) : ∀ x ∈ wordsL s, 0 ≤ x ∧ x < 18446744073709551616 := by
  intro x hx
  unfold wordsL at hx
  obtain ⟨q, hq, rfl⟩ := List.mem_map.1 hx
  have hl : (chunk s q).length ≤ 8 := by unfold chunk; exact List.length_take_le _ _
  have h := leN_lt (chunk s q)
  refine ⟨leN_nonneg _, Int.lt_of_lt_of_le h ?_⟩
  have h2 := Nat.pow_le_pow_right (n := 256) (by decide) hl
  have h3 : ((256 ^ (chunk s q).length : Nat) : Int) ≤ ((256 ^ 8 : Nat) : Int) := Int.ofNat_le.2 h2
  rw [Int.natCast_pow] at h3
  exact h3

/-- word.Words after j bytes. -/
def wordsP (s : List UInt8) (j : Nat) : List Int := (List.range (s.length / 8)).map fun q => leN (chunk (s.take j) q)

theorem wordsP_zero (s : List UInt8) : wordsP s 0 = List.replicate (s.length / 8) 0 := by
  unfold wordsP
  apply List.ext_getElem
  · simp
  · intro q h1 h2
    simp [chunk, leN]
theorem wordsP_all (s : List UInt8) : wordsP s s.length = wordsL s := by
  unfold wordsP wordsL
  rw [List.take_length]
theorem chunk_take_other (s : List UInt8) (j q : Nat) (h : q ≠ j / 8) : chunk (s.take (j + 1)) q = chunk (s.take j) q := by
  unfold chunk
  rw [List.drop_take, List.drop_take, List.take_take, List.take_take]
  by_cases hq : q < j / 8
  · rw [Nat.min_eq_left (by omega), Nat.min_eq_left (by omega)]
  · rw [show min 8 (j + 1 - 8 * q) = 0 by omega, show min 8 (j - 8 * q) = 0 by omega]
theorem chunk_take_here (s : List UInt8) (j : Nat) (h : j < s.length) : chunk (s.take (j + 1)) (j / 8) = chunk (s.take j) (j / 8) ++ [s[j]] ∧ (chunk (s.take j) (j / 8)).length = j % 8 := by
  constructor
  · unfold chunk
    rw [List.take_succ_eq_append_getElem h, List.drop_append_of_le_length (by rw [List.length_take]; omega), List.take_append]
    congr 1
    rw [List.take_of_length_le]
    simp only [List.length_cons, List.length_nil, List.length_drop, List.length_take]
    omega
  · unfold chunk
    rw [List.length_take, List.length_drop, List.length_take]
    omega
theorem wordsP_length (s : List UInt8) (j : Nat) : (wordsP s j).length = s.length / 8 := by simp [wordsP]
theorem wordsP_get (s : List UInt8) (j q : Nat) (h : q < (wordsP s j).length) : (wordsP s j)[q] = leN (chunk (s.take j) q) := by simp [wordsP]
theorem wordsP_succ (s : List UInt8) (j : Nat) (h : j < s.length) (h8 : s.length % 8 = 0) :
    ∃ old : Int, (wordsP s j)[j / 8]? = some old ∧ 0 ≤ old ∧ old < 2 ^ (8 * (j % 8)) ∧ wordsP s (j + 1) = (wordsP s j).set (j / 8) (old + s[j].toNat * 2 ^ (8 * (j % 8))) := by
  obtain ⟨c1, c2⟩ := chunk_take_here s j h
  have hp : (256 : Int) ^ (j % 8) = 2 ^ (8 * (j % 8)) := by rw [Int.pow_mul]; rfl
  refine ⟨leN (chunk (s.take j) (j / 8)), ?_, leN_nonneg _, ?_, ?_⟩
  · unfold wordsP
    rw [List.getElem?_map, List.getElem?_range (by omega)]
    rfl
  · have := leN_lt (chunk (s.take j) (j / 8))
    rw [c2, hp] at this
    exact this
  · apply List.ext_getElem
    · simp [wordsP]
    · intro q h1 h2
      rw [List.getElem_set, wordsP_get]
      by_cases hq : j / 8 = q
      · rw [if_pos hq]
        subst hq
        rw [c1, leN_snoc, c2, hp]
      · rw [if_neg hq, wordsP_get, chunk_take_other _ _ _ (by omega)]
end Go.Proofs.Ytdanffkcgogalaa
