/-
  Plain law: the objects of an arena, as a list of spots. No program stands here.
-/
import Derived.Test.YtbmkbnalembbjaaBase
import Derived.Test.YtbmkbnalembbjaaHeadDefs
namespace Go.Proofs.Ytbmkbnalembbjaa
open Go.RowKit

/-- A spot: where an object begins, and its head. -/
structure Spot where
  loc : Int
  r : Int
  b : Int
  t : Int
  f : Bool
deriving DecidableEq

def Spot.long (s : Spot) : Int := 1 + s.r + s.b
def spotC (s : Spot) : List Value := [.int .i64 s.loc, .int .i64 s.r, .int .i64 s.b, .int .i64 s.t, .bool s.f]
def spotsC (l : List Spot) : List Value := l.flatMap spotC
def spotOf (i : Nat) (v : Int) : Spot := ⟨i, rdR v, rdB v, rdT v, rdF v⟩
def hlen (v : Int) : Nat := (1 + rdR v + rdB v).toNat

/-- The spots from word i on (n: fuel). -/
def spotsGo (a : List Int) : Nat → Nat → Option (List Spot)
  | 0, _ => some []
  | n + 1, i => if a.length ≤ i then some [] else
    if readOk (a.getD i 0) ∧ i + hlen (a.getD i 0) ≤ a.length then (spotsGo a n (i + hlen (a.getD i 0))).map (spotOf i (a.getD i 0) :: ·) else none

def spotsAt (a : List Int) (i : Nat) : Option (List Spot) := spotsGo a (a.length - i) i

theorem hlen_pos {v : Int} (h : readOk v) : 1 ≤ hlen v := by
  have := headE_ok.1 h.2
  unfold hlen; omega

theorem spotsGo_fuel (a : List Int) : ∀ (n m i : Nat), a.length - i ≤ n → a.length - i ≤ m → spotsGo a n i = spotsGo a m i := by
  intro n
  induction n with
  | zero =>
    intro m i h1 h2
    cases m with
    | zero => rfl
    | succ m => simp only [spotsGo]; rw [if_pos (by omega)]
  | succ n ih =>
    intro m i h1 h2
    cases m with
    | zero => simp only [spotsGo]; rw [if_pos (by omega)]
    | succ m =>
      simp only [spotsGo]
      split
      · rfl
      · split
        · rename_i h
          have := hlen_pos h.1
          rw [ih m _ (by omega) (by omega)]
        · rfl

theorem spotsAt_end {a : List Int} {i : Nat} (h : a.length ≤ i) : spotsAt a i = some [] := by
  unfold spotsAt
  rw [show a.length - i = 0 by omega]
  rfl
theorem spotsAt_step {a : List Int} {i : Nat} (h : i < a.length) (h1 : readOk (a.getD i 0)) (h2 : i + hlen (a.getD i 0) ≤ a.length) :
    spotsAt a i = (spotsAt a (i + hlen (a.getD i 0))).map (spotOf i (a.getD i 0) :: ·) := by
  have := hlen_pos h1
  unfold spotsAt
  rw [show a.length - i = (a.length - i - 1) + 1 by omega]
  simp only [spotsGo]
  rw [if_neg (by omega), if_pos ⟨h1, h2⟩, spotsGo_fuel a _ (a.length - (i + hlen (a.getD i 0))) _ (by omega) (by omega)]
theorem spotsAt_bad {a : List Int} {i : Nat} (h : i < a.length) (h1 : ¬ (readOk (a.getD i 0) ∧ i + hlen (a.getD i 0) ≤ a.length)) : spotsAt a i = none := by
  unfold spotsAt
  rw [show a.length - i = (a.length - i - 1) + 1 by omega]
  simp only [spotsGo]
  rw [if_neg (by omega), if_neg h1]

/-- walk.Spots: its error, its list. -/
def spotsE (a : List Int) : Int := if 256 < a.length then 2 else if spotsAt a 0 = none then 3 else 0
def spotsL (a : List Int) : List Spot := if 256 < a.length then [] else (spotsAt a 0).getD []

/-- l is the spots of a from word i on. -/
def Parse (a : List Int) : Nat → List Spot → Prop
  | i, [] => i = a.length
  | i, s :: l => i < a.length ∧ readOk (a.getD i 0) ∧ s = spotOf i (a.getD i 0) ∧ i + hlen (a.getD i 0) ≤ a.length ∧ Parse a (i + hlen (a.getD i 0)) l

theorem parse_of (a : List Int) : ∀ (n i : Nat) (l : List Spot), a.length - i ≤ n → i ≤ a.length → spotsAt a i = some l → Parse a i l := by
  intro n
  induction n with
  | zero =>
    intro i l h1 h2 h
    have hi : i = a.length := by omega
    subst hi
    rw [spotsAt_end (Nat.le_refl _)] at h
    obtain rfl := Option.some.inj h
    rfl
  | succ n ih =>
    intro i l h1 h2 h
    by_cases hi : i < a.length
    · by_cases hok : readOk (a.getD i 0) ∧ i + hlen (a.getD i 0) ≤ a.length
      · rw [spotsAt_step hi hok.1 hok.2] at h
        obtain ⟨l', h', rfl⟩ := Option.map_eq_some_iff.1 h
        have := hlen_pos hok.1
        exact ⟨hi, hok.1, rfl, hok.2, ih _ _ (by omega) hok.2 h'⟩
      · rw [spotsAt_bad hi hok] at h
        cases h
    · rw [spotsAt_end (by omega)] at h
      obtain rfl := Option.some.inj h
      show i = a.length
      omega

theorem parse_ok {a : List Int} (h : spotsE a = 0) : a.length ≤ 256 ∧ Parse a 0 (spotsL a) := by
  unfold spotsE at h
  split at h
  · cases h
  · rename_i hl
    split at h
    · cases h
    · rename_i hn
      refine ⟨by omega, ?_⟩
      unfold spotsL
      rw [if_neg hl]
      cases hs : spotsAt a 0 with
      | none => exact absurd hs hn
      | some l => exact parse_of a _ 0 l (Nat.le_refl _) (Nat.zero_le _) hs

theorem spotsAt_parse (a : List Int) : ∀ (l : List Spot) (i : Nat), Parse a i l → spotsAt a i = some l := by
  intro l
  induction l with
  | nil => intro i h; exact spotsAt_end (by have : i = a.length := h; omega)
  | cons s l ih =>
    rintro i ⟨h1, h2, rfl, h4, h5⟩
    rw [spotsAt_step h1 h2 h4, ih _ h5]
    rfl

theorem spotsE_cases (a : List Int) : spotsE a = 0 ∨ spotsE a = 2 ∨ spotsE a = 3 := by
  unfold spotsE
  split
  · exact .inr (.inl rfl)
  · split
    · exact .inr (.inr rfl)
    · exact .inl rfl
theorem spotsL_bad {a : List Int} (h : spotsE a ≠ 0) : spotsL a = [] := by
  unfold spotsE at h
  unfold spotsL
  split
  · rfl
  · rename_i hl
    rw [if_neg hl] at h
    split at h
    · rename_i hn; rw [hn]; rfl
    · exact absurd rfl h

theorem spotsC_length (l : List Spot) : (spotsC l).length = l.length * 5 := flat_length spotC 5 (fun _ => rfl) l
theorem spotsC_at (l : List Spot) (j i : Nat) (hj : j < l.length) (hi : i < 5) : (spotsC l)[j * 5 + i]? = (spotC l[j])[i]? := flat_at spotC 5 (fun _ => rfl) l j i hj hi
theorem spotsC_one (l : List Spot) : ∀ u ∈ spotsC l, u.oneCell' = true := by
  intro u hu
  obtain ⟨s, _, hs⟩ := List.mem_flatMap.1 hu
  simp only [spotC, List.mem_cons, List.not_mem_nil, or_false] at hs
  rcases hs with rfl | rfl | rfl | rfl | rfl <;> rfl
theorem spotsC_snoc (l : List Spot) (s : Spot) : spotsC (l ++ [s]) = spotsC l ++ spotC s := by simp [spotsC]

/-- The cells of element j of k cells each, of a slice that reads as f's. -/
theorem Reads.elem {α : Type} {f : α → List Value} {k : Nat} {w : World} {B : Nat} {A : Option Addr} {n j : Nat} {l : List α} (hf : ∀ a, (f a).length = k) (h : Reads w B k A n (l.flatMap f)) (hk0 : 0 < k) (hj : j < n) :
    ∃ ad s, A = some ad ∧ ad.block < B ∧ l[j]? = some s ∧ w.cell? (ad.add (j * k)) = (f s)[0]? ∧ ∀ i, 0 < i → i < k → w.cell? ⟨(ad.add (j * k)).block, (ad.add (j * k)).off + i, none⟩ = (f s)[i]? := by
  have hn : l.length = n := by
    have := h.1; rw [flat_length f k hf] at this
    exact Nat.eq_of_mul_eq_mul_right hk0 this
  obtain ⟨ad, e, hb, hc⟩ := h.2 (by omega)
  refine ⟨ad, l[j], e, hb, List.getElem?_eq_getElem (by omega), ?_, fun i h0 hi => ?_⟩
  · have h1 := flat_at f k hf l j 0 (by omega) hk0
    have hl : 0 < (f (l[j]'(by omega))).length := by rw [hf]; exact hk0
    rw [List.getElem?_eq_getElem hl] at h1 ⊢
    have := hc (j * k) _ h1
    exact this
  · have h1 := flat_at f k hf l j i (by omega) hi
    have hl : i < (f (l[j]'(by omega))).length := by rw [hf]; exact hi
    rw [List.getElem?_eq_getElem hl] at h1 ⊢
    have h2 := hc (j * k + i) _ h1
    rw [← add_of_add, addr_add_pos _ _ h0] at h2
    exact h2

theorem parse_length (a : List Int) : ∀ (l : List Spot) (i : Nat), Parse a i l → i + l.length ≤ a.length := by
  intro l
  induction l with
  | nil => intro i h; have : i = a.length := h; simp; omega
  | cons s l ih =>
    rintro i ⟨h1, h2, rfl, h4, h5⟩
    have := ih _ h5
    have := hlen_pos h2
    simp only [List.length_cons]
    omega
theorem spotsL_length (a : List Int) : (spotsL a).length ≤ 256 := by
  by_cases h : spotsE a = 0
  · have := parse_length a _ _ (parse_ok h).2
    have := (parse_ok h).1
    omega
  · rw [spotsL_bad h]; simp

/-- The cells of spot j. -/
theorem Reads.spot {w : World} {B : Nat} {A : Option Addr} {n j : Nat} {l : List Spot} (h : Reads w B 5 A n (spotsC l)) (hj : j < n) :
    ∃ ad s, A = some ad ∧ ad.block < B ∧ l[j]? = some s ∧ w.cell? (ad.add (j * 5)) = some (.int .i64 s.loc) ∧
      w.cell? ⟨(ad.add (j * 5)).block, (ad.add (j * 5)).off + 1, none⟩ = some (.int .i64 s.r) ∧ w.cell? ⟨(ad.add (j * 5)).block, (ad.add (j * 5)).off + 2, none⟩ = some (.int .i64 s.b) ∧
      w.cell? ⟨(ad.add (j * 5)).block, (ad.add (j * 5)).off + 3, none⟩ = some (.int .i64 s.t) ∧ w.cell? ⟨(ad.add (j * 5)).block, (ad.add (j * 5)).off + 4, none⟩ = some (.bool s.f) := by
  obtain ⟨ad, s, e, hb, hs, c0, cs⟩ := Reads.elem (f := spotC) (k := 5) (fun _ => rfl) h (by decide) hj
  exact ⟨ad, s, e, hb, hs, c0, cs 1 (by decide) (by decide), cs 2 (by decide) (by decide), cs 3 (by decide) (by decide), cs 4 (by decide) (by decide)⟩
theorem drop_of_get {α : Type} {l : List α} {j : Nat} {s : α} (h : l[j]? = some s) : l.drop j = s :: l.drop (j + 1) := by
  obtain ⟨h1, rfl⟩ := List.getElem?_eq_some_iff.1 h
  exact List.drop_eq_getElem_cons h1
end Go.Proofs.Ytbmkbnalembbjaa
