/-
  Plain law: the places of an arena's objects, and whether its references are right. No program stands here.
-/
import Derived.Test.YtbmkbnalembbjaaArena
import Derived.Test.YtbmkbnalembbjaaMap
namespace Go.Proofs.Ytbmkbnalembbjaa
open Go.RowKit

/-- What is known of each spot. -/
structure SpotOk (a : List Int) (s : Spot) : Prop where
  loc0 : 0 ≤ s.loc
  r0 : 0 ≤ s.r
  b0 : 0 ≤ s.b
  t0 : 0 ≤ s.t
  t1 : s.t ≤ 65535
  fits : s.loc + s.long ≤ a.length
  free : s.f = true → s.r = 0 ∧ s.t = 0
  word : a[s.loc.toNat]? = some (wordOf s.r s.b s.t s.f)
  head : headE s.r s.b s.t s.f = 0
  fit256 : s.long ≤ 256

theorem readOk_word {v : Int} (h : readOk v) : wordOf (rdR v) (rdB v) (rdT v) (rdF v) = v := by
  obtain ⟨hz, hE⟩ := h
  unfold wordOf rdF
  have h2 : v / 281474976710656 % 2 = v / 281474976710656 := by omega
  have h3 : v / 281474976710656 = 0 ∨ v / 281474976710656 = 1 := by omega
  unfold rdR rdB rdT
  rcases h3 with h3 | h3
  · rw [h3]; simp; omega
  · rw [h3]; simp; omega

theorem spotOk_of {a : List Int} {j : Nat} (h : j < a.length) (h1 : readOk (a.getD j 0)) (h2 : j + hlen (a.getD j 0) ≤ a.length) : SpotOk a (spotOf j (a.getD j 0)) := by
  have hE := headE_ok.1 h1.2
  have hl : hlen (a.getD j 0) = 1 + rdR (a.getD j 0) + rdB (a.getD j 0) := by unfold hlen; omega
  refine ⟨?_, hE.1, hE.2.2.1, hE.2.2.2.2.1, hE.2.2.2.2.2.1, ?_, hE.2.2.2.2.2.2.2, ?_, h1.2, ?_⟩
  · simp [spotOf]
  · simp only [spotOf, Spot.long]; omega
  · simp only [spotOf, Int.toNat_natCast]
    rw [readOk_word h1, List.getElem?_eq_getElem h]
    simp [h]
  · simp only [spotOf, Spot.long]; omega

theorem parse_mem {a : List Int} : ∀ {l : List Spot} {i : Nat}, Parse a i l → ∀ s ∈ l, SpotOk a s ∧ (i : Int) ≤ s.loc := by
  intro l
  induction l with
  | nil => intro i _ s hs; cases hs
  | cons x l ih =>
    rintro i ⟨h1, h2, rfl, h4, h5⟩ s hs
    rcases List.mem_cons.1 hs with rfl | hs
    · exact ⟨spotOk_of h1 h2 h4, by simp [spotOf]⟩
    · have := ih h5 s hs
      have := hlen_pos h2
      exact ⟨(ih h5 s hs).1, by omega⟩

theorem parse_order {a : List Int} : ∀ {l : List Spot} {i : Nat}, Parse a i l → l.Pairwise (fun s t => s.loc + s.long ≤ t.loc) := by
  intro l
  induction l with
  | nil => intro i _; exact List.Pairwise.nil
  | cons x l ih =>
    rintro i ⟨h1, h2, rfl, h4, h5⟩
    refine List.pairwise_cons.2 ⟨fun s hs => ?_, ih h5⟩
    have hE := headE_ok.1 h2.2
    have := (parse_mem h5 s hs).2
    have hl : hlen (a.getD i 0) = 1 + rdR (a.getD i 0) + rdB (a.getD i 0) := by unfold hlen; omega
    simp only [spotOf, Spot.long]
    omega

theorem spots_rise {a : List Int} (h : spotsE a = 0) : (spotsL a).Pairwise (fun s t => s.loc < t.loc) := by
  have hp := (parse_ok h).2
  refine (parse_order hp).imp_of_mem (fun {s t} hs _ hst => ?_)
  have := (parse_mem hp s hs).1
  have := this.r0
  have := (parse_mem hp s hs).1.b0
  unfold Spot.long at hst
  omega

def isPlace (v : Int) (s : Spot) : Bool := !s.f && (s.loc + 1 == v)
/-- walk.places: the number of the object that a word names; 0 names none. -/
def placeF (l : List Spot) (v : Int) : Option Int := if v = 0 then some (-1) else (l.findIdx? (isPlace v)).map (fun (i : Nat) => (i : Int))
def placeV (l : List Spot) : Int → Option Value := fun v => (placeF l v).map (.int .i64)

theorem placeV_nil : placeV [] = upd (fun _ => none) 0 (.int .i64 (-1)) := by
  funext v
  simp only [placeV, placeF, upd]
  by_cases h : v = 0 <;> simp [h]

theorem placeV_free {l : List Spot} {s : Spot} (h : s.f = true) : placeV (l ++ [s]) = placeV l := by
  funext v
  simp only [placeV, placeF]
  by_cases hv : v = 0
  · simp [hv]
  · rw [if_neg hv, if_neg hv, List.findIdx?_append]
    have : List.findIdx? (isPlace v) [s] = none := by
      rw [List.findIdx?_eq_none_iff]
      intro x hx
      obtain rfl := List.mem_singleton.1 hx
      simp [isPlace, h]
    rw [this]
    simp

theorem placeV_snoc {l : List Spot} {s : Spot} (h : s.f = false) (h0 : 0 ≤ s.loc) (hl : ∀ x ∈ l, x.loc < s.loc) : placeV (l ++ [s]) = upd (placeV l) (s.loc + 1) (.int .i64 l.length) := by
  funext v
  simp only [placeV, placeF, upd]
  by_cases hv : v = 0
  · rw [if_pos hv, if_pos hv, if_neg (by omega)]
  · rw [if_neg hv, if_neg hv, List.findIdx?_append]
    by_cases hs : v = s.loc + 1
    · rw [if_pos hs]
      have h1 : l.findIdx? (isPlace v) = none := by
        rw [List.findIdx?_eq_none_iff]
        intro x hx
        have := hl x hx
        simp [isPlace]
        omega
      have h2 : List.findIdx? (isPlace v) [s] = some 0 := by
        simp [List.findIdx?_cons, isPlace, h, hs]
      rw [h1, h2]
      simp
    · rw [if_neg hs]
      have h2 : List.findIdx? (isPlace v) [s] = none := by
        rw [List.findIdx?_eq_none_iff]
        intro x hx
        obtain rfl := List.mem_singleton.1 hx
        simp [isPlace]
        omega
      rw [h2]
      simp

/-- The words of an object's references; its body. -/
def refsOf (a : List Int) (s : Spot) : List Int := (a.drop (s.loc.toNat + 1)).take s.r.toNat
def bodyOf (a : List Int) (s : Spot) : List Int := (a.drop (s.loc.toNat + 1 + s.r.toNat)).take s.b.toNat

/-- walk.Check: what it answers. -/
def refsOk (l : List Spot) (a : List Int) : Bool := l.all fun s => (refsOf a s).all fun v => (placeF l v).isSome
def checkE (a : List Int) : Int := if spotsE a ≠ 0 then spotsE a else if refsOk (spotsL a) a = true then 0 else 5

theorem checkE_ok {a : List Int} : checkE a = 0 ↔ spotsE a = 0 ∧ refsOk (spotsL a) a = true := by
  unfold checkE
  split
  · rename_i h; exact ⟨fun h2 => absurd h2 h, fun h2 => absurd h2.1 h⟩
  · rename_i h
    split
    · rename_i h2; exact ⟨fun _ => ⟨by simpa using h, h2⟩, fun _ => rfl⟩
    · rename_i h2; exact ⟨(fun h3 => by cases h3), fun h3 => absurd h3.2 h2⟩
theorem checkE_cases (a : List Int) : checkE a = 0 ∨ checkE a = 2 ∨ checkE a = 3 ∨ checkE a = 5 := by
  unfold checkE
  split
  · rename_i h; rcases spotsE_cases a with h' | h' | h'
    · exact absurd h' h
    · exact .inr (.inl h')
    · exact .inr (.inr (.inl h'))
  · split
    · exact .inl rfl
    · exact .inr (.inr (.inr rfl))

theorem refsOf_length {a : List Int} {s : Spot} (h : SpotOk a s) : (refsOf a s).length = s.r.toNat := by
  have h1 := h.loc0
  have h2 := h.r0
  have h3 := h.b0
  have h4 := h.fits
  unfold Spot.long at h4
  unfold refsOf
  rw [List.length_take, List.length_drop]
  omega
theorem bodyOf_length {a : List Int} {s : Spot} (h : SpotOk a s) : (bodyOf a s).length = s.b.toNat := by
  have h1 := h.loc0
  have h2 := h.r0
  have h3 := h.b0
  have h4 := h.fits
  unfold Spot.long at h4
  unfold bodyOf
  rw [List.length_take, List.length_drop]
  omega

/-- A part of a slice: s[lo:hi]. -/
theorem Reads.sub {w : World} {B : Nat} {A : Option Addr} {n c lo hi : Nat} {xs : List Value} (h : Reads w B 1 A n xs) (h1 : lo ≤ hi) (h2 : hi ≤ n) (h3 : n ≤ c) :
    Reads w B 1 (if c = lo then A else A.map (·.add lo)) (hi - lo) ((xs.drop lo).take (hi - lo)) := by
  have hc := h.cut (k := lo) (cap := c) (by omega) h3
  rw [Nat.mul_one] at hc
  refine ⟨by rw [List.length_take, List.length_drop, h.1]; omega, fun hk0 => ?_⟩
  obtain ⟨ad, e, hb, hcell⟩ := hc.2 (by omega)
  refine ⟨ad, e, hb, fun j u hu => hcell j u ?_⟩
  rw [List.getElem?_take] at hu
  split at hu
  · exact hu
  · cases hu
end Go.Proofs.Ytbmkbnalembbjaa
