/-
  Plain law: pins that are added and let go. No program stands here.
-/
import Derived.Test.YtbmkbnalembbjaaPinFind
namespace Go.Proofs.Ytbmkbnalembbjaa
open Go.RowKit

def findE (l : List Rn) (x : Int) : Int := if pinE l ≠ 0 then pinE l else if thereB x = true then 0 else 4
theorem findE_zero {l : List Rn} {x : Int} : findE l x = 0 ↔ PinsOk l ∧ thereB x = true := by
  unfold findE
  rw [← pinE_ok]
  by_cases h : pinE l = 0
  · rw [if_neg (by simp [h])]
    by_cases h2 : thereB x = true
    · rw [if_pos h2]; simp [h, h2]
    · rw [if_neg h2]; simp [h2]
  · rw [if_pos h]; simp [h]
theorem findE_same {l l' : List Rn} (h : PinsOk l) (h' : PinsOk l') (x : Int) : findE l x = findE l' x := by
  unfold findE
  rw [pinE_ok.2 h, pinE_ok.2 h']
def countP (l : List Rn) (x : Int) : Int := ((l.find? (fun y => decide (y.loc = x))).map (·.len)).getD 0
theorem PinsOk.same {l : List Rn} (h : PinsOk l) {y z : Rn} (hy : y ∈ l) (hz : z ∈ l) (e : y.loc = z.loc) : y = z := by
  obtain ⟨i, hi⟩ := List.mem_iff_getElem?.1 hy
  obtain ⟨j, hj⟩ := List.mem_iff_getElem?.1 hz
  obtain ⟨q1, rfl⟩ := List.getElem?_eq_some_iff.1 hi
  obtain ⟨q2, rfl⟩ := List.getElem?_eq_some_iff.1 hj
  rcases Nat.lt_trichotomy i j with h1 | h1 | h1
  · have := List.pairwise_iff_getElem.1 h.rise i j q1 q2 h1; omega
  · subst h1; rfl
  · have := List.pairwise_iff_getElem.1 h.rise j i q2 q1 h1; omega
theorem countP_some {l : List Rn} (h : PinsOk l) {y : Rn} (hy : y ∈ l) : countP l y.loc = y.len := by
  unfold countP
  cases hf : l.find? (fun z => decide (z.loc = y.loc)) with
  | none => exact absurd (List.find?_eq_none.1 hf y hy) (by simp)
  | some z =>
    have h1 := List.find?_some hf
    have h2 := List.mem_of_find?_eq_some hf
    simp only [decide_eq_true_eq] at h1
    rw [h.same h2 hy h1]
    rfl
theorem countP_none {l : List Rn} {x : Int} (h : ∀ y ∈ l, y.loc ≠ x) : countP l x = 0 := by
  unfold countP
  rw [List.find?_eq_none.2 (fun y hy => by simpa using h y hy)]
  rfl
theorem place_none {l : List Rn} {x : Int} {i : Nat} (hs : l.Pairwise (fun x y => x.loc < y.loc)) (h : PlaceOf l x i) (hh : hasAt l x i = false) : ∀ y ∈ l, y.loc ≠ x := by
  intro y hy e
  obtain ⟨j, hj⟩ := List.mem_iff_getElem?.1 hy
  rcases Nat.lt_trichotomy j i with h1 | h1 | h1
  · have := h.low j y h1 hj; omega
  · subst h1
    unfold hasAt at hh
    rw [hj] at hh
    simp [e] at hh
  · obtain ⟨q, rfl⟩ := List.getElem?_eq_some_iff.1 hj
    have hi : i < l.length := by omega
    have h2 := h.high i _ (Nat.le_refl _) (List.getElem?_eq_getElem hi)
    have h3 := List.pairwise_iff_getElem.1 hs i j hi q h1
    omega
theorem hasAt_some {l : List Rn} {x : Int} {i : Nat} (h : hasAt l x i = true) : ∃ y, l[i]? = some y ∧ y.loc = x := by
  unfold hasAt at h
  cases hl : l[i]? with
  | none => rw [hl] at h; cases h
  | some y => rw [hl] at h; exact ⟨y, rfl, by simpa using h⟩
theorem bad_no {x y : Int} : pinBad ⟨x, y⟩ = false ↔ (thereB x = true ∧ 1 ≤ y ∧ y ≤ 1000000) := by
  unfold pinBad thereB
  simp only [Bool.or_eq_false_iff, Bool.not_eq_false', decide_eq_false_iff_not, and_assoc]
  constructor
  · rintro ⟨a, b, c⟩; exact ⟨a, by omega, by omega⟩
  · rintro ⟨a, b, c⟩; exact ⟨a, by omega, by omega⟩

/-- One more. -/
def moreP (l : List Rn) (x : Int) (i : Nat) (v : Int) : List Rn := if hasAt l x i = true then l.set i ⟨x, v⟩ else l.take i ++ ⟨x, v⟩ :: l.drop i
theorem moreP_mem {l : List Rn} {x v : Int} {i : Nat} (hi : PlaceOf l x i) (hs : l.Pairwise (fun x y => x.loc < y.loc)) (z : Rn) : z ∈ moreP l x i v ↔ z = ⟨x, v⟩ ∨ z ∈ l ∧ z.loc ≠ x := by
  unfold moreP
  by_cases h : hasAt l x i = true
  · obtain ⟨y, hy, hyx⟩ := hasAt_some h
    obtain ⟨q, rfl⟩ := List.getElem?_eq_some_iff.1 hy
    rw [if_pos h]
    rw [List.mem_iff_getElem?]
    constructor
    · rintro ⟨j, hj⟩
      by_cases hji : j = i
      · subst hji
        rw [List.getElem?_set_self q] at hj
        exact .inl (by injection hj with hj; exact hj.symm)
      · rw [List.getElem?_set_ne (by omega)] at hj
        obtain ⟨q2, rfl⟩ := List.getElem?_eq_some_iff.1 hj
        refine .inr ⟨List.getElem_mem q2, fun e => ?_⟩
        rcases Nat.lt_or_ge j i with h1 | h1
        · have := List.pairwise_iff_getElem.1 hs j i q2 q h1; omega
        · have := List.pairwise_iff_getElem.1 hs i j q q2 (by omega); omega
    · rintro (rfl | ⟨hz, hzx⟩)
      · exact ⟨i, List.getElem?_set_self q⟩
      · obtain ⟨j, hj⟩ := List.mem_iff_getElem?.1 hz
        refine ⟨j, ?_⟩
        rw [List.getElem?_set_ne ?_]
        · exact hj
        · rintro rfl
          obtain ⟨_, rfl⟩ := List.getElem?_eq_some_iff.1 hj
          exact hzx hyx
  · rw [if_neg h]
    have hn := place_none hs hi (by simpa using h)
    simp only [List.mem_append, List.mem_cons]
    have htd : z ∈ l ↔ z ∈ l.take i ∨ z ∈ l.drop i := by rw [← List.mem_append, List.take_append_drop]
    constructor
    · rintro (h1 | rfl | h1)
      · exact .inr ⟨htd.2 (.inl h1), hn z (htd.2 (.inl h1))⟩
      · exact .inl rfl
      · exact .inr ⟨htd.2 (.inr h1), hn z (htd.2 (.inr h1))⟩
    · rintro (rfl | ⟨h1, -⟩)
      · exact .inr (.inl rfl)
      · rcases htd.1 h1 with h2 | h2
        · exact .inl h2
        · exact .inr (.inr h2)
theorem set_rise {l : List Rn} {i : Nat} {y : Rn} {v : Int} (hs : l.Pairwise (fun x y => x.loc < y.loc)) (hy : l[i]? = some y) : (l.set i ⟨y.loc, v⟩).Pairwise (fun x y => x.loc < y.loc) := by
  obtain ⟨q, rfl⟩ := List.getElem?_eq_some_iff.1 hy
  rw [List.pairwise_iff_getElem]
  intro a b ha hb hab
  rw [List.getElem_set, List.getElem_set]
  simp only [List.length_set] at ha hb
  have h := List.pairwise_iff_getElem.1 hs a b ha hb hab
  split
  · rename_i h1
    subst h1
    split
    · omega
    · exact h
  · split
    · rename_i h2
      subst h2
      exact h
    · exact h
theorem ins_rise {l : List Rn} {i : Nat} {x v : Int} (hs : l.Pairwise (fun x y => x.loc < y.loc)) (hi : PlaceOf l x i) (hn : ∀ y ∈ l, y.loc ≠ x) : (l.take i ++ ⟨x, v⟩ :: l.drop i).Pairwise (fun x y => x.loc < y.loc) := by
  have hs2 : (l.take i ++ l.drop i).Pairwise (fun x y => x.loc < y.loc) := by rw [List.take_append_drop]; exact hs
  rw [List.pairwise_append] at hs2 ⊢
  obtain ⟨h1, h2, h3⟩ := hs2
  refine ⟨h1, List.pairwise_cons.2 ⟨fun y hy => ?_, h2⟩, fun a ha b hb => ?_⟩
  · obtain ⟨k, hk⟩ := List.mem_iff_getElem?.1 hy
    rw [List.getElem?_drop] at hk
    have := hi.high (i + k) y (by omega) hk
    have := hn y (List.mem_of_mem_drop hy)
    dsimp only
    omega
  · rcases List.mem_cons.1 hb with rfl | hb
    · rw [List.mem_take_iff_getElem] at ha
      obtain ⟨k, hk, rfl⟩ := ha
      exact hi.low k _ (by omega) (List.getElem?_eq_getElem (by omega))
    · exact h3 a ha b hb
theorem PinsOk.more {l : List Rn} {x v : Int} {i : Nat} (h : PinsOk l) (hi : PlaceOf l x i) (hx : thereB x = true) (h1 : 1 ≤ v) (h2 : v ≤ 1000000) (hl : hasAt l x i = true ∨ l.length < 16) : PinsOk (moreP l x i v) := by
  refine ⟨?_, fun z hz => ?_, ?_⟩
  · unfold moreP
    have := h.len
    split
    · rw [List.length_set]; exact this
    · rename_i hh
      have h3 : l.length < 16 := hl.resolve_left hh
      rw [List.length_append, List.length_cons, List.length_take, List.length_drop]
      have := hi.le
      omega
  · rcases (moreP_mem hi h.rise z).1 hz with rfl | ⟨hz, -⟩
    · exact bad_no.2 ⟨hx, h1, h2⟩
    · exact h.ok z hz
  · unfold moreP
    split
    · rename_i hh
      obtain ⟨y, hy, rfl⟩ := hasAt_some hh
      exact set_rise h.rise hy
    · rename_i hh
      exact ins_rise h.rise hi (place_none h.rise hi (by simpa using hh))
theorem PlaceOf.more {l : List Rn} {x v : Int} {i : Nat} (_ : PinsOk l) (hi : PlaceOf l x i) : PlaceOf (moreP l x i v) x i ∧ (moreP l x i v)[i]? = some ⟨x, v⟩ := by
  unfold moreP
  by_cases hh : hasAt l x i = true
  · obtain ⟨y, hy, rfl⟩ := hasAt_some hh
    obtain ⟨q, rfl⟩ := List.getElem?_eq_some_iff.1 hy
    rw [if_pos hh]
    refine ⟨⟨by rw [List.length_set]; omega, fun k z hk hz => ?_, fun k z hk hz => ?_⟩, List.getElem?_set_self q⟩
    · rw [List.getElem?_set_ne (by omega)] at hz
      exact hi.low k z hk hz
    · by_cases hki : k = i
      · subst hki
        rw [List.getElem?_set_self q] at hz
        injection hz with hz
        subst hz
        exact Int.le_refl _
      · rw [List.getElem?_set_ne (by omega)] at hz
        exact hi.high k z hk hz
  · rw [if_neg hh]
    have hle := hi.le
    have hlt : (l.take i).length = i := by rw [List.length_take]; omega
    refine ⟨⟨by rw [List.length_append, List.length_cons, hlt]; omega, fun k z hk hz => ?_, fun k z hk hz => ?_⟩, by rw [List.getElem?_append_right (by omega), hlt, Nat.sub_self]; rfl⟩
    · rw [List.getElem?_append_left (by omega), List.getElem?_take, if_pos hk] at hz
      exact hi.low k z hk hz
    · rw [List.getElem?_append_right (by omega), hlt] at hz
      obtain ⟨d, hd⟩ : ∃ d, k = i + d := ⟨k - i, by omega⟩
      subst hd
      rw [show i + d - i = d by omega] at hz
      cases d with
      | zero =>
        simp only [List.getElem?_cons_zero, Option.some.injEq] at hz
        subst hz
        exact Int.le_refl _
      | succ d =>
        rw [List.getElem?_cons_succ, List.getElem?_drop] at hz
        exact hi.high (i + d) z (by omega) hz
theorem countP_more {l : List Rn} {x v : Int} {i : Nat} (h : PinsOk l) (h' : PinsOk (moreP l x i v)) (hi : PlaceOf l x i) (z : Int) : countP (moreP l x i v) z = if z = x then v else countP l z := by
  by_cases hz : z = x
  · subst hz
    rw [if_pos rfl]
    exact countP_some h' (y := ⟨z, v⟩) ((moreP_mem hi h.rise _).2 (.inl rfl))
  · rw [if_neg hz]
    cases hf : l.find? (fun y => decide (y.loc = z)) with
    | none =>
      have hn := List.find?_eq_none.1 hf
      rw [countP_none (fun y hy => ?_), countP_none (fun y hy => by simpa using hn y hy)]
      rcases (moreP_mem hi h.rise y).1 hy with rfl | ⟨hy, -⟩
      · exact fun e => hz e.symm
      · simpa using hn y hy
    | some y =>
      have h1 := List.find?_some hf
      have h2 := List.mem_of_find?_eq_some hf
      simp only [decide_eq_true_eq] at h1
      subst h1
      rw [countP_some h h2, countP_some h' ((moreP_mem hi h.rise _).2 (.inr ⟨h2, hz⟩))]
/-- One less. -/
def lessP (l : List Rn) (i : Nat) (x v : Int) : List Rn := if v = 0 then l.take i ++ l.drop (i + 1) else l.set i ⟨x, v⟩
theorem less_more {l : List Rn} {x : Int} {i : Nat} (h : PinsOk l) (hi : PlaceOf l x i) : lessP (moreP l x i (countP l x + 1)) i x (countP l x) = l := by
  by_cases hh : hasAt l x i = true
  · obtain ⟨y, hy, rfl⟩ := hasAt_some hh
    have hym := List.mem_of_getElem? hy
    have hb := bad_no.1 (h.ok y hym)
    rw [countP_some h hym]
    unfold lessP moreP
    rw [if_pos hh, if_neg (by omega), List.set_set]
    obtain ⟨q, rfl⟩ := List.getElem?_eq_some_iff.1 hy
    exact List.set_getElem_self q
  · rw [countP_none (place_none h.rise hi (by simpa using hh))]
    unfold lessP moreP
    have hlt : (l.take i).length = i := by rw [List.length_take]; have := hi.le; omega
    rw [if_neg hh, if_pos rfl, List.take_append_of_le_length (by omega), List.take_of_length_le (by omega), List.drop_append, List.drop_of_length_le (by omega), hlt, show i + 1 - i = 1 by omega, List.drop_succ_cons, List.drop_zero, List.nil_append, List.take_append_drop]
end Go.Proofs.Ytbmkbnalembbjaa
