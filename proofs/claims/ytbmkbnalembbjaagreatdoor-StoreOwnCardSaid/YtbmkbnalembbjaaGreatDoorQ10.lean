/-
  Texts joined: PinFind PinLaw InsertPin DeletePin PinAdd.
-/
import Derived.Test.YtbmkbnalembbjaaGreatDoorRows
import Derived.Deep.RegionHeld3
import Derived.StillTailTactics
import Derived.Test.YtbmkbnalembbjaaGreatDoorQ0
import Derived.Test.YtbmkbnalembbjaaGreatDoorQ2
import Derived.Test.YtbmkbnalembbjaaGreatDoorQ9
namespace Go.Proofs.YtbmkbnalembbjaaGreatDoor
open Go.RowKit
set_option maxHeartbeats 400000 in
theorem isNaN_intP (x : Int) (w : World) : Calls Tryz.prog 155 #[.int .i64 x] w fun e w' => e = .returned (.bool false) ∧ w' = w := by
  go_enter Tryz.func155, Tryz.ntmps155
  go_wp2
  go_ret
  exact ⟨by first | rfl | simp, rfl⟩
def cmpI (x y : Int) : Int := if x < y then -1 else if y < x then 1 else 0
set_option maxHeartbeats 400000 in
theorem cmp_int (x y : Int) (w : World) : Calls Tryz.prog 137 #[.int .i64 x, .int .i64 y] w fun e w' => e = .returned (.int .i64 (cmpI x y)) ∧ w' = w := by
  have H := Lib.hid isNaN_intP
  unfold cmpI
  by_cases h1 : x < y
  · have g1 : decide (x < y) = true := decide_eq_true h1
    rw [if_pos h1]
    go_enter Tryz.func137, Tryz.ntmps137
    go_wp2_with fail
    refine (H.out _ _).mono ?_
    rintro e w1 ⟨rfl, rfl⟩
    go_wp2_with fail
    refine (H.out _ _).mono ?_
    rintro e w1 ⟨rfl, rfl⟩
    go_wp2
    go_ret
    exact ⟨rfl, rfl⟩
  · have g1 : decide (x < y) = false := decide_eq_false h1
    rw [if_neg h1]
    by_cases h2 : y < x
    · have g2 : decide (y < x) = true := decide_eq_true h2
      rw [if_pos h2]
      go_enter Tryz.func137, Tryz.ntmps137
      go_wp2_with fail
      refine (H.out _ _).mono ?_
      rintro e w1 ⟨rfl, rfl⟩
      go_wp2_with fail
      refine (H.out _ _).mono ?_
      rintro e w1 ⟨rfl, rfl⟩
      go_wp2
      go_ret
      exact ⟨rfl, rfl⟩
    · have g2 : decide (y < x) = false := decide_eq_false h2
      rw [if_neg h2]
      go_enter Tryz.func137, Tryz.ntmps137
      go_wp2_with fail
      refine (H.out _ _).mono ?_
      rintro e w1 ⟨rfl, rfl⟩
      go_wp2_with fail
      refine (H.out _ _).mono ?_
      rintro e w1 ⟨rfl, rfl⟩
      go_wp2
      go_ret
      exact ⟨rfl, rfl⟩
set_option maxHeartbeats 400000 in
theorem find1_any (x y at_ : Int) (w : World) : Calls Tryz.prog 136 #[.agg #[.int .i64 x, .int .i64 y], .int .i64 at_] w fun e w' => e = .returned (.int .i64 (cmpI x at_)) ∧ Below w.heap.size w w' := by
  have D0 := Blk.new w 57 #[.int .i64 x, .int .i64 y]
  have d0 := D0.cell 0
  simp only [List.getElem?_toArray, List.getElem?_cons_zero] at d0
  have hbn := below_new w (.cells #[.int .i64 x, .int .i64 y] 57)
  have H := Lib.hid (fun w => cmp_int x at_ w)
  generalize cmpI x at_ = q at *
  go_enter Tryz.func136, Tryz.ntmps136
  go_wp2_with fail
  refine (H.out _).mono ?_
  rintro e w1 ⟨rfl, rfl⟩
  go_wp2
  go_ret
  exact ⟨rfl, hbn⟩
structure PlaceOf (l : List Rn) (x : Int) (i : Nat) : Prop where
  le : i ≤ l.length
  low : ∀ (k : Nat) (y : Rn), k < i → l[k]? = some y → y.loc < x
  high : ∀ (k : Nat) (y : Rn), i ≤ k → l[k]? = some y → x ≤ y.loc
theorem PlaceOf.unique {l : List Rn} {x : Int} {i j : Nat} (h : PlaceOf l x i) (h' : PlaceOf l x j) : i = j := by
  rcases Nat.lt_trichotomy i j with h1 | h1 | h1
  · have h2 : i < l.length := by have := h'.le; omega
    have a := h'.low i _ h1 (List.getElem?_eq_getElem h2)
    have b := h.high i _ (Nat.le_refl _) (List.getElem?_eq_getElem h2)
    omega
  · exact h1
  · have h2 : j < l.length := by have := h.le; omega
    have a := h.low j _ h1 (List.getElem?_eq_getElem h2)
    have b := h'.high j _ (Nat.le_refl _) (List.getElem?_eq_getElem h2)
    omega
def hasAt (l : List Rn) (x : Int) (i : Nat) : Bool := (l[i]?).any (fun y => decide (y.loc = x))
set_option maxRecDepth 100000 in
set_option maxHeartbeats 2000000 in
theorem bsearch_any (A : Option Addr) (n c : Nat) (l : List Rn) (x : Int) (w : World) (hr : Reads w w.heap.size 2 A n (runsC l)) (hn : n ≤ 1000000) (hs : l.Pairwise (fun x y => x.loc < y.loc)) :
    Calls Tryz.prog 135 #[.slice A n c, .int .i64 x, .func (.func 136) #[] #[]] w fun e w' => Below w.heap.size w w' ∧ ∃ i : Nat, PlaceOf l x i ∧ e = .returned (.tuple #[.int .i64 i, .bool (hasAt l x i)]) := by
  have hl : l.length = n := by have := hr.1; rw [runsC_length] at this; omega
  have HL := Lib.hid hl
  have HS : Hid (∀ (i j : Nat) (y z : Rn), i ≤ j → l[i]? = some y → l[j]? = some z → y.loc ≤ z.loc) := by
    intro i j y z hij hy hz
    obtain ⟨q1, rfl⟩ := List.getElem?_eq_some_iff.1 hy
    obtain ⟨q2, rfl⟩ := List.getElem?_eq_some_iff.1 hz
    rcases Nat.lt_or_ge i j with h | h
    · have := List.pairwise_iff_getElem.1 hs i j q1 q2 h; omega
    · have : i = j := by omega
      subst this
      exact Int.le_refl _
  have hcf := fun (x y : Value) (w : World) => (plain_of (fn := Tryz.f136) Tryz.func136 (by kernel_rfl) (by kernel_rfl)) #[x, y] w
  have HC := Lib.hid find1_any
  clear hl hs
  go_enter Tryz.func135, Tryz.ntmps135
  go_wp2
  go_loopw [9, 10, 11] (fun u v _ wr => ∃ lo hi : Nat, lo ≤ hi ∧ hi ≤ n ∧ u = .int .i64 lo ∧ v = .int .i64 hi ∧ Hid (∀ (k : Nat) (y : Rn), k < lo → l[k]? = some y → y.loc < x) ∧ Hid (∀ (k : Nat) (y : Rn), hi ≤ k → l[k]? = some y → x ≤ y.loc) ∧ Below w.heap.size w wr) (fun u v _ _ => (intOf v).toNat - (intOf u).toNat)
  case atStart => exact ⟨0, n, Nat.zero_le _, Nat.le_refl _, rfl, rfl, (by intro k y h; omega), (by
    intro k y h hy
    have := (List.getElem?_eq_some_iff.1 hy).1
    have := HL.out
    omega), Below.refl _ _⟩
  case round =>
    obtain ⟨lo, hi, hlh, hhn, rfl, rfl, HLo, HHi, hb⟩ := hrel
    by_cases hlt : lo < hi
    · obtain ⟨h, hh⟩ : ∃ h, h = (lo + hi) / 2 := ⟨_, rfl⟩
      obtain ⟨s, hs⟩ : ∃ s, s = lo + hi := ⟨_, rfl⟩
      have hh2 : h = s / 2 := by rw [hh, hs]
      have hlo : lo ≤ h := by omega
      have hhi : h < hi := by omega
      have hhn2 : h < n := by omega
      have w1 : IntKind.i64.wrap ((lo : Int) + hi) = (s : Int) := by rw [IntWalk.i64_in _ (by omega)]; omega
      have w2 : IntKind.u64.wrap (s : Int) = (s : Int) := by simp [IntKind.wrap, IntKind.signed, IntKind.bits]; omega
      have w3 : (s : Int) / 2 = (h : Int) := by omega
      have w4 : IntKind.i64.wrap (h : Int) = (h : Int) := IntWalk.i64_in _ (by omega)
      have w5 : IntKind.i64.wrap ((h : Int) + 1) = (h : Int) + 1 := IntWalk.i64_in _ (by omega)
      have w6 : IntKind.u64.wrap (h : Int) = (h : Int) := by simp [IntKind.wrap, IntKind.signed, IntKind.bits]; omega
      have hh3 : s / 2 = h := hh2.symm
      have hsl : s ≤ 2000000 := by omega
      obtain ⟨ad, y, rfl, had, hy, c0, c1⟩ := (hr.below hb).run hhn2
      have HY := Lib.hid hy
      obtain ⟨yl, yn⟩ := y
      have HC1 := Lib.hid (HC.out yl yn x wr)
      dsimp only at c0 c1
      clear hh hs hh2 hy
      by_cases hc : yl < x
      · have hcv : cmpI yl x = -1 := by unfold cmpI; rw [if_pos hc]
        rw [hcv] at HC1
        have HLo2 : Hid (∀ (k : Nat) (z : Rn), k < h + 1 → l[k]? = some z → z.loc < x) := fun k z hk hz => by
          have := HS.out k h z ⟨yl, yn⟩ (by omega) hz HY.out
          dsimp only at this
          omega
        clear hcv
        go_wp2_with fail
        refine HC1.out.mono ?_
        rintro e w7 ⟨rfl, hb7⟩
        have hb2 := hb.trans (hb7.mono hb.size)
        go_wp2
        go_roundw
        case rel => exact ⟨h + 1, hi, by omega, hhn, by go_num, rfl, HLo2, HHi, hb2⟩
        case measure => simp [intOf]; omega
      · have hcv : decide (cmpI yl x < 0) = false := by unfold cmpI; rw [if_neg hc]; split <;> decide
        have HHi2 : Hid (∀ (k : Nat) (z : Rn), h ≤ k → l[k]? = some z → x ≤ z.loc) := fun k z hk hz => by
          have := HS.out h k ⟨yl, yn⟩ z hk HY.out hz
          dsimp only at this
          omega
        generalize cmpI yl x = q at *
        go_wp2_with fail
        refine HC1.out.mono ?_
        rintro e w7 ⟨rfl, hb7⟩
        have hb2 := hb.trans (hb7.mono hb.size)
        go_wp2
        go_roundw
        case rel => exact ⟨lo, h, hlo, by omega, rfl, by go_num, HLo, HHi2, hb2⟩
        case measure => simp [intOf]; omega
    · have hle : hi = lo := by omega
      subst hle
      have HPl : Hid (PlaceOf l x hi) := ⟨by rw [HL.out]; exact hhn, HLo.out, HHi.out⟩
      have g0 : decide (hi < hi) = false := decide_eq_false (by omega)
      by_cases hend : hi < n
      · obtain ⟨ad, y, rfl, had, hy, c0, c1⟩ := (hr.below hb).run hend
        obtain ⟨yl, yn⟩ := y
        have HC1 := Lib.hid (HC.out yl yn x wr)
        dsimp only at c0 c1
        have g1 : decide (hi < n) = true := decide_eq_true hend
        have hge : x ≤ yl := HHi.out hi ⟨yl, yn⟩ (Nat.le_refl _) hy
        have hcv : (cmpI yl x == 0) = hasAt l x hi := by
          unfold hasAt cmpI
          rw [hy, if_neg (by omega)]
          by_cases h2 : x < yl
          · rw [if_pos h2]; simp; omega
          · rw [if_neg h2]; simp; omega
        have HCV := Lib.hid hcv
        clear hy hge hcv
        generalize cmpI yl x = q at *
        go_wp2_with fail
        refine HC1.out.mono ?_
        rintro e w7 ⟨rfl, hb7⟩
        have hb2 := hb.trans (hb7.mono hb.size)
        go_wp2
        go_ret2
        exact ⟨hb2, hi, HPl.out, by rw [← HCV.out]; rfl⟩
      · have g1 : decide (hi < n) = false := decide_eq_false hend
        have HCV : Hid (hasAt l x hi = false) := by
          show _ = _
          unfold hasAt
          rw [List.getElem?_eq_none (by rw [HL.out]; omega)]
          rfl
        go_wp2
        go_ret2
        exact ⟨hb, hi, HPl.out, by rw [HCV.out]; rfl⟩
end Go.Proofs.YtbmkbnalembbjaaGreatDoor

namespace Go.Proofs.YtbmkbnalembbjaaGreatDoor
open Go.RowKit
def findE (l : List Rn) (x : Int) : Int := if pinE l ≠ 0 then pinE l else if thereB x = true then 0 else 4
theorem findE_zero {l : List Rn} {x : Int} : findE l x = 0 ↔ PinsOk l ∧ thereB x = true := by
  unfold findE
  rw [← pinE_ok]
  by_cases h : pinE l = 0
  · rw [if_neg (by simp [h])]
    by_cases h2 : thereB x = true
    · rw [if_pos h2]; simp [h, h2]
    · rw [if_neg h2]; simp [h2]
  · rw [if_pos h]; simp [h]
def countP (l : List Rn) (x : Int) : Int := ((l.find? (fun y => decide (y.loc = x))).map (·.len)).getD 0
theorem PinsOk.same {l : List Rn} (h : PinsOk l) {y z : Rn} (hy : y ∈ l) (hz : z ∈ l) (e : y.loc = z.loc) : y = z := by
  obtain ⟨i, hi⟩ := List.mem_iff_getElem?.1 hy
  obtain ⟨j, hj⟩ := List.mem_iff_getElem?.1 hz
  obtain ⟨q1, rfl⟩ := List.getElem?_eq_some_iff.1 hi
  obtain ⟨q2, rfl⟩ := List.getElem?_eq_some_iff.1 hj
  rcases Nat.lt_trichotomy i j with h1 | h1 | h1
  · have := List.pairwise_iff_getElem.1 h.rise i j q1 q2 h1; omega
  · subst h1; rfl
  · have := List.pairwise_iff_getElem.1 h.rise j i q2 q1 h1; omega
theorem countP_some {l : List Rn} (h : PinsOk l) {y : Rn} (hy : y ∈ l) : countP l y.loc = y.len := by
  unfold countP
  cases hf : l.find? (fun z => decide (z.loc = y.loc)) with
  | none => exact absurd (List.find?_eq_none.1 hf y hy) (by simp)
  | some z =>
    have h1 := List.find?_some hf
    have h2 := List.mem_of_find?_eq_some hf
    simp only [decide_eq_true_eq] at h1
    rw [h.same h2 hy h1]
    rfl
theorem countP_none {l : List Rn} {x : Int} (h : ∀ y ∈ l, y.loc ≠ x) : countP l x = 0 := by
  unfold countP
  rw [List.find?_eq_none.2 (fun y hy => by simpa using h y hy)]
  rfl
theorem place_none {l : List Rn} {x : Int} {i : Nat} (hs : l.Pairwise (fun x y => x.loc < y.loc)) (h : PlaceOf l x i) (hh : hasAt l x i = false) : ∀ y ∈ l, y.loc ≠ x := by
  intro y hy e
  obtain ⟨j, hj⟩ := List.mem_iff_getElem?.1 hy
  rcases Nat.lt_trichotomy j i with h1 | h1 | h1
  · have := h.low j y h1 hj; omega
  · subst h1
    unfold hasAt at hh
    rw [hj] at hh
    simp [e] at hh
  · obtain ⟨q, rfl⟩ := List.getElem?_eq_some_iff.1 hj
    have hi : i < l.length := by omega
    have h2 := h.high i _ (Nat.le_refl _) (List.getElem?_eq_getElem hi)
    have h3 := List.pairwise_iff_getElem.1 hs i j hi q h1
    omega
theorem hasAt_some {l : List Rn} {x : Int} {i : Nat} (h : hasAt l x i = true) : ∃ y, l[i]? = some y ∧ y.loc = x := by
  unfold hasAt at h
  cases hl : l[i]? with
  | none => rw [hl] at h; cases h
  | some y => rw [hl] at h; exact ⟨y, rfl, by simpa using h⟩
theorem bad_no {x y : Int} : pinBad ⟨x, y⟩ = false ↔ (thereB x = true ∧ 1 ≤ y ∧ y ≤ 1000000) := by
  unfold pinBad thereB
  simp only [Bool.or_eq_false_iff, Bool.not_eq_false', decide_eq_false_iff_not, and_assoc]
  constructor
  · rintro ⟨a, b, c⟩; exact ⟨a, by omega, by omega⟩
  · rintro ⟨a, b, c⟩; exact ⟨a, by omega, by omega⟩
def moreP (l : List Rn) (x : Int) (i : Nat) (v : Int) : List Rn := if hasAt l x i = true then l.set i ⟨x, v⟩ else l.take i ++ ⟨x, v⟩ :: l.drop i
theorem moreP_mem {l : List Rn} {x v : Int} {i : Nat} (hi : PlaceOf l x i) (hs : l.Pairwise (fun x y => x.loc < y.loc)) (z : Rn) : z ∈ moreP l x i v ↔ z = ⟨x, v⟩ ∨ z ∈ l ∧ z.loc ≠ x := by
  unfold moreP
  by_cases h : hasAt l x i = true
  · obtain ⟨y, hy, hyx⟩ := hasAt_some h
    obtain ⟨q, rfl⟩ := List.getElem?_eq_some_iff.1 hy
    rw [if_pos h]
    rw [List.mem_iff_getElem?]
    constructor
    · rintro ⟨j, hj⟩
      by_cases hji : j = i
      · subst hji
        rw [List.getElem?_set_self q] at hj
        exact .inl (by injection hj with hj; exact hj.symm)
      · rw [List.getElem?_set_ne (by omega)] at hj
        obtain ⟨q2, rfl⟩ := List.getElem?_eq_some_iff.1 hj
        refine .inr ⟨List.getElem_mem q2, fun e => ?_⟩
        rcases Nat.lt_or_ge j i with h1 | h1
        · have := List.pairwise_iff_getElem.1 hs j i q2 q h1; omega
        · have := List.pairwise_iff_getElem.1 hs i j q q2 (by omega); omega
    · rintro (rfl | ⟨hz, hzx⟩)
      · exact ⟨i, List.getElem?_set_self q⟩
      · obtain ⟨j, hj⟩ := List.mem_iff_getElem?.1 hz
        refine ⟨j, ?_⟩
        rw [List.getElem?_set_ne ?_]
        · exact hj
        · rintro rfl
          obtain ⟨_, rfl⟩ := List.getElem?_eq_some_iff.1 hj
          exact hzx hyx
  · rw [if_neg h]
    have hn := place_none hs hi (by simpa using h)
    simp only [List.mem_append, List.mem_cons]
    have htd : z ∈ l ↔ z ∈ l.take i ∨ z ∈ l.drop i := by rw [← List.mem_append, List.take_append_drop]
    constructor
    · rintro (h1 | rfl | h1)
      · exact .inr ⟨htd.2 (.inl h1), hn z (htd.2 (.inl h1))⟩
      · exact .inl rfl
      · exact .inr ⟨htd.2 (.inr h1), hn z (htd.2 (.inr h1))⟩
    · rintro (rfl | ⟨h1, -⟩)
      · exact .inr (.inl rfl)
      · rcases htd.1 h1 with h2 | h2
        · exact .inl h2
        · exact .inr (.inr h2)
theorem set_rise {l : List Rn} {i : Nat} {y : Rn} {v : Int} (hs : l.Pairwise (fun x y => x.loc < y.loc)) (hy : l[i]? = some y) : (l.set i ⟨y.loc, v⟩).Pairwise (fun x y => x.loc < y.loc) := by
  obtain ⟨q, rfl⟩ := List.getElem?_eq_some_iff.1 hy
  rw [List.pairwise_iff_getElem]
  intro a b ha hb hab
  rw [List.getElem_set, List.getElem_set]
  simp only [List.length_set] at ha hb
  have h := List.pairwise_iff_getElem.1 hs a b ha hb hab
  split
  · rename_i h1
    subst h1
    split
    · omega
    · exact h
  · split
    · rename_i h2
      subst h2
      exact h
    · exact h
theorem ins_rise {l : List Rn} {i : Nat} {x v : Int} (hs : l.Pairwise (fun x y => x.loc < y.loc)) (hi : PlaceOf l x i) (hn : ∀ y ∈ l, y.loc ≠ x) : (l.take i ++ ⟨x, v⟩ :: l.drop i).Pairwise (fun x y => x.loc < y.loc) := by
  have hs2 : (l.take i ++ l.drop i).Pairwise (fun x y => x.loc < y.loc) := by rw [List.take_append_drop]; exact hs
  rw [List.pairwise_append] at hs2 ⊢
  obtain ⟨h1, h2, h3⟩ := hs2
  refine ⟨h1, List.pairwise_cons.2 ⟨fun y hy => ?_, h2⟩, fun a ha b hb => ?_⟩
  · obtain ⟨k, hk⟩ := List.mem_iff_getElem?.1 hy
    rw [List.getElem?_drop] at hk
    have := hi.high (i + k) y (by omega) hk
    have := hn y (List.mem_of_mem_drop hy)
    dsimp only
    omega
  · rcases List.mem_cons.1 hb with rfl | hb
    · rw [List.mem_take_iff_getElem] at ha
      obtain ⟨k, hk, rfl⟩ := ha
      exact hi.low k _ (by omega) (List.getElem?_eq_getElem (by omega))
    · exact h3 a ha b hb
theorem PinsOk.more {l : List Rn} {x v : Int} {i : Nat} (h : PinsOk l) (hi : PlaceOf l x i) (hx : thereB x = true) (h1 : 1 ≤ v) (h2 : v ≤ 1000000) (hl : hasAt l x i = true ∨ l.length < 16) : PinsOk (moreP l x i v) := by
  refine ⟨?_, fun z hz => ?_, ?_⟩
  · unfold moreP
    have := h.len
    split
    · rw [List.length_set]; exact this
    · rename_i hh
      have h3 : l.length < 16 := hl.resolve_left hh
      rw [List.length_append, List.length_cons, List.length_take, List.length_drop]
      have := hi.le
      omega
  · rcases (moreP_mem hi h.rise z).1 hz with rfl | ⟨hz, -⟩
    · exact bad_no.2 ⟨hx, h1, h2⟩
    · exact h.ok z hz
  · unfold moreP
    split
    · rename_i hh
      obtain ⟨y, hy, rfl⟩ := hasAt_some hh
      exact set_rise h.rise hy
    · rename_i hh
      exact ins_rise h.rise hi (place_none h.rise hi (by simpa using hh))
theorem PlaceOf.more {l : List Rn} {x v : Int} {i : Nat} (_ : PinsOk l) (hi : PlaceOf l x i) : PlaceOf (moreP l x i v) x i ∧ (moreP l x i v)[i]? = some ⟨x, v⟩ := by
  unfold moreP
  by_cases hh : hasAt l x i = true
  · obtain ⟨y, hy, rfl⟩ := hasAt_some hh
    obtain ⟨q, rfl⟩ := List.getElem?_eq_some_iff.1 hy
    rw [if_pos hh]
    refine ⟨⟨by rw [List.length_set]; omega, fun k z hk hz => ?_, fun k z hk hz => ?_⟩, List.getElem?_set_self q⟩
    · rw [List.getElem?_set_ne (by omega)] at hz
      exact hi.low k z hk hz
    · by_cases hki : k = i
      · subst hki
        rw [List.getElem?_set_self q] at hz
        injection hz with hz
        subst hz
        exact Int.le_refl _
      · rw [List.getElem?_set_ne (by omega)] at hz
        exact hi.high k z hk hz
  · rw [if_neg hh]
    have hle := hi.le
    have hlt : (l.take i).length = i := by rw [List.length_take]; omega
    refine ⟨⟨by rw [List.length_append, List.length_cons, hlt]; omega, fun k z hk hz => ?_, fun k z hk hz => ?_⟩, by rw [List.getElem?_append_right (by omega), hlt, Nat.sub_self]; rfl⟩
    · rw [List.getElem?_append_left (by omega), List.getElem?_take, if_pos hk] at hz
      exact hi.low k z hk hz
    · rw [List.getElem?_append_right (by omega), hlt] at hz
      obtain ⟨d, hd⟩ : ∃ d, k = i + d := ⟨k - i, by omega⟩
      subst hd
      rw [show i + d - i = d by omega] at hz
      cases d with
      | zero =>
        simp only [List.getElem?_cons_zero, Option.some.injEq] at hz
        subst hz
        exact Int.le_refl _
      | succ d =>
        rw [List.getElem?_cons_succ, List.getElem?_drop] at hz
        exact hi.high (i + d) z (by omega) hz
def lessP (l : List Rn) (i : Nat) (x v : Int) : List Rn := if v = 0 then l.take i ++ l.drop (i + 1) else l.set i ⟨x, v⟩
end Go.Proofs.YtbmkbnalembbjaaGreatDoor

namespace Go.Proofs.YtbmkbnalembbjaaGreatDoor
open Go.RowKit
theorem take_preP {α : Type} (Z : List α) (I : Nat) (vs : List α) (h : I ≤ Z.length) : (splice Z I vs).take (I + vs.length) = Z.take I ++ vs := by
  unfold splice
  rw [← List.append_assoc, List.take_append_of_le_length (by simp; omega), List.take_of_length_le (by simp; omega)]
theorem spliceAP {α : Type} (Z : List α) (I : Nat) (vs T : List α) (h : I + vs.length + T.length ≤ Z.length) :
    (splice (splice Z I vs) (I + vs.length) T).take (I + vs.length + T.length) = Z.take I ++ (vs ++ T) := by
  rw [take_preP _ _ _ (by rw [length_splice _ _ _ (by omega)]; omega), take_preP _ _ _ (by omega), List.append_assoc]
theorem spliceBP {α : Type} (Z : List α) (I : Nat) (vs T : List α) (h : I + vs.length + T.length ≤ Z.length) :
    (splice (splice Z (I + vs.length) T) I vs).take (I + vs.length + T.length) = Z.take I ++ (vs ++ T) := by
  have h1 : (splice Z (I + vs.length) T).take I = Z.take I := by
    unfold splice
    rw [List.take_append_of_le_length (by simp; omega), List.take_take, Nat.min_eq_left (by omega)]
  have h2 : ((splice Z (I + vs.length) T).drop (I + vs.length)).take T.length = T := by
    unfold splice
    rw [List.drop_append_of_le_length (by simp; omega), List.drop_of_length_le (by simp; omega), List.nil_append, List.take_left]
  unfold splice at h1 h2 ⊢
  rw [h1, ← List.append_assoc, List.take_append, List.take_of_length_le (by simp; omega)]
  rw [show I + vs.length + T.length - (Z.take I ++ vs).length = T.length by simp; omega, h2, List.append_assoc]
theorem k_size_pin : (Tryz.prog.info? 57).map (·.size) = some 2 := by kernel_rfl
theorem splice_lenP {α : Type} (Z : List α) (I : Nat) (cs : List α) (h : I + cs.length ≤ Z.length) : (splice Z I cs).length = Z.length := length_splice Z I cs h
end Go.Proofs.YtbmkbnalembbjaaGreatDoor

namespace Go.Proofs.YtbmkbnalembbjaaGreatDoor
open Go.RowKit
theorem k_zero_pin : (Tryz.prog.info? 57).map (·.zero) = some (some (.agg #[.int .i64 0, .int .i64 0])) := by kernel_rfl
theorem zero_pin1 : (Builtin.zeroCells (Value.agg #[.int .i64 0, .int .i64 0]).cells 1).toList = [.int .i64 0, .int .i64 0] := by kernel_rfl
end Go.Proofs.YtbmkbnalembbjaaGreatDoor

namespace Go.Proofs.YtbmkbnalembbjaaGreatDoor
open Go.RowKit
set_option maxHeartbeats 1000000 in
theorem pfind_any (A : Option Addr) (n c : Nat) (l : List Rn) (x : Int) (w : World) (hr : Reads w w.heap.size 2 A n (runsC l)) (hn : n ≤ 1000000000000000000) :
    Calls Tryz.prog 110 #[.slice A n c, .int .i64 x] w fun e w' => Below w.heap.size w w' ∧
      ((findE l x = 0 ∧ ∃ i : Nat, PlaceOf l x i ∧ e = .returned (.tuple #[.int .i64 i, .bool (hasAt l x i), .int .i64 0])) ∨ ((findE l x != 0) = true ∧ e = .returned (.tuple #[.int .i64 0, .bool false, .int .i64 (findE l x)]))) := by
  have hl : l.length = n := by have := hr.1; rw [runsC_length] at this; omega
  have H1 := Lib.hid (fun w hr => pcheck_any A n c l w hr (by omega))
  have H2 := Lib.hid (fun w => pthere_any x w)
  by_cases hE : pinE l = 0
  · have hok := pinE_ok.1 hE
    have hn16 : n ≤ 16 := by have := hok.len; omega
    have H3 := Lib.hid (fun w hr => bsearch_any A n c l x w hr (by omega) hok.rise)
    rw [hE] at H1
    cases hth : thereB x
    · rw [hth] at H2
      have HF : Hid (findE l x = 4) := by show _ = _; unfold findE; rw [if_neg (by simp [hE]), hth]; rfl
      clear hE hok hth hl
      go_enter Tryz.func110, Tryz.ntmps110
      go_wp2_with fail
      refine (H1.out _ hr).mono ?_
      rintro e w1 ⟨rfl, hb1⟩
      go_wp2_with fail
      refine (H2.out _).mono ?_
      rintro e w2 ⟨rfl, rfl⟩
      go_wp2
      go_ret3
      exact ⟨hb1, .inr ⟨by rw [HF.out]; rfl, by rw [HF.out]; rfl⟩⟩
    · rw [hth] at H2
      have HF : Hid (findE l x = 0) := findE_zero.2 ⟨hok, hth⟩
      clear hE hok hth hl
      go_enter Tryz.func110, Tryz.ntmps110
      go_wp2_with fail
      refine (H1.out _ hr).mono ?_
      rintro e w1 ⟨rfl, hb1⟩
      go_wp2_with fail
      refine (H2.out _).mono ?_
      rintro e w2 ⟨rfl, rfl⟩
      go_wp2_with fail
      refine (H3.out _ ((hr.below hb1).more hb1.size)).mono ?_
      rintro e w3 ⟨hb3, i, hi, rfl⟩
      have HI := Lib.hid hi
      clear hi
      go_wp2
      go_ret3
      exact ⟨below_step hb1 hb3, .inl ⟨HF.out, i, HI.out, rfl⟩⟩
  · have HF : Hid (findE l x = pinE l) := by show _ = _; unfold findE; rw [if_pos hE]
    have hE1 : (pinE l != 0) = true := by simpa using hE
    have hE2 : (pinE l == 0) = false := by simpa using hE
    generalize pinE l = E at *
    clear hE hl
    go_enter Tryz.func110, Tryz.ntmps110
    go_wp2_with fail
    refine (H1.out _ hr).mono ?_
    rintro e w1 ⟨rfl, hb1⟩
    go_wp2
    go_ret3
    exact ⟨hb1, .inr ⟨by rw [HF.out]; exact hE1, by rw [HF.out]; rfl⟩⟩
theorem runsC_set : ∀ (l : List Rn) (i : Nat) (y : Rn) (v : Int), l[i]? = some y → (runsC l).set (i * 2 + 1) (.int .i64 v) = runsC (l.set i ⟨y.loc, v⟩)
  | [], i, y, v, h => by simp at h
  | x :: l, 0, y, v, h => by
    simp only [List.getElem?_cons_zero, Option.some.injEq] at h
    subst h
    rfl
  | x :: l, i + 1, y, v, h => by
    have ih := runsC_set l i y v (by simpa using h)
    rw [show (i + 1) * 2 + 1 = (i * 2 + 1) + 1 + 1 by omega, List.set_cons_succ]
    show (runC x ++ runsC l).set _ _ = runC x ++ runsC (l.set i ⟨y.loc, v⟩)
    rw [← ih]
    rfl
theorem runsC_take (l : List Rn) (i : Nat) : (runsC l).take (i * 2) = runsC (l.take i) := by
  induction l generalizing i with
  | nil => simp [runsC]
  | cons x l ih =>
    cases i with
    | zero => simp [runsC]
    | succ i =>
      rw [show (i + 1) * 2 = i * 2 + 1 + 1 by omega]
      show (Value.int .i64 x.loc :: Value.int .i64 x.len :: runsC l).take _ = _
      rw [List.take_succ_cons, List.take_succ_cons, ih]
      rfl
theorem runsC_drop (l : List Rn) (i : Nat) : (runsC l).drop (i * 2) = runsC (l.drop i) := by
  induction l generalizing i with
  | nil => simp [runsC]
  | cons x l ih =>
    cases i with
    | zero => simp [runsC]
    | succ i =>
      rw [show (i + 1) * 2 = i * 2 + 1 + 1 by omega]
      show (Value.int .i64 x.loc :: Value.int .i64 x.len :: runsC l).drop _ = _
      rw [List.drop_succ_cons, List.drop_succ_cons, ih]
      rfl
theorem runsC_append (l l' : List Rn) : runsC (l ++ l') = runsC l ++ runsC l' := by simp [runsC]
def PinRes (base : Nat) (l : List Rn) (v : Int) (e : Ending) (w : World) : Prop :=
  ∃ (A : Option Addr) (c : Nat), e = .returned (.tuple #[.slice A l.length c, .int .i64 v, .int .i64 0]) ∧ w.ownsRow base 57 2 (.slice A l.length c) l.length (runsC l)
def addE (l : List Rn) (x : Int) : Int := if findE l x ≠ 0 then findE l x else 7
end Go.Proofs.YtbmkbnalembbjaaGreatDoor
