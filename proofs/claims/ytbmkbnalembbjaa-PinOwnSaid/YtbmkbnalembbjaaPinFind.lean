/-
  package pin: find, Many; slices.BinarySearchFunc at pins; cmp.Compare at int.
-/
import Derived.Test.YtbmkbnalembbjaaPin
namespace Go.Proofs.Ytbmkbnalembbjaa
open Go.RowKit

set_option maxHeartbeats 400000 in
theorem isNaN_intP (x : Int) (w : World) : Calls Try.prog 88 #[.int .i64 x] w fun e w' => e = .returned (.bool false) ∧ w' = w := by
  go_enter Try.func88, Try.ntmps88
  go_wp2
  go_ret
  exact ⟨by first | rfl | simp, rfl⟩
def cmpI (x y : Int) : Int := if x < y then -1 else if y < x then 1 else 0
set_option maxHeartbeats 400000 in
theorem cmp_int (x y : Int) (w : World) : Calls Try.prog 65 #[.int .i64 x, .int .i64 y] w fun e w' => e = .returned (.int .i64 (cmpI x y)) ∧ w' = w := by
  have H := Lib.hid isNaN_intP
  unfold cmpI
  by_cases h1 : x < y
  · have g1 : decide (x < y) = true := decide_eq_true h1
    rw [if_pos h1]
    go_enter Try.func65, Try.ntmps65
    go_wp2_with fail
    refine (H.out _ _).mono ?_
    rintro e w1 ⟨rfl, rfl⟩
    go_wp2_with fail
    refine (H.out _ _).mono ?_
    rintro e w1 ⟨rfl, rfl⟩
    go_wp2
    go_ret
    exact ⟨rfl, rfl⟩
  · have g1 : decide (x < y) = false := decide_eq_false h1
    rw [if_neg h1]
    by_cases h2 : y < x
    · have g2 : decide (y < x) = true := decide_eq_true h2
      rw [if_pos h2]
      go_enter Try.func65, Try.ntmps65
      go_wp2_with fail
      refine (H.out _ _).mono ?_
      rintro e w1 ⟨rfl, rfl⟩
      go_wp2_with fail
      refine (H.out _ _).mono ?_
      rintro e w1 ⟨rfl, rfl⟩
      go_wp2
      go_ret
      exact ⟨rfl, rfl⟩
    · have g2 : decide (y < x) = false := decide_eq_false h2
      rw [if_neg h2]
      go_enter Try.func65, Try.ntmps65
      go_wp2_with fail
      refine (H.out _ _).mono ?_
      rintro e w1 ⟨rfl, rfl⟩
      go_wp2_with fail
      refine (H.out _ _).mono ?_
      rintro e w1 ⟨rfl, rfl⟩
      go_wp2
      go_ret
      exact ⟨rfl, rfl⟩
set_option maxHeartbeats 400000 in
theorem find1_any (x y at_ : Int) (w : World) : Calls Try.prog 64 #[.agg #[.int .i64 x, .int .i64 y], .int .i64 at_] w fun e w' => e = .returned (.int .i64 (cmpI x at_)) ∧ Below w.heap.size w w' := by
  have D0 := Blk.new w 47 #[.int .i64 x, .int .i64 y]
  have d0 := D0.cell 0
  simp only [List.getElem?_toArray, List.getElem?_cons_zero] at d0
  have hbn := below_new w (.cells #[.int .i64 x, .int .i64 y] 47)
  have H := Lib.hid (fun w => cmp_int x at_ w)
  generalize cmpI x at_ = q at *
  go_enter Try.func64, Try.ntmps64
  go_wp2_with fail
  refine (H.out _).mono ?_
  rintro e w1 ⟨rfl, rfl⟩
  go_wp2
  go_ret
  exact ⟨rfl, hbn⟩

/-- Where a word's pin stands, or would. -/
structure PlaceOf (l : List Rn) (x : Int) (i : Nat) : Prop where
  le : i ≤ l.length
  low : ∀ (k : Nat) (y : Rn), k < i → l[k]? = some y → y.loc < x
  high : ∀ (k : Nat) (y : Rn), i ≤ k → l[k]? = some y → x ≤ y.loc
theorem PlaceOf.unique {l : List Rn} {x : Int} {i j : Nat} (h : PlaceOf l x i) (h' : PlaceOf l x j) : i = j := by
  rcases Nat.lt_trichotomy i j with h1 | h1 | h1
  · have h2 : i < l.length := by have := h'.le; omega
    have a := h'.low i _ h1 (List.getElem?_eq_getElem h2)
    have b := h.high i _ (Nat.le_refl _) (List.getElem?_eq_getElem h2)
    omega
  · exact h1
  · have h2 : j < l.length := by have := h.le; omega
    have a := h.low j _ h1 (List.getElem?_eq_getElem h2)
    have b := h'.high j _ (Nat.le_refl _) (List.getElem?_eq_getElem h2)
    omega
def hasAt (l : List Rn) (x : Int) (i : Nat) : Bool := (l[i]?).any (fun y => decide (y.loc = x))

set_option maxRecDepth 100000 in
set_option maxHeartbeats 2000000 in
theorem bsearch_any (A : Option Addr) (n c : Nat) (l : List Rn) (x : Int) (w : World) (hr : Reads w w.heap.size 2 A n (runsC l)) (hn : n ≤ 1000000) (hs : l.Pairwise (fun x y => x.loc < y.loc)) :
    Calls Try.prog 63 #[.slice A n c, .int .i64 x, .func (.func 64) #[] #[]] w fun e w' => Below w.heap.size w w' ∧ ∃ i : Nat, PlaceOf l x i ∧ e = .returned (.tuple #[.int .i64 i, .bool (hasAt l x i)]) := by
  have hl : l.length = n := by have := hr.1; rw [runsC_length] at this; omega
  have HL := Lib.hid hl
  have HS : Hid (∀ (i j : Nat) (y z : Rn), i ≤ j → l[i]? = some y → l[j]? = some z → y.loc ≤ z.loc) := by
    intro i j y z hij hy hz
    obtain ⟨q1, rfl⟩ := List.getElem?_eq_some_iff.1 hy
    obtain ⟨q2, rfl⟩ := List.getElem?_eq_some_iff.1 hz
    rcases Nat.lt_or_ge i j with h | h
    · have := List.pairwise_iff_getElem.1 hs i j q1 q2 h; omega
    · have : i = j := by omega
      subst this
      exact Int.le_refl _
  have hcf := fun (x y : Value) (w : World) => (plain_of (fn := Try.f64) Try.func64 (by kernel_rfl) (by kernel_rfl)) #[x, y] w
  have HC := Lib.hid find1_any
  clear hl hs
  go_enter Try.func63, Try.ntmps63
  go_wp2
  go_loopw [9, 10, 11] (fun u v _ wr => ∃ lo hi : Nat, lo ≤ hi ∧ hi ≤ n ∧ u = .int .i64 lo ∧ v = .int .i64 hi ∧ Hid (∀ (k : Nat) (y : Rn), k < lo → l[k]? = some y → y.loc < x) ∧ Hid (∀ (k : Nat) (y : Rn), hi ≤ k → l[k]? = some y → x ≤ y.loc) ∧ Below w.heap.size w wr) (fun u v _ _ => (intOf v).toNat - (intOf u).toNat)
  case atStart => exact ⟨0, n, Nat.zero_le _, Nat.le_refl _, rfl, rfl, (by intro k y h; omega), (by
    intro k y h hy
    have := (List.getElem?_eq_some_iff.1 hy).1
    have := HL.out
    omega), Below.refl _ _⟩
  case round =>
    obtain ⟨lo, hi, hlh, hhn, rfl, rfl, HLo, HHi, hb⟩ := hrel
    by_cases hlt : lo < hi
    · obtain ⟨h, hh⟩ : ∃ h, h = (lo + hi) / 2 := ⟨_, rfl⟩
      obtain ⟨s, hs⟩ : ∃ s, s = lo + hi := ⟨_, rfl⟩
      have hh2 : h = s / 2 := by rw [hh, hs]
      have hlo : lo ≤ h := by omega
      have hhi : h < hi := by omega
      have hhn2 : h < n := by omega
      have w1 : IntKind.i64.wrap ((lo : Int) + hi) = (s : Int) := by rw [IntWalk.i64_in _ (by omega)]; omega
      have w2 : IntKind.u64.wrap (s : Int) = (s : Int) := by simp [IntKind.wrap, IntKind.signed, IntKind.bits]; omega
      have w3 : (s : Int) / 2 = (h : Int) := by omega
      have w4 : IntKind.i64.wrap (h : Int) = (h : Int) := IntWalk.i64_in _ (by omega)
      have w5 : IntKind.i64.wrap ((h : Int) + 1) = (h : Int) + 1 := IntWalk.i64_in _ (by omega)
      have w6 : IntKind.u64.wrap (h : Int) = (h : Int) := by simp [IntKind.wrap, IntKind.signed, IntKind.bits]; omega
      have hh3 : s / 2 = h := hh2.symm
      have hsl : s ≤ 2000000 := by omega
      obtain ⟨ad, y, rfl, had, hy, c0, c1⟩ := (hr.below hb).run hhn2
      have HY := Lib.hid hy
      obtain ⟨yl, yn⟩ := y
      have HC1 := Lib.hid (HC.out yl yn x wr)
      dsimp only at c0 c1
      clear hh hs hh2 hy
      by_cases hc : yl < x
      · have hcv : cmpI yl x = -1 := by unfold cmpI; rw [if_pos hc]
        rw [hcv] at HC1
        have HLo2 : Hid (∀ (k : Nat) (z : Rn), k < h + 1 → l[k]? = some z → z.loc < x) := fun k z hk hz => by
          have := HS.out k h z ⟨yl, yn⟩ (by omega) hz HY.out
          dsimp only at this
          omega
        clear hcv
        go_wp2_with fail
        refine HC1.out.mono ?_
        rintro e w7 ⟨rfl, hb7⟩
        have hb2 := hb.trans (hb7.mono hb.size)
        go_wp2
        go_roundw
        case rel => exact ⟨h + 1, hi, by omega, hhn, by go_num, rfl, HLo2, HHi, hb2⟩
        case measure => simp [intOf]; omega
      · have hcv : decide (cmpI yl x < 0) = false := by unfold cmpI; rw [if_neg hc]; split <;> decide
        have HHi2 : Hid (∀ (k : Nat) (z : Rn), h ≤ k → l[k]? = some z → x ≤ z.loc) := fun k z hk hz => by
          have := HS.out h k ⟨yl, yn⟩ z hk HY.out hz
          dsimp only at this
          omega
        generalize cmpI yl x = q at *
        go_wp2_with fail
        refine HC1.out.mono ?_
        rintro e w7 ⟨rfl, hb7⟩
        have hb2 := hb.trans (hb7.mono hb.size)
        go_wp2
        go_roundw
        case rel => exact ⟨lo, h, hlo, by omega, rfl, by go_num, HLo, HHi2, hb2⟩
        case measure => simp [intOf]; omega
    · have hle : hi = lo := by omega
      subst hle
      have HPl : Hid (PlaceOf l x hi) := ⟨by rw [HL.out]; exact hhn, HLo.out, HHi.out⟩
      have g0 : decide (hi < hi) = false := decide_eq_false (by omega)
      by_cases hend : hi < n
      · obtain ⟨ad, y, rfl, had, hy, c0, c1⟩ := (hr.below hb).run hend
        obtain ⟨yl, yn⟩ := y
        have HC1 := Lib.hid (HC.out yl yn x wr)
        dsimp only at c0 c1
        have g1 : decide (hi < n) = true := decide_eq_true hend
        have hge : x ≤ yl := HHi.out hi ⟨yl, yn⟩ (Nat.le_refl _) hy
        have hcv : (cmpI yl x == 0) = hasAt l x hi := by
          unfold hasAt cmpI
          rw [hy, if_neg (by omega)]
          by_cases h2 : x < yl
          · rw [if_pos h2]; simp; omega
          · rw [if_neg h2]; simp; omega
        have HCV := Lib.hid hcv
        clear hy hge hcv
        generalize cmpI yl x = q at *
        go_wp2_with fail
        refine HC1.out.mono ?_
        rintro e w7 ⟨rfl, hb7⟩
        have hb2 := hb.trans (hb7.mono hb.size)
        go_wp2
        go_ret2
        exact ⟨hb2, hi, HPl.out, by rw [← HCV.out]; rfl⟩
      · have g1 : decide (hi < n) = false := decide_eq_false hend
        have HCV : Hid (hasAt l x hi = false) := by
          show _ = _
          unfold hasAt
          rw [List.getElem?_eq_none (by rw [HL.out]; omega)]
          rfl
        go_wp2
        go_ret2
        exact ⟨hb, hi, HPl.out, by rw [HCV.out]; rfl⟩
end Go.Proofs.Ytbmkbnalembbjaa
