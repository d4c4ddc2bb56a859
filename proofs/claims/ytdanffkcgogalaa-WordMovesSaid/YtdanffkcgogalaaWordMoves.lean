/-
  WordMoves answers true for every arena and every four numbers, and changes no argument: what is moved stands in the target range, all else is as it was. No condition.
-/
import Derived.Test.YtdanffkcgogalaaWord
import Derived.Test.YtdanffkcgogalaaLaw
namespace Go.Proofs.Ytdanffkcgogalaa
open Go.RowKit

set_option maxHeartbeats 400000 in
theorem words_true (w : World) : Calls Try.prog 11 #[] w fun e w' => e = .returned (.bool true) ∧ Below w.heap.size w w' := by
  have H := load_ok (some ⟨w.heap.size, 0, none⟩) 1 1 _ [5] 0 (w.alloc (.cells #[.int .u64 5] 27)) (reads_new w [.int .u64 5] 27 1 1 rfl) (by simp) (by decide)
  go_enter Try.func11, Try.ntmps11
  go_wp2_with (go_at_call 14; refine H.mono ?_; rintro e w' ⟨hb, rfl⟩)
  go_ret
  exact ⟨rfl, ((Below.refl _ _).alloc (Nat.le_refl _) _).trans (hb.mono (by simp))⟩

theorem moveL_in (xs : List Int) (f t n k : Nat) (h1 : t ≤ k) (h2 : k < t + n) (h3 : f + n ≤ xs.length) (h4 : t + n ≤ xs.length) : (moveL xs f t n)[k]? = xs[f + k - t]? := by
  unfold moveL splice
  have hl : ((xs.drop f).take n).length = n := by rw [List.length_take, List.length_drop]; omega
  have ht : (xs.take t).length = t := by rw [List.length_take]; omega
  rw [List.getElem?_append_right (by omega), ht, List.getElem?_append_left (by omega), List.getElem?_take, if_pos (by omega), List.getElem?_drop]
  congr 1
  omega

theorem moveL_out (xs : List Int) (f t n k : Nat) (h2 : k < t ∨ t + n ≤ k) (h3 : f + n ≤ xs.length) (h4 : t + n ≤ xs.length) : (moveL xs f t n)[k]? = xs[k]? := by
  unfold moveL splice
  have hl : ((xs.drop f).take n).length = n := by rw [List.length_take, List.length_drop]; omega
  have ht : (xs.take t).length = t := by rw [List.length_take]; omega
  rcases h2 with h | h
  · rw [List.getElem?_append_left (by omega), List.getElem?_take, if_pos h]
  · rw [List.getElem?_append_right (by omega), ht, List.getElem?_append_right (by omega), hl, List.getElem?_drop]
    congr 1
    omega

set_option maxHeartbeats 400000 in
theorem wordMoves_bad (A : Option Addr) (n c B : Nat) (xs : List Int) (from_ to k i : Int) (w : World)
    (hf : -9223372036854775808 ≤ from_ ∧ from_ ≤ 9223372036854775807) (ht : -9223372036854775808 ≤ to ∧ to ≤ 9223372036854775807) (hk : -9223372036854775808 ≤ k ∧ k ≤ 9223372036854775807) (hbad : moveE n from_ to k ≠ 0) :
    Calls Try.prog 3 #[.slice A n c, .int .i64 from_, .int .i64 to, .int .i64 k, .int .i64 i] w fun e w' => e = .returned (.bool true) ∧ Below w.heap.size w w' := by
  have H := fun w => move_bad A n c from_ to k w hf ht hk hbad
  have HH := Lib.hid H
  clear H
  generalize hE : moveE n from_ to k = E at *
  clear hE
  have hE1 : (E != 0) = true := by simpa using hbad
  have hE2 : (E == 0) = false := by simpa using hbad
  go_enter Try.func3, Try.ntmps3
  go_wp2_with (first
    | (go_at_call 11; refine (words_true _).mono ?_; rintro e w1 ⟨rfl, hb⟩)
    | (go_at_call 12; refine (HH.out _).mono ?_; rintro e w2 ⟨hb2, rfl⟩))
  all_goals
    go_ret
    exact ⟨by simp, hb.trans (hb2.mono hb.size)⟩

set_option maxHeartbeats 400000 in
theorem wordMoves_ok (A : Option Addr) (n c B : Nat) (xs : List Int) (from_ to k i : Int) (w : World) (hr : Reads w B 1 A n (xs.map (.int .u64))) (hnc : n ≤ c) (hc : c ≤ 9223372036854775807) (hB : B ≤ w.heap.size) (hok : moveE n from_ to k = 0)
    (hi : -9223372036854775808 ≤ i ∧ i ≤ 9223372036854775807) :
    Calls Try.prog 3 #[.slice A n c, .int .i64 from_, .int .i64 to, .int .i64 k, .int .i64 i] w fun e w' => e = .returned (.bool true) ∧ Below w.heap.size w w' := by
  obtain ⟨h1, h2, h3, h4, h5, h6⟩ := moveE_ok.1 hok
  have H := fun w hr hB => move_ok A n c B xs from_ to k w hr hnc hc hB hok
  have HH := Lib.hid H
  clear H hok
  have hxl : xs.length = n := by have := hr.1; simpa using this
  have HX := Lib.hid hxl
  clear hxl
  obtain ⟨from0, rfl⟩ := Int.eq_ofNat_of_zero_le h3
  obtain ⟨to0, rfl⟩ := Int.eq_ofNat_of_zero_le h5
  obtain ⟨k0, rfl⟩ := Int.eq_ofNat_of_zero_le h2
  by_cases hout : i < 0 ∨ (n : Int) ≤ i
  · have hout' : ¬ i < 0 → (n : Int) ≤ i := by omega
    go_enter Try.func3, Try.ntmps3
    go_wp2_with (first
      | (go_at_call 11; refine (words_true _).mono ?_; rintro e w1 ⟨rfl, hb⟩)
      | (go_at_call 12; refine (HH.out _ (hr.keep fun p hp => hb.cell (by omega)) (Nat.le_trans hB hb.size)).mono ?_; rintro e w2 ⟨hb2, A', c', rfl, hown⟩))
    all_goals
      go_ret
      exact ⟨rfl, hb.trans (hb2.mono hb.size)⟩
  · obtain ⟨i0, rfl⟩ := Int.eq_ofNat_of_zero_le (show 0 ≤ i by omega)
    have hi0 : i0 < n := by omega
    have hi1 : (i0 : Int) < n := by omega
    clear hout
    obtain ⟨ad, rfl, had, hcells⟩ := hr.2 (by omega)
    have HC := Lib.hid hcells
    clear hcells
    by_cases hin : to0 ≤ i0 ∧ i0 < to0 + k0
    · obtain ⟨hin1, hin2⟩ := hin
      have hin3 : (to0 : Int) ≤ i0 := by omega
      have hin4 : (i0 : Int) < to0 + k0 := by omega
      have hj : from0 + i0 - to0 < xs.length := by rw [HX.out]; omega
      go_enter Try.func3, Try.ntmps3
      go_wp2_with (first
        | (go_at_call 11; refine (words_true _).mono ?_; rintro e w1 ⟨rfl, hb⟩)
        | (go_at_call 12; refine (HH.out _ (hr.keep fun p hp => hb.cell (by omega)) (Nat.le_trans hB hb.size)).mono ?_; rintro e w2 ⟨hb2, A', c', rfl, hown⟩))
      obtain ⟨g, cap, hv, hg, -⟩ := hown.form (by omega)
      obtain ⟨rfl, rfl⟩ : A' = some ⟨g, 0, none⟩ ∧ c' = cap := by simpa using hv
      clear hv
      have HO := Lib.hid hown
      have HB : Hid (Below w.heap.size w w2) := hb.trans (hb2.mono hb.size)
      have hc1 : w2.cell? ⟨g, i0, none⟩ = some (.int .u64 xs[from0 + i0 - to0]) := by
        rw [hown.cellAt i0 (by omega), List.getElem?_map, Int.toNat_natCast, Int.toNat_natCast, Int.toNat_natCast, moveL_in _ _ _ _ _ hin1 hin2 (by rw [HX.out]; omega) (by rw [HX.out]; omega), List.getElem?_eq_getElem hj]
        rfl
      have hc2 : w2.cell? (ad.add (from0 + i0 - to0)) = some (.int .u64 xs[from0 + i0 - to0]) := by
        rw [HB.out.cell (p := ad.add (from0 + i0 - to0)) (by rw [block_of_add]; omega)]
        exact HC.out _ _ (by rw [List.getElem?_map, List.getElem?_eq_getElem hj]; rfl)
      have e1 : IntKind.i64.wrap ((from0 : Int) + i0) = (from0 : Int) + i0 := IntWalk.i64_in _ (by omega)
      have e2 : IntKind.i64.wrap ((from0 : Int) + i0 - to0) = (from0 : Int) + i0 - to0 := IntWalk.i64_in _ (by omega)
      have e3 : ((from0 : Int) + i0 - to0).toNat = from0 + i0 - to0 := by omega
      have e4 : 0 ≤ (from0 : Int) + i0 - to0 := by omega
      have e5 : (from0 : Int) + i0 - to0 < n := by omega
      clear hown hb hb2 hr
      go_quiet (fail)
      go_wp2
      go_ret
      exact ⟨by simp, below_drewN HB.out _⟩
    · have hcase : (i0 < to0) ∨ (to0 ≤ i0 ∧ to0 + k0 ≤ i0) := by omega
      have hj : i0 < xs.length := by rw [HX.out]; omega
      have HO2 : Hid ((moveL xs from0 to0 k0)[i0]? = xs[i0]?) := moveL_out _ _ _ _ _ (by omega) (by rw [HX.out]; omega) (by rw [HX.out]; omega)
      clear hin
      rcases hcase with hin | ⟨hin1, hin⟩
      all_goals
        go_enter Try.func3, Try.ntmps3
        go_wp2_with (first
          | (go_at_call 11; refine (words_true _).mono ?_; rintro e w1 ⟨rfl, hb⟩)
          | (go_at_call 12; refine (HH.out _ (hr.keep fun p hp => hb.cell (by omega)) (Nat.le_trans hB hb.size)).mono ?_; rintro e w2 ⟨hb2, A', c', rfl, hown⟩))
        obtain ⟨g, cap, hv, hg, -⟩ := hown.form (by omega)
        obtain ⟨rfl, rfl⟩ : A' = some ⟨g, 0, none⟩ ∧ c' = cap := by simpa using hv
        clear hv
        have HB : Hid (Below w.heap.size w w2) := hb.trans (hb2.mono hb.size)
        have hc1 : w2.cell? ⟨g, i0, none⟩ = some (.int .u64 xs[i0]) := by
          rw [hown.cellAt i0 (by omega), List.getElem?_map, Int.toNat_natCast, Int.toNat_natCast, Int.toNat_natCast, HO2.out, List.getElem?_eq_getElem hj]
          rfl
        have hc2 : w2.cell? (ad.add i0) = some (.int .u64 xs[i0]) := by
          rw [HB.out.cell (p := ad.add i0) (by rw [block_of_add]; omega)]
          exact HC.out _ _ (by rw [List.getElem?_map, List.getElem?_eq_getElem hj]; rfl)
        clear hown hb hb2 hr
        go_quiet (fail)
        go_wp2
        go_ret
        exact ⟨by simp, below_drewN HB.out _⟩

theorem wordMoves_any (A : Option Addr) (n c : Nat) (xs : List Int) (from_ to k i : Int) (w : World) (hr : Reads w w.heap.size 1 A n (xs.map (.int .u64))) (hnc : n ≤ c) (hc : c ≤ maxLen)
    (hf : (Lit.int .i64 from_).wf = true) (ht : (Lit.int .i64 to).wf = true) (hk : (Lit.int .i64 k).wf = true) (hi : (Lit.int .i64 i).wf = true) :
    Calls Try.prog 3 #[.slice A n c, .int .i64 from_, .int .i64 to, .int .i64 k, .int .i64 i] w fun e w' => e = .returned (.bool true) ∧ Below w.heap.size w w' := by
  have b : ∀ x : Int, (Lit.int .i64 x).wf = true → -9223372036854775808 ≤ x ∧ x ≤ 9223372036854775807 := fun x h => by
    simpa [Lit.wf, IntKind.min, IntKind.max, IntKind.signed, IntKind.bits] using h
  have hc' : c ≤ 9223372036854775807 := by unfold maxLen at hc; omega
  by_cases hbad : moveE n from_ to k = 0
  · exact wordMoves_ok A n c _ xs from_ to k i w hr hnc hc' (Nat.le_refl _) hbad (b i hi)
  · exact wordMoves_bad A n c 0 xs from_ to k i w (b _ hf) (b _ ht) (b _ hk) hbad

namespace WordMoves
open Go.ChangeShapes Go.WideShapes Go.ChangeAt Go.RowKit
theorem own : ownKnob Try.prog.godebug = none := by kernel_rfl
theorem laidOut : laidOutB Try.prog = true := by kernel_rfl

set_option maxRecDepth 100000 in
theorem lifted (os : Os) (started : os.Started) (H : Type) (enc : TypeId × Value → H) :
    ReturnsInHanded {} Try.checked os 3 .any (Rows.wordMovesSpec.pre6 enc Try.prog Try.f3 Rows.wordMovesRow.domain false) (Rows.wordMovesSpec.post enc Try.prog Try.f3 false true false false) := by
  refine returnsInHanded_of_change (C := Try.checked) own started (by kernel_rfl) Try.func3
    (ChangeSpec.witness6 (enc := enc) (C := Try.checked) false ⟨#[], #[.slice none 0 0, .int .i64 0, .int .i64 0, .int .i64 0, .int .i64 0], []⟩ 8 (by kernel_rfl) (by kernel_rfl) (by kernel_rfl) (by kernel_rfl)) ?_
  intro W base args ds gs before hval0 hW hcnd _
  have hval : ∀ (j : Nat) t v, Try.f3.params[j]? = some t → args[j]? = some v → Value.okWide Try.prog W .any base t v := hval0
  have hW' := hW
  obtain ⟨p, q, hA0, hV, rfl, hfz, hnd⟩ := hW
  have hA : DataW.TrodAll enc Try.prog W 0 (fun _ => true) true Try.f3.params.toList args.toList ds p := hA0
  rw [Try.params3] at hA hval
  obtain ⟨v0, vs0, d0, ds0, p0, q0, hargs, rfl, rfl, h0, hA⟩ := trodAll_cons hA
  obtain ⟨v1, vs1, d1, ds1, p1, q1, rfl, rfl, rfl, h1, hA⟩ := trodAll_cons hA
  obtain ⟨v2, vs2, d2, ds2, p2, q2, rfl, rfl, rfl, h2, hA⟩ := trodAll_cons hA
  obtain ⟨v3, vs3, d3, ds3, p3, q3, rfl, rfl, rfl, h3, hA⟩ := trodAll_cons hA
  obtain ⟨v4, vs4, d4, ds4, p4, q4, rfl, rfl, rfl, h4, hA⟩ := trodAll_cons hA
  obtain ⟨rfl, rfl, rfl⟩ := trodAll_nil hA
  obtain rfl : args = #[v0, v1, v2, v3, v4] := by cases args; simp_all
  obtain ⟨A, n, c, xs, rfl, hnc, hc, hr, hx⟩ := open_nums Try.underlying22 Try.underlying27 (by kernel_rfl) (hval 0 _ v0 rfl rfl) (fun x hx => hW'.lt x (by simp [hx])) h0
  obtain ⟨i1, rfl, rfl, rfl, w1⟩ := open_int Try.underlying3 (hval 1 _ v1 rfl rfl) h1
  obtain ⟨i2, rfl, rfl, rfl, w2⟩ := open_int Try.underlying3 (hval 2 _ v2 rfl rfl) h2
  obtain ⟨i3, rfl, rfl, rfl, w3⟩ := open_int Try.underlying3 (hval 3 _ v3 rfl rfl) h3
  obtain ⟨i4, rfl, rfl, rfl, w4⟩ := open_int Try.underlying3 (hval 4 _ v4 rfl rfl) h4
  refine (wordMoves_any A n c xs i1 i2 i3 i4 W hr hnc hc w1 w2 w3 w4).mono fun e W' ⟨he, hb⟩ => ?_
  subst he
  exact ⟨_, rfl, law_post laidOut Try.underlying4 rfl (by kernel_rfl) rfl rfl hW' hb⟩

theorem proved : Rows.WordMovesSaid :=
  OpenClaim.holds_of_wide 3 Try.f3 rfl rfl rfl rfl rfl rfl rfl ⟨rfl, rfl, rfl, rfl, rfl⟩ rfl rfl rfl rfl rfl (by kernel_rfl) Try.func3 (by kernel_rfl)
    (of_decide_eq_true (by kernel_rfl)) (by unfold Func.isWrapper; first | (rw [if_pos (by decide +kernel)]; kernel_rfl) | (rw [if_neg (by decide +kernel)]; exact ⟨rfl, rfl⟩))
    (fun os started H enc _ => lifted os started H enc)
end WordMoves
end Go.Proofs.Ytdanffkcgogalaa
