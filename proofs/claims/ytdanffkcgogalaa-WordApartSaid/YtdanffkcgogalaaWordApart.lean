/-
  WordApart answers true for every arena, every two ranges and every two words, and changes no argument: filling two disjoint ranges in either order gives the same arena. No condition.
-/
import Derived.Test.YtdanffkcgogalaaWord
import Derived.Test.YtdanffkcgogalaaWordsTrue
import Derived.Test.YtdanffkcgogalaaSlices
import Derived.Test.YtdanffkcgogalaaGood
import Derived.Test.YtdanffkcgogalaaLaw
namespace Go.Proofs.Ytdanffkcgogalaa
open Go.RowKit

theorem fillL_at (xs : List Int) (a n : Nat) (v : Int) (j : Nat) (h : a + n ≤ xs.length) : (fillL xs a n v)[j]? = if a ≤ j ∧ j < a + n then some v else xs[j]? := by
  unfold fillL
  have ht : (xs.take a).length = a := by rw [List.length_take]; omega
  by_cases h1 : j < a
  · rw [if_neg (by omega), List.append_assoc, List.getElem?_append_left (by omega), List.getElem?_take, if_pos h1]
  · by_cases h2 : j < a + n
    · rw [if_pos (by omega), List.append_assoc, List.getElem?_append_right (by omega), ht, List.getElem?_append_left (by simp; omega), List.getElem?_replicate, if_pos (by omega)]
    · rw [if_neg (by omega), List.getElem?_append_right (by simp; omega), List.getElem?_drop]
      congr 1
      simp
      omega

theorem fill_apart (xs : List Int) (i n k m : Nat) (v w : Int) (h1 : i + n ≤ xs.length) (h2 : k + m ≤ xs.length) (h : k + m ≤ i ∨ i + n ≤ k) :
    fillL (fillL xs i n v) k m w = fillL (fillL xs k m w) i n v := by
  apply List.ext_getElem?
  intro j
  rw [fillL_at _ _ _ _ _ (by rw [fillL_length _ _ _ _ h1]; exact h2), fillL_at _ _ _ _ _ h1, fillL_at _ _ _ _ _ (by rw [fillL_length _ _ _ _ h2]; exact h1), fillL_at _ _ _ _ _ h2]
  by_cases a : k ≤ j ∧ j < k + m
  · rw [if_pos a, if_neg (by omega), if_pos a]
  · rw [if_neg a, if_neg a]

set_option maxHeartbeats 400000 in
theorem wordApart_bad (A : Option Addr) (n c : Nat) (xs : List Int) (i k1 k m u v : Int) (w : World) (hr : Reads w w.heap.size 1 A n (xs.map (.int .u64)))
    (b1 : -9223372036854775808 ≤ i ∧ i ≤ 9223372036854775807) (b2 : -9223372036854775808 ≤ k1 ∧ k1 ≤ 9223372036854775807) (b3 : -9223372036854775808 ≤ k ∧ k ≤ 9223372036854775807) (b4 : -9223372036854775808 ≤ m ∧ m ≤ 9223372036854775807)
    (hbad : fillE n i k1 ≠ 0 ∨ fillE n k m ≠ 0) :
    Calls Try.prog 8 #[.slice A n c, .int .i64 i, .int .i64 k1, .int .i64 k, .int .i64 m, .int .u64 u, .int .u64 v] w fun e w' => e = .returned (.bool true) ∧ Below w.heap.size w w' := by
  have both : ∀ (W : World) (a d z : Int) (_ : -9223372036854775808 ≤ a ∧ a ≤ 9223372036854775807) (_ : -9223372036854775808 ≤ d ∧ d ≤ 9223372036854775807), Reads W W.heap.size 1 A n (xs.map (.int .u64)) →
      Calls Try.prog 25 #[.slice A n c, .int .i64 a, .int .i64 d, .int .u64 z] W fun e w' => Below W.heap.size W w' ∧ ∃ v', e = .returned (.tuple #[v', .int .i64 (fillE n a d)]) := by
    intro W a d z ba bd hR
    by_cases hE : fillE n a d = 0
    · exact (fill_ok A n c _ xs a d z W hR (Nat.le_refl _) hE).mono fun e w' ⟨hb, A', c', he, _⟩ => ⟨hb, .slice A' n c', by rw [he, hE]⟩
    · exact (fill_bad A n c 0 a d z W ba bd hE).mono fun e w' ⟨hb, he⟩ => ⟨hb, _, he⟩
  have HH := Lib.hid both
  clear both
  have hall : [fillE n i k1, fillE n k m].all (· == 0) = false := by
    rw [List.all_eq_false]
    rcases hbad with h | h
    · exact ⟨fillE n i k1, by simp, by simpa using h⟩
    · exact ⟨fillE n k m, by simp, by simpa using h⟩
  have HA := Lib.hid hall
  clear hall hbad
  go_enter Try.func8, Try.ntmps8
  go_wp2_with fail
  refine (words_true _).mono ?_
  rintro e w1 ⟨rfl, hb1⟩
  go_wp2_with fail
  refine (HH.out _ _ _ _ b1 b2 ((hr.below hb1).more hb1.size)).mono ?_
  rintro e w2 ⟨hb2, x, rfl⟩
  have hb12 := below_step hb1 hb2
  go_wp2_with fail
  refine (HH.out _ _ _ _ b3 b4 ((hr.below hb12).more hb12.size)).mono ?_
  rintro e w3 ⟨hb3, y, rfl⟩
  generalize fillE n i k1 = E1 at *
  generalize fillE n k m = E2 at *
  go_wp2_with fail
  refine (good_of _ 2 2 _ [E1, E2] false _ HA.out (reads_new _ [.int .i64 E1, .int .i64 E2] _ 2 1 rfl) (by omega)).mono ?_
  rintro e w4 ⟨rfl, rfl⟩
  clear hr
  go_wp2
  all_goals
    go_ret
    exact ⟨by simp, (below_step hb12 hb3).trans ((below_new _ _).mono (below_step hb12 hb3).size)⟩

set_option maxHeartbeats 400000 in
theorem wordApart_ok (A : Option Addr) (n c : Nat) (xs : List Int) (i k1 k m u v : Int) (w : World) (hr : Reads w w.heap.size 1 A n (xs.map (.int .u64)))
    (h1 : fillE n i k1 = 0) (h2 : fillE n k m = 0) :
    Calls Try.prog 8 #[.slice A n c, .int .i64 i, .int .i64 k1, .int .i64 k, .int .i64 m, .int .u64 u, .int .u64 v] w fun e w' => e = .returned (.bool true) ∧ Below w.heap.size w w' := by
  have hxl : xs.length = n := by have := hr.1; simpa using this
  obtain ⟨g0, g1, g2, g3, g4⟩ := fillE_ok.1 h1
  obtain ⟨_, q1, q2, q3, q4⟩ := fillE_ok.1 h2
  have f1 : ∀ (W : World) (A' : Option Addr) (c' : Nat) (z : Int) (ys : List Int), Reads W W.heap.size 1 A' n (ys.map (.int .u64)) →
      Calls Try.prog 25 #[.slice A' n c', .int .i64 i, .int .i64 k1, .int .u64 z] W fun e w' => Below W.heap.size W w' ∧ ∃ A'' c'', e = .returned (.tuple #[.slice A'' n c'', .int .i64 0]) ∧ Reads w' w'.heap.size 1 A'' n ((fillL ys i.toNat k1.toNat z).map (.int .u64)) :=
    fun W A' c' z ys hR => (fill_ok A' n c' _ ys i k1 z W hR (Nat.le_refl _) h1).mono fun e w' ⟨hb, A'', c'', he, ho⟩ => ⟨hb, A'', c'', he, Reads.of_own ho⟩
  have f2 : ∀ (W : World) (A' : Option Addr) (c' : Nat) (z : Int) (ys : List Int), Reads W W.heap.size 1 A' n (ys.map (.int .u64)) →
      Calls Try.prog 25 #[.slice A' n c', .int .i64 k, .int .i64 m, .int .u64 z] W fun e w' => Below W.heap.size W w' ∧ ∃ A'' c'', e = .returned (.tuple #[.slice A'' n c'', .int .i64 0]) ∧ Reads w' w'.heap.size 1 A'' n ((fillL ys k.toNat m.toNat z).map (.int .u64)) :=
    fun W A' c' z ys hR => (fill_ok A' n c' _ ys k m z W hR (Nat.le_refl _) h2).mono fun e w' ⟨hb, A'', c'', he, ho⟩ => ⟨hb, A'', c'', he, Reads.of_own ho⟩
  have F1 := Lib.hid f1
  have F2 := Lib.hid f2
  clear f1 f2 h1 h2
  have HA : Hid ([(0 : Int), 0].all (· == 0) = true) := rfl
  obtain ⟨i0, rfl⟩ := Int.eq_ofNat_of_zero_le g2
  obtain ⟨n0, rfl⟩ := Int.eq_ofNat_of_zero_le g1
  obtain ⟨k0, rfl⟩ := Int.eq_ofNat_of_zero_le q2
  obtain ⟨m0, rfl⟩ := Int.eq_ofNat_of_zero_le q1
  by_cases hmeet : (i0 : Int) < k0 + m0 ∧ (k0 : Int) < i0 + n0
  · obtain ⟨t1, t2⟩ := hmeet
    go_enter Try.func8, Try.ntmps8
    go_wp2_with fail
    refine (words_true _).mono ?_
    rintro e w1 ⟨rfl, hb1⟩
    go_wp2_with fail
    refine (F1.out _ _ _ _ _ ((hr.below hb1).more hb1.size)).mono ?_
    rintro e w2 ⟨hb2, A2, c2, rfl, hr2⟩
    have hb12 := below_step hb1 hb2
    go_wp2_with fail
    refine (F2.out _ _ _ _ _ ((hr.below hb12).more hb12.size)).mono ?_
    rintro e w3 ⟨hb3, A3, c3, rfl, hr3⟩
    go_wp2_with fail
    refine (good_of _ 2 2 _ [0, 0] true _ HA.out (reads_new _ [.int .i64 0, .int .i64 0] _ 2 1 rfl) (by omega)).mono ?_
    rintro e w4 ⟨rfl, rfl⟩
    clear hr hr2 hr3
    go_wp2
    all_goals
      go_ret
      exact ⟨by simp, (below_step hb12 hb3).trans ((below_new _ _).mono (below_step hb12 hb3).size)⟩
  · have hap : k0 + m0 ≤ i0 ∨ i0 + n0 ≤ k0 := by omega
    have HE := Lib.hid (fill_apart xs i0 n0 k0 m0 u v (by omega) (by omega) hap)
    have t1 : ¬ ((i0 : Int) < k0 + m0) ∨ ((i0 : Int) < k0 + m0 ∧ ¬ (k0 : Int) < i0 + n0) := by omega
    have hsz : n ≤ 1000000000000000000 := by omega
    clear hmeet hap hxl
    rcases t1 with t1 | ⟨t1, t2⟩
    all_goals
      go_enter Try.func8, Try.ntmps8
      go_wp2_with fail
      refine (words_true _).mono ?_
      rintro e w1 ⟨rfl, hb1⟩
      go_wp2_with fail
      refine (F1.out _ _ _ _ _ ((hr.below hb1).more hb1.size)).mono ?_
      rintro e w2 ⟨hb2, A2, c2, rfl, hr2⟩
      have hb12 := below_step hb1 hb2
      go_wp2_with fail
      refine (F2.out _ _ _ _ _ ((hr.below hb12).more hb12.size)).mono ?_
      rintro e w3 ⟨hb3, A3, c3, rfl, hr3⟩
      have hb13 := below_step hb12 hb3
      go_wp2_with fail
      refine (good_of _ 2 2 _ [0, 0] true _ HA.out (reads_new _ [.int .i64 0, .int .i64 0] _ 2 1 rfl) (by omega)).mono ?_
      rintro e w4 ⟨rfl, rfl⟩
      go_wp2_with fail
      refine (F2.out _ _ _ _ _ ((((hr2.below hb3).more hb3.size).below (below_new _ _)).more (by simp))).mono ?_
      rintro e w5 ⟨hb5, A5, c5, rfl, hr5⟩
      have hb15 := below_step (below_step hb13 (below_new _ _)) hb5
      go_wp2_with fail
      refine (F1.out _ _ _ _ _ (((hr3.below (below_new _ _)).below (hb5.mono (by simp))).more (by have := hb5.size; simp at this; omega))).mono ?_
      rintro e w6 ⟨hb6, A6, c6, rfl, hr6⟩
      have hb16 := below_step hb15 hb6
      have hr56 := (hr5.below hb6).more hb6.size
      clear hr hr2 hr3 hr5 hb1 hb2 hb3 hb5 hb6 hb12 hb13 hb15
      go_wp2_with fail
      refine (good_of _ 2 2 _ [0, 0] true _ HA.out (reads_new _ [.int .i64 0, .int .i64 0] _ 2 1 rfl) (by omega)).mono ?_
      rintro e w7 ⟨rfl, rfl⟩
      go_wp2_with fail
      refine (equal_u64 _ _ _ _ _ _ _ _ _ _ _ ((hr56.below (below_new _ _))) ((hr6.below (below_new _ _))) hsz hsz).mono ?_
      rw [show fillL (fillL xs (i0 : Int).toNat (n0 : Int).toNat u) (k0 : Int).toNat (m0 : Int).toNat v = fillL (fillL xs (k0 : Int).toNat (m0 : Int).toNat v) (i0 : Int).toNat (n0 : Int).toNat u from HE.out]
      rintro e w8 ⟨rfl, q, rfl⟩
      clear hr56 hr6
      go_wp2
      go_ret
      exact ⟨by simp, below_drewN (below_step hb16 (below_new _ _)) _⟩

theorem wordApart_any (A : Option Addr) (n c : Nat) (xs : List Int) (i k1 k m u v : Int) (w : World) (hr : Reads w w.heap.size 1 A n (xs.map (.int .u64))) (_ : n ≤ c) (_ : c ≤ maxLen) (_ : ∀ x ∈ xs, (Lit.int .u64 x).wf = true)
    (b1 : (Lit.int .i64 i).wf = true) (b2 : (Lit.int .i64 k1).wf = true) (b3 : (Lit.int .i64 k).wf = true) (b4 : (Lit.int .i64 m).wf = true) (_ : (Lit.int .u64 u).wf = true) (_ : (Lit.int .u64 v).wf = true) :
    Calls Try.prog 8 #[.slice A n c, .int .i64 i, .int .i64 k1, .int .i64 k, .int .i64 m, .int .u64 u, .int .u64 v] w fun e w' => e = .returned (.bool true) ∧ Below w.heap.size w w' := by
  by_cases h1 : fillE n i k1 = 0
  · by_cases h2 : fillE n k m = 0
    · exact wordApart_ok A n c xs i k1 k m u v w hr h1 h2
    · exact wordApart_bad A n c xs i k1 k m u v w hr (b64 b1) (b64 b2) (b64 b3) (b64 b4) (.inr h2)
  · exact wordApart_bad A n c xs i k1 k m u v w hr (b64 b1) (b64 b2) (b64 b3) (b64 b4) (.inl h1)

namespace WordApart
open Go.ChangeShapes Go.WideShapes Go.ChangeAt Go.RowKit
theorem own : ownKnob Try.prog.godebug = none := by kernel_rfl
theorem laidOut : laidOutB Try.prog = true := by kernel_rfl

set_option maxRecDepth 100000 in
theorem lifted (os : Os) (started : os.Started) (H : Type) (enc : TypeId × Value → H) :
    ReturnsInHanded {} Try.checked os 8 .any (Rows.wordApartSpec.pre6 enc Try.prog Try.f8 Rows.wordApartRow.domain false) (Rows.wordApartSpec.post enc Try.prog Try.f8 false true false false) := by
  refine returnsInHanded_of_change (C := Try.checked) own started (by kernel_rfl) Try.func8
    (ChangeSpec.witness6 (enc := enc) (C := Try.checked) false ⟨#[], #[.slice none 0 0, .int .i64 0, .int .i64 0, .int .i64 0, .int .i64 0, .int .u64 0, .int .u64 0], []⟩ 8 (by kernel_rfl) (by kernel_rfl) (by kernel_rfl) (by kernel_rfl)) ?_
  intro W base args ds gs before hval0 hW hcnd _
  have hval : ∀ (j : Nat) t v, Try.f8.params[j]? = some t → args[j]? = some v → Value.okWide Try.prog W .any base t v := hval0
  have hW' := hW
  obtain ⟨p, q, hA0, hV, rfl, hfz, hnd⟩ := hW
  have hA : DataW.TrodAll enc Try.prog W 0 (fun _ => true) true Try.f8.params.toList args.toList ds p := hA0
  rw [Try.params8] at hA hval
  obtain ⟨v0, vs0, d0, ds0, p0, q0, hargs, rfl, rfl, h0, hA⟩ := trodAll_cons hA
  obtain ⟨v1, vs1, d1, ds1, p1, q1, rfl, rfl, rfl, h1, hA⟩ := trodAll_cons hA
  obtain ⟨v2, vs2, d2, ds2, p2, q2, rfl, rfl, rfl, h2, hA⟩ := trodAll_cons hA
  obtain ⟨v3, vs3, d3, ds3, p3, q3, rfl, rfl, rfl, h3, hA⟩ := trodAll_cons hA
  obtain ⟨v4, vs4, d4, ds4, p4, q4, rfl, rfl, rfl, h4, hA⟩ := trodAll_cons hA
  obtain ⟨v5, vs5, d5, ds5, p5, q5, rfl, rfl, rfl, h5, hA⟩ := trodAll_cons hA
  obtain ⟨v6, vs6, d6, ds6, p6, q6, rfl, rfl, rfl, h6, hA⟩ := trodAll_cons hA
  obtain ⟨rfl, rfl, rfl⟩ := trodAll_nil hA
  obtain rfl : args = #[v0, v1, v2, v3, v4, v5, v6] := by cases args; simp_all
  obtain ⟨A0, n0, c0, xs0, rfl, hnc0, hc0, hr0, hx0⟩ := open_nums Try.underlying22 Try.underlying27 (by kernel_rfl) (hval 0 _ v0 rfl rfl) (fun x hx => hW'.lt x (by simp [hx])) h0
  obtain ⟨i1, rfl, rfl, rfl, w1⟩ := open_int Try.underlying3 (hval 1 _ v1 rfl rfl) h1
  obtain ⟨i2, rfl, rfl, rfl, w2⟩ := open_int Try.underlying3 (hval 2 _ v2 rfl rfl) h2
  obtain ⟨i3, rfl, rfl, rfl, w3⟩ := open_int Try.underlying3 (hval 3 _ v3 rfl rfl) h3
  obtain ⟨i4, rfl, rfl, rfl, w4⟩ := open_int Try.underlying3 (hval 4 _ v4 rfl rfl) h4
  obtain ⟨i5, rfl, rfl, rfl, w5⟩ := open_int Try.underlying27 (hval 5 _ v5 rfl rfl) h5
  obtain ⟨i6, rfl, rfl, rfl, w6⟩ := open_int Try.underlying27 (hval 6 _ v6 rfl rfl) h6
  refine (wordApart_any A0 n0 c0 xs0 i1 i2 i3 i4 i5 i6 W hr0 hnc0 hc0 hx0 w1 w2 w3 w4 w5 w6).mono fun e W' ⟨he, hb⟩ => ?_
  subst he
  exact ⟨_, rfl, law_post laidOut Try.underlying4 rfl (by kernel_rfl) rfl rfl hW' hb⟩

theorem proved : Rows.WordApartSaid :=
  OpenClaim.holds_of_wide 8 Try.f8 rfl rfl rfl rfl rfl rfl rfl ⟨rfl, rfl, rfl, rfl, rfl⟩ rfl rfl rfl rfl rfl (by kernel_rfl) Try.func8 (by kernel_rfl)
    (of_decide_eq_true (by kernel_rfl)) (by unfold Func.isWrapper; first | (rw [if_pos (by decide +kernel)]; kernel_rfl) | (rw [if_neg (by decide +kernel)]; exact ⟨rfl, rfl⟩))
    (fun os started H enc _ => lifted os started H enc)
end WordApart
end Go.Proofs.Ytdanffkcgogalaa
