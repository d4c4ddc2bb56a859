/-
  HeadBack answers true for every head and every word, and changes no argument: decoding an encoded head and encoding a decoded word are the identity. No condition.
-/
import Derived.Test.YtdanffkcgogalaaHead
import Derived.Test.YtdanffkcgogalaaGood
import Derived.Test.YtdanffkcgogalaaLawHead
namespace Go.Proofs.Ytdanffkcgogalaa
open Go.RowKit

theorem rd_word (r b t : Int) (f : Bool) (h : headE r b t f = 0) : readOk (wordOf r b t f) ∧ rdR (wordOf r b t f) = r ∧ rdB (wordOf r b t f) = b ∧ rdT (wordOf r b t f) = t ∧ rdF (wordOf r b t f) = f ∧ 0 ≤ wordOf r b t f ∧ wordOf r b t f < 18446744073709551616 := by
  obtain ⟨h1, h2, h3, h4, h5, h6, h7, h8⟩ := headE_ok.1 h
  have e1 : rdR (wordOf r b t f) = r := by unfold rdR wordOf; split <;> omega
  have e2 : rdB (wordOf r b t f) = b := by unfold rdB wordOf; split <;> omega
  have e3 : rdT (wordOf r b t f) = t := by unfold rdT wordOf; split <;> omega
  have e4 : rdF (wordOf r b t f) = f := by
    unfold rdF wordOf
    cases f
    · rw [decide_eq_false]; simp; omega
    · rw [decide_eq_true]; simp; omega
  refine ⟨⟨by unfold wordOf; split <;> omega, by rw [e1, e2, e3, e4]; exact h⟩, e1, e2, e3, e4, ?_, ?_⟩
  · unfold wordOf; split <;> omega
  · unfold wordOf; split <;> omega

theorem word_rd (v : Int) (h0 : 0 ≤ v) (h : readOk v) : wordOf (rdR v) (rdB v) (rdT v) (rdF v) = v := by
  obtain ⟨hz, _⟩ := h
  unfold wordOf rdR rdB rdT rdF
  by_cases hf : v / 281474976710656 % 2 = 1
  · rw [if_pos (by simpa using hf)]; omega
  · rw [if_neg (by simpa using hf)]; omega

set_option maxHeartbeats 400000 in
theorem heads_true (w : World) : Calls Try.prog 18 #[] w fun e w' => e = .returned (.bool true) ∧ Below w.heap.size w w' := by
  have H := fun w => hlongc_ok 0 2 0 false w (by decide)
  have HH := Lib.hid H
  clear H
  go_enter Try.func18, Try.ntmps18
  go_wp2_with (go_at_call 17; refine (HH.out _).mono ?_; rintro e w' ⟨rfl, hb⟩)
  go_ret
  exact ⟨rfl, hb⟩

set_option maxHeartbeats 1000000 in
theorem headBack_ok_ok (r b t : Int) (f : Bool) (v : Int) (w : World) (v0 : 0 ≤ v) (v1 : v < 18446744073709551616) (hE : headE r b t f = 0) (hok : readOk v) :
    Calls Try.prog 6 #[.agg #[.int .i64 r, .int .i64 b, .int .i64 t, .bool f], .int .u64 v] w fun e w' => e = .returned (.bool true) ∧ Below w.heap.size w w' := by
      obtain ⟨hro, e1, e2, e3, e4, w0, w1⟩ := rd_word r b t f hE
      have H1 := fun w => hword_ok r b t f w hE
      have H2 := fun w => hread_ok (wordOf r b t f) w w0 w1 hro
      rw [e1, e2, e3, e4] at H2
      have HH1 := Lib.hid H1
      have HH2 := Lib.hid H2
      clear H1 H2 e1 e2 e3 e4 hro hE
      generalize wordOf r b t f = wd at *
      have hh := word_rd v v0 hok
      have H3 := fun w => hread_ok v w v0 v1 hok
      have H4 := fun w => hword_ok (rdR v) (rdB v) (rdT v) (rdF v) w hok.2
      have H5 := fun w => hlongc_ok (rdR v) (rdB v) (rdT v) (rdF v) w hok.2
      obtain ⟨k1, k2, k3, k4, k5, k6, k7, k8⟩ := headE_ok.1 hok.2
      rw [hh] at H4
      have HH3 := Lib.hid H3
      have HH4 := Lib.hid H4
      have HH5 := Lib.hid H5
      clear H3 H4 H5 hh hok k8
      generalize rdR v = r2 at *
      generalize rdB v = b2 at *
      generalize rdT v = t2 at *
      generalize rdF v = f2 at *
      go_enter Try.func6, Try.ntmps6
      go_wp2_with fail
      refine (heads_true _).mono ?_
      rintro e w1 ⟨rfl, hb1⟩
      have B0 : Blk w1 w.heap.size 37 #[.int .i64 r, .int .i64 b, .int .i64 t, .bool f] := (Blk.new _ _ _).below hb1 (by simp)
      have c0 := B0.cell 0
      have c1 := B0.cell 1
      have c2 := B0.cell 2
      have c3 := B0.cell 3
      simp at c0 c1 c2 c3
      have L1 := B0.lt
      have hb01 := below_step (below_new w (.cells #[.int .i64 r, .int .i64 b, .int .i64 t, .bool f] 37)) hb1
      go_wp2_with fail
      refine (HH1.out _).mono ?_
      rintro e w2 ⟨rfl, hb2⟩
      go_wp2_with fail
      refine (HH2.out _).mono ?_
      rintro e w3 ⟨rfl, hb3⟩
      have hb13 := below_step hb2 hb3
      have hb03 := below_step hb01 hb13
      have B3 := B0.below hb13 L1
      have L3 := B3.lt
      clear hb1 hb2 hb3 c0 c1 c2 c3 hb13 hb01 B0 L1
      have c0 := B3.cell 0
      have c1 := B3.cell 1
      have c2 := B3.cell 2
      have c3 := B3.cell 3
      simp at c0 c1 c2 c3
      go_wp2_with fail
      refine (HH3.out _).mono ?_
      rintro e w4 ⟨rfl, hb4⟩
      have hb04 := below_step (below_step hb03 (below_new _ _)) hb4
      clear hb03 hb4 c0 c1 c2 c3 L3 B3
      go_wp2_with fail
      refine (HH4.out _).mono ?_
      rintro e w5 ⟨rfl, hb5⟩
      have B5 : Blk w5 w4.heap.size 37 #[.int .i64 r2, .int .i64 b2, .int .i64 t2, .bool f2] := (Blk.new _ _ _).below hb5 (by simp)
      have hb05 := below_step (below_step hb04 (below_new _ _)) hb5
      have c0 := B5.cell 0
      have c1 := B5.cell 1
      have c2 := B5.cell 2
      have c3 := B5.cell 3
      simp at c0 c1 c2 c3
      clear hb5 hb04 B5
      go_wp2_with fail
      refine (HH5.out _).mono ?_
      rintro e w6 ⟨rfl, hb6⟩
      have hb06 := below_step hb05 hb6
      clear hb05 hb6 c0 c1 c2 c3
      go_wp2_with fail
      refine (good_of _ 2 2 _ [0, 0] true _ rfl (reads_new _ [.int .i64 0, .int .i64 0] _ 2 1 rfl) (by omega)).mono ?_
      rintro e w7 ⟨rfl, rfl⟩
      have hb07 := below_step hb06 (below_new w6 (.cells #[.int .i64 0, .int .i64 0] 24))
      clear hb06
      go_wp2
      go_ret
      exact ⟨by simp, hb07⟩


set_option maxHeartbeats 1000000 in
theorem headBack_ok_bad (r b t : Int) (f : Bool) (v : Int) (w : World) (v0 : 0 ≤ v) (v1 : v < 18446744073709551616) (hE : headE r b t f = 0) (hok : ¬ readOk v) :
    Calls Try.prog 6 #[.agg #[.int .i64 r, .int .i64 b, .int .i64 t, .bool f], .int .u64 v] w fun e w' => e = .returned (.bool true) ∧ Below w.heap.size w w' := by
      obtain ⟨hro, e1, e2, e3, e4, w0, w1⟩ := rd_word r b t f hE
      have H1 := fun w => hword_ok r b t f w hE
      have H2 := fun w => hread_ok (wordOf r b t f) w w0 w1 hro
      rw [e1, e2, e3, e4] at H2
      have HH1 := Lib.hid H1
      have HH2 := Lib.hid H2
      clear H1 H2 e1 e2 e3 e4 hro hE
      generalize wordOf r b t f = wd at *
      have H3 := fun w => hread_bad v w v0 v1 hok
      have HH3 := Lib.hid H3
      clear H3 hok
      go_enter Try.func6, Try.ntmps6
      go_wp2_with fail
      refine (heads_true _).mono ?_
      rintro e w1 ⟨rfl, hb1⟩
      have B0 : Blk w1 w.heap.size 37 #[.int .i64 r, .int .i64 b, .int .i64 t, .bool f] := (Blk.new _ _ _).below hb1 (by simp)
      have c0 := B0.cell 0
      have c1 := B0.cell 1
      have c2 := B0.cell 2
      have c3 := B0.cell 3
      simp at c0 c1 c2 c3
      have L1 := B0.lt
      have hb01 := below_step (below_new w (.cells #[.int .i64 r, .int .i64 b, .int .i64 t, .bool f] 37)) hb1
      go_wp2_with fail
      refine (HH1.out _).mono ?_
      rintro e w2 ⟨rfl, hb2⟩
      go_wp2_with fail
      refine (HH2.out _).mono ?_
      rintro e w3 ⟨rfl, hb3⟩
      have hb13 := below_step hb2 hb3
      have hb03 := below_step hb01 hb13
      have B3 := B0.below hb13 L1
      have L3 := B3.lt
      clear hb1 hb2 hb3 c0 c1 c2 c3 hb13 hb01 B0 L1
      have c0 := B3.cell 0
      have c1 := B3.cell 1
      have c2 := B3.cell 2
      have c3 := B3.cell 3
      simp at c0 c1 c2 c3
      go_wp2_with fail
      refine (HH3.out _).mono ?_
      rintro e w4 ⟨rfl, hb4⟩
      have hb04 := below_step (below_step hb03 (below_new _ _)) hb4
      clear hb03 hb4 c0 c1 c2 c3 L3 B3
      go_wp2
      go_ret
      exact ⟨by simp, hb04.alloc hb04.size _⟩

set_option maxHeartbeats 1000000 in
theorem headBack_bad_ok (r b t : Int) (f : Bool) (v : Int) (w : World) (v0 : 0 ≤ v) (v1 : v < 18446744073709551616) (hE : headE r b t f ≠ 0) (hok : readOk v) :
    Calls Try.prog 6 #[.agg #[.int .i64 r, .int .i64 b, .int .i64 t, .bool f], .int .u64 v] w fun e w' => e = .returned (.bool true) ∧ Below w.heap.size w w' := by
      have H1 := fun w => hword_bad r b t f w hE
      have HH1 := Lib.hid H1
      clear H1
      generalize headE r b t f = E at *
      have hE1 : (E != 0) = true := by simpa using hE
      have hE2 : (E == 0) = false := by simpa using hE
      have hh := word_rd v v0 hok
      have H3 := fun w => hread_ok v w v0 v1 hok
      have H4 := fun w => hword_ok (rdR v) (rdB v) (rdT v) (rdF v) w hok.2
      have H5 := fun w => hlongc_ok (rdR v) (rdB v) (rdT v) (rdF v) w hok.2
      obtain ⟨k1, k2, k3, k4, k5, k6, k7, k8⟩ := headE_ok.1 hok.2
      rw [hh] at H4
      have HH3 := Lib.hid H3
      have HH4 := Lib.hid H4
      have HH5 := Lib.hid H5
      clear H3 H4 H5 hh hok k8
      generalize rdR v = r2 at *
      generalize rdB v = b2 at *
      generalize rdT v = t2 at *
      generalize rdF v = f2 at *
      go_enter Try.func6, Try.ntmps6
      go_wp2_with fail
      refine (heads_true _).mono ?_
      rintro e w1 ⟨rfl, hb1⟩
      have B0 : Blk w1 w.heap.size 37 #[.int .i64 r, .int .i64 b, .int .i64 t, .bool f] := (Blk.new _ _ _).below hb1 (by simp)
      have c0 := B0.cell 0
      have c1 := B0.cell 1
      have c2 := B0.cell 2
      have c3 := B0.cell 3
      simp at c0 c1 c2 c3
      have L1 := B0.lt
      have hb01 := below_step (below_new w (.cells #[.int .i64 r, .int .i64 b, .int .i64 t, .bool f] 37)) hb1
      go_wp2_with fail
      refine (HH1.out _).mono ?_
      rintro e w2 ⟨rfl, hb2⟩
      have hb03 := below_step hb01 hb2
      have B3 := B0.below hb2 L1
      have L3 := B3.lt
      clear hb1 hb2 c0 c1 c2 c3 hb01 B0 L1
      have c0 := B3.cell 0
      have c1 := B3.cell 1
      have c2 := B3.cell 2
      have c3 := B3.cell 3
      simp at c0 c1 c2 c3
      go_wp2_with fail
      refine (HH3.out _).mono ?_
      rintro e w4 ⟨rfl, hb4⟩
      have hb04 := below_step hb03 hb4
      clear hb03 hb4 c0 c1 c2 c3 L3 B3
      go_wp2_with fail
      refine (HH4.out _).mono ?_
      rintro e w5 ⟨rfl, hb5⟩
      have B5 : Blk w5 w4.heap.size 37 #[.int .i64 r2, .int .i64 b2, .int .i64 t2, .bool f2] := (Blk.new _ _ _).below hb5 (by simp)
      have hb05 := below_step (below_step hb04 (below_new _ _)) hb5
      have c0 := B5.cell 0
      have c1 := B5.cell 1
      have c2 := B5.cell 2
      have c3 := B5.cell 3
      simp at c0 c1 c2 c3
      clear hb5 hb04 B5
      go_wp2_with fail
      refine (HH5.out _).mono ?_
      rintro e w6 ⟨rfl, hb6⟩
      have hb06 := below_step hb05 hb6
      clear hb05 hb6 c0 c1 c2 c3
      go_wp2_with fail
      refine (good_of _ 2 2 _ [0, 0] true _ rfl (reads_new _ [.int .i64 0, .int .i64 0] _ 2 1 rfl) (by omega)).mono ?_
      rintro e w7 ⟨rfl, rfl⟩
      have hb07 := below_step hb06 (below_new w6 (.cells #[.int .i64 0, .int .i64 0] 24))
      clear hb06
      go_wp2
      go_ret
      exact ⟨by simp, hb07⟩


set_option maxHeartbeats 1000000 in
theorem headBack_bad_bad (r b t : Int) (f : Bool) (v : Int) (w : World) (v0 : 0 ≤ v) (v1 : v < 18446744073709551616) (hE : headE r b t f ≠ 0) (hok : ¬ readOk v) :
    Calls Try.prog 6 #[.agg #[.int .i64 r, .int .i64 b, .int .i64 t, .bool f], .int .u64 v] w fun e w' => e = .returned (.bool true) ∧ Below w.heap.size w w' := by
      have H1 := fun w => hword_bad r b t f w hE
      have HH1 := Lib.hid H1
      clear H1
      generalize headE r b t f = E at *
      have hE1 : (E != 0) = true := by simpa using hE
      have hE2 : (E == 0) = false := by simpa using hE
      have H3 := fun w => hread_bad v w v0 v1 hok
      have HH3 := Lib.hid H3
      clear H3 hok
      go_enter Try.func6, Try.ntmps6
      go_wp2_with fail
      refine (heads_true _).mono ?_
      rintro e w1 ⟨rfl, hb1⟩
      have B0 : Blk w1 w.heap.size 37 #[.int .i64 r, .int .i64 b, .int .i64 t, .bool f] := (Blk.new _ _ _).below hb1 (by simp)
      have c0 := B0.cell 0
      have c1 := B0.cell 1
      have c2 := B0.cell 2
      have c3 := B0.cell 3
      simp at c0 c1 c2 c3
      have L1 := B0.lt
      have hb01 := below_step (below_new w (.cells #[.int .i64 r, .int .i64 b, .int .i64 t, .bool f] 37)) hb1
      go_wp2_with fail
      refine (HH1.out _).mono ?_
      rintro e w2 ⟨rfl, hb2⟩
      have hb03 := below_step hb01 hb2
      have B3 := B0.below hb2 L1
      have L3 := B3.lt
      clear hb1 hb2 c0 c1 c2 c3 hb01 B0 L1
      have c0 := B3.cell 0
      have c1 := B3.cell 1
      have c2 := B3.cell 2
      have c3 := B3.cell 3
      simp at c0 c1 c2 c3
      go_wp2_with fail
      refine (HH3.out _).mono ?_
      rintro e w4 ⟨rfl, hb4⟩
      have hb04 := below_step hb03 hb4
      clear hb03 hb4 c0 c1 c2 c3 L3 B3
      go_wp2
      go_ret
      exact ⟨by simp, hb04.alloc hb04.size _⟩

theorem headBack_any (r b t : Int) (f : Bool) (v : Int) (w : World) (hv0 : (Lit.int .u64 v).wf = true) :
    Calls Try.prog 6 #[.agg #[.int .i64 r, .int .i64 b, .int .i64 t, .bool f], .int .u64 v] w fun e w' => e = .returned (.bool true) ∧ Below w.heap.size w w' := by
  obtain ⟨v0, v1⟩ := bu64 hv0
  by_cases hE : headE r b t f = 0
  · by_cases hok : readOk v
    · exact headBack_ok_ok r b t f v w v0 (by omega) hE hok
    · exact headBack_ok_bad r b t f v w v0 (by omega) hE hok
  · by_cases hok : readOk v
    · exact headBack_bad_ok r b t f v w v0 (by omega) hE hok
    · exact headBack_bad_bad r b t f v w v0 (by omega) hE hok

namespace HeadBack
open Go.ChangeShapes Go.WideShapes Go.ChangeAt Go.RowKit
theorem own : ownKnob Try.prog.godebug = none := by kernel_rfl
theorem laidOut : laidOutB Try.prog = true := by kernel_rfl

set_option maxRecDepth 100000 in
theorem lifted (os : Os) (started : os.Started) (H : Type) (enc : TypeId × Value → H) :
    ReturnsInHanded {} Try.checked os 6 .any (Rows.headBackSpec.pre6 enc Try.prog Try.f6 Rows.headBackRow.domain false) (Rows.headBackSpec.post enc Try.prog Try.f6 false true false false) := by
  refine returnsInHanded_of_change (C := Try.checked) own started (by kernel_rfl) Try.func6
    (ChangeSpec.witness6 (enc := enc) (C := Try.checked) false ⟨#[], #[.agg #[.int .i64 0, .int .i64 0, .int .i64 0, .bool false], .int .u64 0], []⟩ 8 (by kernel_rfl) (by kernel_rfl) (by kernel_rfl) (by kernel_rfl)) ?_
  intro W base args ds gs before hval0 hW hcnd _
  have hval : ∀ (j : Nat) t v, Try.f6.params[j]? = some t → args[j]? = some v → Value.okWide Try.prog W .any base t v := hval0
  have hW' := hW
  obtain ⟨p, q, hA0, hV, rfl, hfz, hnd⟩ := hW
  have hA : DataW.TrodAll enc Try.prog W 0 (fun _ => true) true Try.f6.params.toList args.toList ds p := hA0
  rw [Try.params6] at hA hval
  obtain ⟨v0, vs0, d0, ds0, p0, q0, hargs, rfl, rfl, h0, hA⟩ := trodAll_cons hA
  obtain ⟨v1, vs1, d1, ds1, p1, q1, rfl, rfl, rfl, h1, hA⟩ := trodAll_cons hA
  obtain ⟨rfl, rfl, rfl⟩ := trodAll_nil hA
  obtain rfl : args = #[v0, v1] := by cases args; simp_all
  obtain ⟨r0, b0, t0, f0, rfl⟩ := open_head (P := Try.prog) Try.underlying37 (by kernel_rfl) (by kernel_rfl) Try.underlying3 Try.underlying4 (hval 0 _ v0 rfl rfl) h0
  obtain ⟨i1, rfl, rfl, rfl, w1⟩ := open_int Try.underlying27 (hval 1 _ v1 rfl rfl) h1
  refine (headBack_any r0 b0 t0 f0 i1 W w1).mono fun e W' ⟨he, hb⟩ => ?_
  subst he
  exact ⟨_, rfl, law_post laidOut Try.underlying4 rfl (by kernel_rfl) rfl rfl hW' hb⟩

theorem proved : Rows.HeadBackSaid :=
  OpenClaim.holds_of_wide 6 Try.f6 rfl rfl rfl rfl rfl rfl rfl ⟨rfl, rfl, rfl, rfl, rfl⟩ rfl rfl rfl rfl rfl (by kernel_rfl) Try.func6 (by kernel_rfl)
    (of_decide_eq_true (by kernel_rfl)) (by unfold Func.isWrapper; first | (rw [if_pos (by decide +kernel)]; kernel_rfl) | (rw [if_neg (by decide +kernel)]; exact ⟨rfl, rfl⟩))
    (fun os started H enc _ => lifted os started H enc)
end HeadBack
end Go.Proofs.Ytdanffkcgogalaa
