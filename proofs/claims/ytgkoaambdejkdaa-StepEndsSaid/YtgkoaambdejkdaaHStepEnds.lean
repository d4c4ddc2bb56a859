/-
  StepEnds answers true for all marking states, and changes no argument: no step makes a black object white or grey, every step makes one more object black, and so marking terminates.
-/
import Derived.Test.YtgkoaambdejkdaaG4
import Derived.Test.YtgkoaambdejkdaaG10
import Derived.Test.YtgkoaambdejkdaaG11
namespace Go.Proofs.Ytgkoaambdejkdaa
open Go.RowKit

set_option maxRecDepth 100000 in
set_option maxHeartbeats 4000000 in
theorem stepEnds_any (A : Option Addr) (n c : Nat) (G : Option Addr) (gn gc : Nat) (K : Option Addr) (kn kc : Nat) (a g b : List Int) (w : World) (hR : TriR w w.heap.size A n c G gn K kn a g b) (hn : n ≤ 140737488355328) (hq : gn + kn ≤ 35184372087808) :
    Calls Try.prog 3 #[.agg #[.slice A n c, .slice G gn gc, .slice K kn kc]] w fun e w' => e = .returned (.bool true) ∧ Below w.heap.size w w' := by
  have hb0 := below_new w (.cells #[.slice A n c, .slice G gn gc, .slice K kn kc] 25)
  have DS := Blk.new w 25 #[.slice A n c, .slice G gn gc, .slice K kn kc]
  have HR := Lib.hid hR
  by_cases hT : TriOk a g b
  · have hkl : kn = b.length := by have := hR.rb.1; simpa using this.symm
    have hlens := hT.lens
    have HSt := Lib.hid (fun w hR => steps_any A n c G gn gc K kn kc a g b w hR hT (fun _ _ => True) trivial (fun _ _ _ _ _ => trivial))
    have HBg := Lib.hid (fun w hr => begins_any A n c a w hr hR.aw)
    have hbg : b.length + g.length ≤ (begsL (spotsL a)).length := hT.black_le
    have HT := Lib.hid hT
    have HKL := Lib.hid hkl
    cases g with
    | nil =>
      have hg0 : gn = 0 := by have := hR.rg.1; simpa using this.symm
      subst hg0
      have H1 := Lib.hid (fun w hr hg hb => stepStep_done A n c G 0 gc K kn kc a b w hr hR.nc hR.aw hg hb hR.bw hT)
      have hk256 : kn ≤ 256 := by omega
      have HWi : Hid (decide (∀ x ∈ b, x ∈ b) = true) := decide_eq_true (fun x hx => hx)
      clear hR hT hkl hlens
      go_enter Try.func3, Try.ntmps3
      go_wp2_with fail
      refine (threes_true _).mono ?_
      rintro e w1 ⟨rfl, hb1⟩
      have hb01 := below_step hb0 hb1
      have DS1 := DS.below hb1 DS.lt
      obtain ⟨s0, s1, s2⟩ := DS1.three
      have H1 := Lib.hid (H1.out w1 ((HR.out.ra.below hb01).more hb01.size) ((HR.out.rg.below hb01).more hb01.size) ((HR.out.rb.below hb01).more hb01.size))
      clear hb1 hb0
      go_wp2_with fail
      refine H1.out.mono ?_
      rintro e w2 ⟨hb2, A1, c1, A2, c2, A3, c3, rfl, hO⟩
      have hb02 := (below_step hb01 hb2).alloc (below_step hb01 hb2).size (.cells #[.slice A1 n c1, .slice A2 0 c2, .slice A3 kn c3] 25)
      have DS2 := (DS1.below hb2 DS1.lt).alloc (.cells #[.slice A1 n c1, .slice A2 0 c2, .slice A3 kn c3] 25)
      have DX2 := Blk.new w2 25 #[.slice A1 n c1, .slice A2 0 c2, .slice A3 kn c3]
      have HX2 := Lib.hid (hO.alloc (.cells #[.slice A1 n c1, .slice A2 0 c2, .slice A3 kn c3] 25)).reads
      obtain ⟨s0, s1, s2⟩ := DS2.three
      have HSt := Lib.hid (HSt.out _ ((HR.out.below hb02).more hb02.size))
      have hxl := DX2.lt
      clear hO hb2 hb01
      go_wp2_with fail
      refine HSt.out.mono ?_
      rintro e w3 ⟨hb3, B1, d1, B2, d2, B3, d3, N, bF, rfl, -, hTF, -, hN⟩
      have hNle : N ≤ (begsL (spotsL a)).length := by have := hTF.black_le; simp at this; omega
      generalize bF.length = bl at *
      have hb03 := (below_step hb02 hb3).alloc (below_step hb02 hb3).size (.cells #[.slice B1 n d1, .slice B2 0 d2, .slice B3 bl d3] 25)
      have hbx := hb3.alloc hb3.size (.cells #[.slice B1 n d1, .slice B2 0 d2, .slice B3 bl d3] 25)
      have DS3 := (DS2.below hb3 DS2.lt).alloc (.cells #[.slice B1 n d1, .slice B2 0 d2, .slice B3 bl d3] 25)
      have DX3 := (DX2.below hb3 DX2.lt).alloc (.cells #[.slice B1 n d1, .slice B2 0 d2, .slice B3 bl d3] 25)
      obtain ⟨s0, s1, s2⟩ := DS3.three
      obtain ⟨x0, x1, x2⟩ := DX3.three
      have HX3 := Lib.hid ((HX2.out.below hbx).more hbx.size)
      have HW := Lib.hid (within_two K A3 kn kc kn c3 b b true _ ((HR.out.rb.below hb03).more hb03.size) (by omega) HX3.out.rb (by omega) HWi.out)
      have HNB := Lib.hid hNle
      clear hb3 hTF hN hNle hbx
      go_wp2_with fail
      refine HW.out.mono ?_
      rintro e w4 ⟨rfl, hb4⟩
      have hb04 := below_step hb03 hb4
      have DX4 := DX3.below hb4 DX3.lt
      have DS4 := DS3.below hb4 DS3.lt
      obtain ⟨s0, s1, s2⟩ := DS4.three
      obtain ⟨x0, x1, x2⟩ := DX4.three
      have HX4 := Lib.hid ((HX3.out.below hb4).more hb4.size)
      have HCk := Lib.hid (stepCheck_any A1 n c1 A2 0 c2 A3 kn c3 a [] b w4 HX4.out.ra HX4.out.nc HX4.out.aw HX4.out.rg HX4.out.gw HX4.out.rb HX4.out.bw (by omega))
      clear hb4
      go_wp2_with fail
      refine HCk.out.mono ?_
      rintro e w5 ⟨⟨E, rfl, hE⟩, hb5⟩
      obtain rfl := hE.2 HT.out
      have hb05 := below_step hb04 hb5
      have DS5 := DS4.below hb5 DS4.lt
      obtain ⟨s0, s1, s2⟩ := DS5.three
      have HB := Lib.hid (HBg.out w5 ((HR.out.ra.below hb05).more hb05.size))
      clear hE hb5 HBg
      go_wp2_with fail
      refine HB.out.mono ?_
      rintro e w6 ⟨hb6, A7, c7, rfl, -⟩
      have HNB := HNB.out
      generalize (begsL (spotsL a)).length = bgl at *
      have g1 : decide (N ≤ bgl) = true := decide_eq_true HNB
      have g2 : decide ((N : Int) ≤ bgl) = true := decide_eq_true (by omega)
      go_wp2
      go_ret
      exact ⟨by first | rfl | simp, below_step hb05 hb6⟩
    | cons x gt =>
      have H1 := Lib.hid (fun w hr hg hb => stepStep_ok A n c G gn gc K kn kc a x gt b w hr hR.nc hR.aw hg hR.gw hb hR.bw hT)
      have hk256 : kn ≤ 256 := by omega
      obtain ⟨hT2, hB2, hsub, -⟩ := step_ok hT
      have HT2 := Lib.hid hT2
      have HWi : Hid (decide (∀ y ∈ b, y ∈ stepB b x) = true) := decide_eq_true hsub
      have hB2k : (stepB b x).length = kn + 1 := by omega
      rw [hB2k] at H1
      generalize stepG a gt b x = gz at *
      generalize stepB b x = bz at *
      obtain ⟨gm, hgm⟩ : ∃ gm, gm = gz.length := ⟨_, rfl⟩
      rw [← hgm] at H1
      have hgm256 : gm ≤ 256 := by have := hT2.lens.1; omega
      clear hB2 hsub hB2k hT2 hgm
      clear hR hT hkl hlens
      go_enter Try.func3, Try.ntmps3
      go_wp2_with fail
      refine (threes_true _).mono ?_
      rintro e w1 ⟨rfl, hb1⟩
      have hb01 := below_step hb0 hb1
      have DS1 := DS.below hb1 DS.lt
      obtain ⟨s0, s1, s2⟩ := DS1.three
      have H1 := Lib.hid (H1.out w1 ((HR.out.ra.below hb01).more hb01.size) ((HR.out.rg.below hb01).more hb01.size) ((HR.out.rb.below hb01).more hb01.size))
      clear hb1 hb0
      go_wp2_with fail
      refine H1.out.mono ?_
      rintro e w2 ⟨hb2, A1, c1, A2, c2, A3, c3, rfl, hO⟩
      have hb02 := (below_step hb01 hb2).alloc (below_step hb01 hb2).size (.cells #[.slice A1 n c1, .slice A2 gm c2, .slice A3 (kn + 1) c3] 25)
      have DS2 := (DS1.below hb2 DS1.lt).alloc (.cells #[.slice A1 n c1, .slice A2 gm c2, .slice A3 (kn + 1) c3] 25)
      have DX2 := Blk.new w2 25 #[.slice A1 n c1, .slice A2 gm c2, .slice A3 (kn + 1) c3]
      have HX2 := Lib.hid (hO.alloc (.cells #[.slice A1 n c1, .slice A2 gm c2, .slice A3 (kn + 1) c3] 25)).reads
      obtain ⟨s0, s1, s2⟩ := DS2.three
      have HSt := Lib.hid (HSt.out _ ((HR.out.below hb02).more hb02.size))
      have hxl := DX2.lt
      clear hO hb2 hb01
      go_wp2_with fail
      refine HSt.out.mono ?_
      rintro e w3 ⟨hb3, B1, d1, B2, d2, B3, d3, N, bF, rfl, -, hTF, -, hN⟩
      have hNle : N ≤ (begsL (spotsL a)).length := by have := hTF.black_le; simp at this; omega
      generalize bF.length = bl at *
      have hb03 := (below_step hb02 hb3).alloc (below_step hb02 hb3).size (.cells #[.slice B1 n d1, .slice B2 0 d2, .slice B3 bl d3] 25)
      have hbx := hb3.alloc hb3.size (.cells #[.slice B1 n d1, .slice B2 0 d2, .slice B3 bl d3] 25)
      have DS3 := (DS2.below hb3 DS2.lt).alloc (.cells #[.slice B1 n d1, .slice B2 0 d2, .slice B3 bl d3] 25)
      have DX3 := (DX2.below hb3 DX2.lt).alloc (.cells #[.slice B1 n d1, .slice B2 0 d2, .slice B3 bl d3] 25)
      obtain ⟨s0, s1, s2⟩ := DS3.three
      obtain ⟨x0, x1, x2⟩ := DX3.three
      have HX3 := Lib.hid ((HX2.out.below hbx).more hbx.size)
      have HW := Lib.hid (within_two K A3 kn kc (kn + 1) c3 b bz true _ ((HR.out.rb.below hb03).more hb03.size) (by omega) HX3.out.rb (by omega) HWi.out)
      have HNB := Lib.hid hNle
      clear hb3 hTF hN hNle hbx
      go_wp2_with fail
      refine HW.out.mono ?_
      rintro e w4 ⟨rfl, hb4⟩
      have hb04 := below_step hb03 hb4
      have DX4 := DX3.below hb4 DX3.lt
      have DS4 := DS3.below hb4 DS3.lt
      obtain ⟨s0, s1, s2⟩ := DS4.three
      obtain ⟨x0, x1, x2⟩ := DX4.three
      have HX4 := Lib.hid ((HX3.out.below hb4).more hb4.size)
      have HCk := Lib.hid (stepCheck_any A1 n c1 A2 gm c2 A3 (kn + 1) c3 a gz bz w4 HX4.out.ra HX4.out.nc HX4.out.aw HX4.out.rg HX4.out.gw HX4.out.rb HX4.out.bw (by omega))
      clear hb4
      go_wp2_with fail
      refine HCk.out.mono ?_
      rintro e w5 ⟨⟨E, rfl, hE⟩, hb5⟩
      obtain rfl := hE.2 HT2.out
      have hb05 := below_step hb04 hb5
      have DS5 := DS4.below hb5 DS4.lt
      obtain ⟨s0, s1, s2⟩ := DS5.three
      have HB := Lib.hid (HBg.out w5 ((HR.out.ra.below hb05).more hb05.size))
      clear hE hb5 HBg
      go_wp2_with fail
      refine HB.out.mono ?_
      rintro e w6 ⟨hb6, A7, c7, rfl, -⟩
      have HNB := HNB.out
      generalize (begsL (spotsL a)).length = bgl at *
      have g1 : decide (N ≤ bgl) = true := decide_eq_true HNB
      have g2 : decide ((N : Int) ≤ bgl) = true := decide_eq_true (by omega)
      go_wp2
      go_ret
      exact ⟨by first | rfl | simp, below_step hb05 hb6⟩
  · have H1 := Lib.hid (fun w hr hg hb => stepStep_bad A n c G gn gc K kn kc a g b w hr hR.nc hR.aw hg hR.gw hb hR.bw (by omega) hT)
    clear hR hT
    go_enter Try.func3, Try.ntmps3
    go_wp2_with fail
    refine (threes_true _).mono ?_
    rintro e w1 ⟨rfl, hb1⟩
    have hb01 := below_step hb0 hb1
    have DS1 := DS.below hb1 DS.lt
    obtain ⟨s0, s1, s2⟩ := DS1.three
    have H1 := Lib.hid (H1.out w1 ((HR.out.ra.below hb01).more hb01.size) ((HR.out.rg.below hb01).more hb01.size) ((HR.out.rb.below hb01).more hb01.size))
    clear hb1 hb0
    go_wp2_with fail
    refine H1.out.mono ?_
    rintro e w2 ⟨hb2, E, hE, rfl⟩
    have hE1 : (E != 0) = true := by simpa using hE
    have hb02 := (below_step hb01 hb2).alloc (below_step hb01 hb2).size (.cells #[.slice none 0 0, .slice none 0 0, .slice none 0 0] 25)
    have DX2 := (Blk.new w2 25 #[.slice none 0 0, .slice none 0 0, .slice none 0 0]).three.2.2
    clear hE
    go_wp2
    go_ret
    exact ⟨by first | rfl | simp, hb02⟩

namespace StepEnds
open Go.ChangeShapes Go.WideShapes Go.ChangeAt Go.RowKit
theorem own : ownKnob Try.prog.godebug = none := by kernel_rfl
theorem laidOut : laidOutB Try.prog = true := by kernel_rfl

set_option maxRecDepth 100000 in
theorem lifted (os : Os) (started : os.Started) (H : Type) (enc : TypeId × Value → H) :
    ReturnsInHanded {} Try.checked os 3 .any (Rows.stepEndsSpec.pre6 enc Try.prog Try.f3 Rows.stepEndsRow.domain false) (Rows.stepEndsSpec.post enc Try.prog Try.f3 false true false false) := by
  refine returnsInHanded_of_change_sized (C := Try.checked) own started (by as_aux_lemma => kernel_rfl) Try.func3
    (ChangeSpec.witness6 (enc := enc) (C := Try.checked) false ⟨#[], #[.agg #[.slice none 0 0, .slice none 0 0, .slice none 0 0]], []⟩ 8 (by as_aux_lemma => kernel_rfl) (by as_aux_lemma => kernel_rfl) (by as_aux_lemma => kernel_rfl) (by as_aux_lemma => kernel_rfl)) ?_
  intro W base args ds gs before hval0 hW hcnd hsz _
  have hval : ∀ (j : Nat) t v, Try.f3.params[j]? = some t → args[j]? = some v → Value.okWide Try.prog W .any base t v := hval0
  have hW' := hW
  obtain ⟨p, q, hA0, hV, rfl, hfz, hnd⟩ := hW
  have hA : DataW.TrodAll enc Try.prog W 0 (fun _ => true) true Try.f3.params.toList args.toList ds p := hA0
  rw [Try.params3] at hA hval
  obtain ⟨v0, vs0, d0, ds0, p0, q0, hargs, rfl, rfl, h0, hA⟩ := trodAll_cons hA
  obtain ⟨rfl, rfl, rfl⟩ := trodAll_nil hA
  obtain rfl : args = #[v0] := by cases args; simp_all
  obtain ⟨A0, n0, c0, G0, gn0, gc0, K0, kn0, kc0, a0, g0, b0, rfl, hR0, hn0, hq0⟩ := open_tri (hval 0 _ v0 rfl rfl) (fun x hx => hW'.lt x (by simp [hx])) h0 (fun m hm => by simpa using List.all_eq_true.1 hsz _ (DataW.weights_mem_each (j := 0) (t := 25) rfl rfl m hm))
  refine (stepEnds_any A0 n0 c0 G0 gn0 gc0 K0 kn0 kc0 a0 g0 b0 W hR0 hn0 hq0).mono fun e W' ⟨he, hb⟩ => ?_
  subst he
  exact ⟨_, rfl, law_post laidOut Try.underlying4 rfl (by as_aux_lemma => kernel_rfl) rfl rfl hW' hb⟩

set_option maxHeartbeats 10000000 in
theorem closed : joinedFacts Try.prog 3 Try.f3 Rows.stepEndsSpec Rows.stepEndsRow = true := by
  unfold joinedFacts
  simp only [Bool.and_eq_true]
  repeat' apply And.intro
  all_goals as_aux_lemma => kernel_rfl

set_option maxHeartbeats 1000000 in
theorem proved : Rows.StepEndsSaid :=
  OpenClaim.holds_of_wide 3 Try.f3 rfl rfl rfl rfl rfl rfl rfl ⟨rfl, rfl, rfl, rfl, rfl⟩ rfl rfl rfl rfl rfl (by as_aux_lemma => kernel_rfl) Try.func3 closed
    (of_decide_eq_true (by as_aux_lemma => kernel_rfl)) (by unfold Func.isWrapper; first | (rw [if_pos (by decide +kernel)]; kernel_rfl) | (rw [if_neg (by decide +kernel)]; exact ⟨rfl, rfl⟩))
    (fun os started H enc _ => lifted os started H enc)
end StepEnds
end Go.Proofs.Ytgkoaambdejkdaa
