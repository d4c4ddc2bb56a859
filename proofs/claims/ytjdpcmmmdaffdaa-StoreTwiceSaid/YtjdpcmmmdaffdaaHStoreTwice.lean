/-
  StoreTwice answers true for every store, and changes no argument: collecting a store twice is the same as collecting it once. No condition.
-/
import Derived.Test.YtjdpcmmmdaffdaaG9
import Derived.Test.YtjdpcmmmdaffdaaG10
namespace Go.Proofs.Ytjdpcmmmdaffdaa
open Go.RowKit

set_option maxRecDepth 100000 in
set_option maxHeartbeats 4000000 in
theorem storeTwice_any (A : Option Addr) (n c : Nat) (RA : Option Addr) (rn rc : Nat) (PA : Option Addr) (pn pc : Nat) (HA : Option Addr) (hn hc : Nat) (S : St) (w : World)
    (hR : StR w w.heap.size A n RA rn PA pn HA hn S) (hK : StK n c rn pn hn S) :
    Calls Try.prog 3 #[.agg #[.slice A n c, .slice RA rn rc, .slice PA pn pc, .slice HA hn hc]] w fun e w' => e = .returned (.bool true) ∧ Below w.heap.size w w' := by
  have HH := Lib.hid stores_true
  have H3 := Lib.hid (fun w hR => collectFn_any A n c RA rn rc PA pn pc HA hn hc S w hR hK)
  have HL := Lib.hid hR.lens
  have HKw := Lib.hid hK.wf
  generalize stE S = E at *
  have hb1 := below_new w (.cells #[.slice A n c, .slice RA rn rc, .slice PA pn pc, .slice HA hn hc] 28)
  have DS := Blk.new w 28 #[.slice A n c, .slice RA rn rc, .slice PA pn pc, .slice HA hn hc]
  go_enter Try.func3, Try.ntmps3
  go_wp2_with fail
  refine (HH.out _).mono ?_
  rintro e w1 ⟨rfl, hb2⟩
  have hb02 := below_step hb1 hb2
  have DS := DS.below hb2 DS.lt
  obtain ⟨s0, s1, s2, s3⟩ := DS.four
  clear HH
  go_wp2_with fail
  refine (H3.out _ ((hR.below hb02).more hb02.size)).mono ?_
  rintro e w2 ⟨hb3, ⟨hOK, S', fr, L, Y, now, A1, c1, A2, c2, A3, c3, A4, c4, hC, rfl, hO⟩ | ⟨h0, rfl⟩⟩
  · have hb03 := below_step hb02 hb3
    have hb04 := hb03.alloc hb03.size (.cells #[.slice A1 n c1, .slice A2 rn c2, .slice A3 pn c3, .slice A4 hn c4] 28)
    have DG := Blk.new w2 28 #[.slice A1 n c1, .slice A2 rn c2, .slice A3 pn c3, .slice A4 hn c4]
    obtain ⟨o0, o1, o2, o3⟩ := DG.four
    have hK2 := hO.known (hC.wf HKw.out)
    have hO2 := hO.below (below_new w2 (.cells #[.slice A1 n c1, .slice A2 rn c2, .slice A3 pn c3, .slice A4 hn c4] 28))
    have H4 := Lib.hid (fun w hR => collectFn_any A1 n c1 A2 rn c2 A3 pn c3 A4 hn c4 S' w hR hK2)
    have HC := Lib.hid hC
    have HOK := Lib.hid hOK
    have hR2 := hO2.reads
    have HE2 := Lib.hid (stE_ok.2 (hC.ok hOK))
    rw [HE2.out] at H4
    clear hO hO2 hC hOK hK2 s0 s1 s2 s3
    go_wp2_with fail
    refine (H4.out _ hR2).mono ?_
    rintro e w4 ⟨hb5, ⟨-, S2, fr2, L2, Y2, now2, B1, d1, B2, d2, B3, d3, B4, d4, hC2, rfl, hO2⟩ | ⟨h0, -⟩⟩
    rotate_left 1
    · exact absurd rfl h0
    obtain ⟨rfl, rfl⟩ := HC.out.again HOK.out hC2
    have hb05 := below_step hb04 hb5
    have hb06 := hb05.alloc hb05.size (.cells #[.slice B1 n d1, .slice B2 rn d2, .slice B3 pn d3, .slice B4 hn d4] 28)
    have DG := (DG.below hb5 DG.lt).alloc (.cells #[.slice B1 n d1, .slice B2 rn d2, .slice B3 pn d3, .slice B4 hn d4] 28)
    have DH := Blk.new w4 28 #[.slice B1 n d1, .slice B2 rn d2, .slice B3 pn d3, .slice B4 hn d4]
    have hR3 := ((hR2.below hb5).more hb5.size).below (below_new w4 (.cells #[.slice B1 n d1, .slice B2 rn d2, .slice B3 pn d3, .slice B4 hn d4] 28))
    have hR4 := (hO2.below (below_new w4 (.cells #[.slice B1 n d1, .slice B2 rn d2, .slice B3 pn d3, .slice B4 hn d4] 28))).reads
    obtain ⟨z1, z2, z3, z4⟩ := HL.out
    have y1 := (rootE_ok HOK.out.roots)
    have y2 := HOK.out.pins.len
    have y3 := (handE_ok.1 HOK.out.hands).1
    have HSm := Lib.hid (sameStore_true A1 n c1 A2 rn c2 A3 pn c3 A4 hn c4 B1 d1 B2 d2 B3 d3 B4 d4 S2 _ (hR3.more (by simp)) hR4 (by omega) (by omega) (by omega) (by omega))
    clear hC2 hO2 H3 H4 z1 z2 z3 z4 y1 y2 y3 o0 o1 o2 o3 DS
    obtain ⟨o0, o1, o2, o3⟩ := DG.four
    obtain ⟨p0, p1, p2, p3⟩ := DH.four
    go_wp2_with fail
    refine HSm.out.mono ?_
    rintro e w6 ⟨rfl, hb7⟩
    have hb07 := below_step hb06 hb7
    go_wp2_with fail
    go_ret
    exact ⟨by first | rfl | simp, hb07⟩
  · have g1 : (E != 0) = true := by simpa using h0
    have hb03 := below_step hb02 hb3
    have hb04 := hb03.alloc hb03.size (.cells #[.slice none 0 0, .slice none 0 0, .slice none 0 0, .slice none 0 0] 28)
    clear s0 s1 s2 s3
    go_wp2_with fail
    go_ret
    exact ⟨by first | rfl | simp, hb04⟩

namespace StoreTwice
open Go.ChangeShapes Go.WideShapes Go.ChangeAt Go.RowKit
theorem own : ownKnob Try.prog.godebug = none := by kernel_rfl
theorem laidOut : laidOutB Try.prog = true := by kernel_rfl

set_option maxRecDepth 100000 in
theorem lifted (os : Os) (started : os.Started) (H : Type) (enc : TypeId × Value → H) :
    ReturnsInHanded {} Try.checked os 3 .any (Rows.storeTwiceSpec.pre6 enc Try.prog Try.f3 Rows.storeTwiceRow.domain false) (Rows.storeTwiceSpec.post enc Try.prog Try.f3 false true false false) := by
  refine returnsInHanded_of_change (C := Try.checked) own started (by as_aux_lemma => kernel_rfl) Try.func3
    (ChangeSpec.witness6 (enc := enc) (C := Try.checked) false ⟨#[], #[.agg #[.slice none 0 0, .slice none 0 0, .slice none 0 0, .slice none 0 0]], []⟩ 8 (by as_aux_lemma => kernel_rfl) (by as_aux_lemma => kernel_rfl) (by as_aux_lemma => kernel_rfl) (by as_aux_lemma => kernel_rfl)) ?_
  intro W base args ds gs before hval0 hW hcnd _
  have hval : ∀ (j : Nat) t v, Try.f3.params[j]? = some t → args[j]? = some v → Value.okWide Try.prog W .any base t v := hval0
  have hW' := hW
  obtain ⟨p, q, hA0, hV, rfl, hfz, hnd⟩ := hW
  have hA : DataW.TrodAll enc Try.prog W 0 (fun _ => true) true Try.f3.params.toList args.toList ds p := hA0
  rw [Try.params3] at hA hval
  obtain ⟨v0, vs0, d0, ds0, p0, q0, hargs, rfl, rfl, h0, hA⟩ := trodAll_cons hA
  obtain ⟨rfl, rfl, rfl⟩ := trodAll_nil hA
  obtain rfl : args = #[v0] := by cases args; simp_all
  obtain ⟨A0, n0, c0, RA0, rn0, rc0, PA0, pn0, pc0, HA0, hn0, hc0, S0, rfl, hR0, hK0⟩ := open_store (hval 0 _ v0 rfl rfl) (fun x hx => hW'.lt x (by simp [hx])) h0
  refine (storeTwice_any A0 n0 c0 RA0 rn0 rc0 PA0 pn0 pc0 HA0 hn0 hc0 S0 W hR0 hK0).mono fun e W' ⟨he, hb⟩ => ?_
  subst he
  exact ⟨_, rfl, law_post laidOut Try.underlying4 rfl (by as_aux_lemma => kernel_rfl) rfl rfl hW' hb⟩

set_option maxHeartbeats 10000000 in
theorem closed : joinedFacts Try.prog 3 Try.f3 Rows.storeTwiceSpec Rows.storeTwiceRow = true := by
  unfold joinedFacts
  simp only [Bool.and_eq_true]
  repeat' apply And.intro
  all_goals as_aux_lemma => kernel_rfl

set_option maxHeartbeats 1000000 in
theorem proved : Rows.StoreTwiceSaid :=
  OpenClaim.holds_of_wide 3 Try.f3 rfl rfl rfl rfl rfl rfl rfl ⟨rfl, rfl, rfl, rfl, rfl⟩ rfl rfl rfl rfl rfl (by as_aux_lemma => kernel_rfl) Try.func3 closed
    (of_decide_eq_true (by as_aux_lemma => kernel_rfl)) (by unfold Func.isWrapper; first | (rw [if_pos (by decide +kernel)]; kernel_rfl) | (rw [if_neg (by decide +kernel)]; exact ⟨rfl, rfl⟩))
    (fun os started H enc _ => lifted os started H enc)
end StoreTwice
end Go.Proofs.Ytjdpcmmmdaffdaa
