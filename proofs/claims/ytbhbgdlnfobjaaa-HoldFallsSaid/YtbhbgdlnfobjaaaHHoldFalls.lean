/-
  HoldFalls answers true for every store and all numbers, and changes no argument: Sure for more words implies Sure for fewer words, and Never for fewer words implies Never for more. No condition.
-/
import Derived.Test.YtbhbgdlnfobjaaaG9
import Derived.Test.YtbhbgdlnfobjaaaG10
namespace Go.Proofs.Ytbhbgdlnfobjaaa
open Go.RowKit

set_option maxRecDepth 100000 in
set_option maxHeartbeats 4000000 in
theorem holdFalls_any (A : Option Addr) (n c : Nat) (RA : Option Addr) (rn rc : Nat) (PA : Option Addr) (pn pc : Nat) (HA : Option Addr) (hn hc : Nat) (S : St) (N M : Int) (w : World)
    (hR : StR w w.heap.size A n RA rn PA pn HA hn S) (hK : StK n c rn pn hn S) (_ : (Lit.int .i64 N).wf = true) (_ : (Lit.int .i64 M).wf = true) :
    Calls Try.prog 3 #[.agg #[.slice A n c, .slice RA rn rc, .slice PA pn pc, .slice HA hn hc], .int .i64 N, .int .i64 M] w fun e w' => e = .returned (.bool true) ∧ Below w.heap.size w w' := by
  have HH := Lib.hid holds_true
  have HS1 := Lib.hid (fun w hR => sure_room A n c RA rn rc PA pn pc HA hn hc S N w hR hK)
  have HS2 := Lib.hid (fun w hR => sure_room A n c RA rn rc PA pn pc HA hn hc S M w hR hK)
  have HN1 := Lib.hid (fun w hR => never_room A n c RA rn rc PA pn pc HA hn hc S N w hR hK)
  have HN2 := Lib.hid (fun w hR => never_room A n c RA rn rc PA pn pc HA hn hc S M w hR hK)
  have HLaw := Lib.hid (hold_falls (S := S) (pn := pn) (N := N) (M := M))
  generalize sureB S pn N = a at *
  generalize sureB S pn M = b at *
  generalize neverB S N = x at *
  generalize neverB S M = d at *
  generalize holdE S N = E at *
  generalize holdE S M = F at *
  have hb1 := below_new w (.cells #[.slice A n c, .slice RA rn rc, .slice PA pn pc, .slice HA hn hc] 28)
  have DS := Blk.new w 28 #[.slice A n c, .slice RA rn rc, .slice PA pn pc, .slice HA hn hc]
  go_enter Try.func3, Try.ntmps3
  go_wp2_with fail
  refine (HH.out _).mono ?_
  rintro e w1 ⟨rfl, hb2⟩
  have hb02 := below_step hb1 hb2
  have DS := DS.below hb2 DS.lt
  obtain ⟨s0, s1, s2, s3⟩ := DS.four
  go_wp2_with fail
  refine (HS1.out _ ((hR.below hb02).more hb02.size)).mono ?_
  rintro e w2 ⟨rfl, hb3⟩
  have hb03 := below_step hb02 hb3
  have DS := DS.below hb3 DS.lt
  clear s0 s1 s2 s3
  obtain ⟨s0, s1, s2, s3⟩ := DS.four
  go_wp2_with fail
  refine (HS2.out _ ((hR.below hb03).more hb03.size)).mono ?_
  rintro e w3 ⟨rfl, hb4⟩
  have hb04 := below_step hb03 hb4
  have DS := DS.below hb4 DS.lt
  clear s0 s1 s2 s3
  obtain ⟨s0, s1, s2, s3⟩ := DS.four
  go_wp2_with fail
  refine (HN1.out _ ((hR.below hb04).more hb04.size)).mono ?_
  rintro e w4 ⟨rfl, hb5⟩
  have hb05 := below_step hb04 hb5
  have DS := DS.below hb5 DS.lt
  clear s0 s1 s2 s3
  obtain ⟨s0, s1, s2, s3⟩ := DS.four
  go_wp2_with fail
  refine (HN2.out _ ((hR.below hb05).more hb05.size)).mono ?_
  rintro e w5 ⟨rfl, hb6⟩
  have hb06 := below_step hb05 hb6
  clear s0 s1 s2 s3
  have hx0 := reads_new w5 [.int .i64 E, .int .i64 F, .int .i64 E, .int .i64 F] 30 4 1 rfl
  have hbn := below_new w5 (.cells #[.int .i64 E, .int .i64 F, .int .i64 E, .int .i64 F] 30)
  have hb07 := below_step hb06 hbn
  obtain ⟨g, hg⟩ : ∃ g, [E, F, E, F].all (· == 0) = g := ⟨_, rfl⟩
  have HG := Lib.hid (good_of (some ⟨w5.heap.size, 0, none⟩) 4 4 _ [E, F, E, F] g _ hg (by simpa using hx0) (by decide))
  have HGG : Hid (g = true → E = 0 ∧ F = 0) := fun h => by
    rw [h] at hg
    simp at hg
    exact ⟨hg.1, hg.2.1⟩
  clear hx0 hg HS1 HS2 HN1 HN2 HH
  cases g
  · go_wp2_with fail
    refine HG.out.mono ?_
    rintro e w6 ⟨rfl, rfl⟩
    go_wp2
    go_ret
    exact ⟨by first | rfl | simp, hb07⟩
  · by_cases hle : M < N
    · have g1 : decide (M < N) = true := decide_eq_true hle
      clear hle
      go_wp2_with fail
      refine HG.out.mono ?_
      rintro e w6 ⟨rfl, rfl⟩
      go_wp2
      go_ret
      exact ⟨by first | rfl | simp, hb07⟩
    · have g1 : decide (M < N) = false := decide_eq_false hle
      have HL2 := Lib.hid (HLaw.out (HGG.out rfl).1 (HGG.out rfl).2 (by omega))
      clear hle
      go_wp2_with fail
      refine HG.out.mono ?_
      rintro e w6 ⟨rfl, rfl⟩
      cases b <;> cases a <;> first | (exact absurd (HL2.out.1 rfl) (by decide)) | (cases x <;> cases d <;> first | (exact absurd (HL2.out.2 rfl) (by decide)) | (
        go_wp2
        go_ret
        exact ⟨by first | rfl | simp, hb07⟩))

namespace HoldFalls
open Go.ChangeShapes Go.WideShapes Go.ChangeAt Go.RowKit
theorem own : ownKnob Try.prog.godebug = none := by kernel_rfl
theorem laidOut : laidOutB Try.prog = true := by kernel_rfl

set_option maxRecDepth 100000 in
theorem lifted (os : Os) (started : os.Started) (H : Type) (enc : TypeId × Value → H) :
    ReturnsInHanded {} Try.checked os 3 .any (Rows.holdFallsSpec.pre6 enc Try.prog Try.f3 Rows.holdFallsRow.domain false) (Rows.holdFallsSpec.post enc Try.prog Try.f3 false true false false) := by
  refine returnsInHanded_of_change (C := Try.checked) own started (by as_aux_lemma => kernel_rfl) Try.func3
    (ChangeSpec.witness6 (enc := enc) (C := Try.checked) false ⟨#[], #[.agg #[.slice none 0 0, .slice none 0 0, .slice none 0 0, .slice none 0 0], .int .i64 0, .int .i64 0], []⟩ 8 (by as_aux_lemma => kernel_rfl) (by as_aux_lemma => kernel_rfl) (by as_aux_lemma => kernel_rfl) (by as_aux_lemma => kernel_rfl)) ?_
  intro W base args ds gs before hval0 hW hcnd _
  have hval : ∀ (j : Nat) t v, Try.f3.params[j]? = some t → args[j]? = some v → Value.okWide Try.prog W .any base t v := hval0
  have hW' := hW
  obtain ⟨p, q, hA0, hV, rfl, hfz, hnd⟩ := hW
  have hA : DataW.TrodAll enc Try.prog W 0 (fun _ => true) true Try.f3.params.toList args.toList ds p := hA0
  rw [Try.params3] at hA hval
  obtain ⟨v0, vs0, d0, ds0, p0, q0, hargs, rfl, rfl, h0, hA⟩ := trodAll_cons hA
  obtain ⟨v1, vs1, d1, ds1, p1, q1, rfl, rfl, rfl, h1, hA⟩ := trodAll_cons hA
  obtain ⟨v2, vs2, d2, ds2, p2, q2, rfl, rfl, rfl, h2, hA⟩ := trodAll_cons hA
  obtain ⟨rfl, rfl, rfl⟩ := trodAll_nil hA
  obtain rfl : args = #[v0, v1, v2] := by cases args; simp_all
  obtain ⟨A0, n0, c0, RA0, rn0, rc0, PA0, pn0, pc0, HA0, hn0, hc0, S0, rfl, hR0, hK0⟩ := open_store (hval 0 _ v0 rfl rfl) (fun x hx => hW'.lt x (by simp [hx])) h0
  obtain ⟨i1, rfl, rfl, rfl, w1⟩ := open_int Try.underlying3 (hval 1 _ v1 rfl rfl) h1
  obtain ⟨i2, rfl, rfl, rfl, w2⟩ := open_int Try.underlying3 (hval 2 _ v2 rfl rfl) h2
  refine (holdFalls_any A0 n0 c0 RA0 rn0 rc0 PA0 pn0 pc0 HA0 hn0 hc0 S0 i1 i2 W hR0 hK0 w1 w2).mono fun e W' ⟨he, hb⟩ => ?_
  subst he
  exact ⟨_, rfl, law_post laidOut Try.underlying4 rfl (by as_aux_lemma => kernel_rfl) rfl rfl hW' hb⟩

set_option maxHeartbeats 10000000 in
theorem closed : joinedFacts Try.prog 3 Try.f3 Rows.holdFallsSpec Rows.holdFallsRow = true := by
  unfold joinedFacts
  simp only [Bool.and_eq_true]
  repeat' apply And.intro
  all_goals as_aux_lemma => kernel_rfl

set_option maxHeartbeats 1000000 in
theorem proved : Rows.HoldFallsSaid :=
  OpenClaim.holds_of_wide 3 Try.f3 rfl rfl rfl rfl rfl rfl rfl ⟨rfl, rfl, rfl, rfl, rfl⟩ rfl rfl rfl rfl rfl (by as_aux_lemma => kernel_rfl) Try.func3 closed
    (of_decide_eq_true (by as_aux_lemma => kernel_rfl)) (by unfold Func.isWrapper; first | (rw [if_pos (by decide +kernel)]; kernel_rfl) | (rw [if_neg (by decide +kernel)]; exact ⟨rfl, rfl⟩))
    (fun os started H enc _ => lifted os started H enc)
end HoldFalls
end Go.Proofs.Ytbhbgdlnfobjaaa
