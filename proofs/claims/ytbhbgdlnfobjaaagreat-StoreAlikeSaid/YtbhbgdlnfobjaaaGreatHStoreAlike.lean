/-
  StoreAlike answers true for every store, and changes no argument: a collected store is isomorphic to the original one, its pins are unchanged, and it contains nothing else. No condition.
-/
import Derived.Test.YtbhbgdlnfobjaaaGreatG9
import Derived.Test.YtbhbgdlnfobjaaaGreatG11
import Derived.Test.YtbhbgdlnfobjaaaGreatG12
namespace Go.Proofs.YtbhbgdlnfobjaaaGreat
open Go.RowKit

set_option maxRecDepth 100000 in
set_option maxHeartbeats 4000000 in
theorem storeAlike_any (A : Option Addr) (n c : Nat) (RA : Option Addr) (rn rc : Nat) (PA : Option Addr) (pn pc : Nat) (HA : Option Addr) (hn hc : Nat) (S : St) (w : World)
    (hR : StR w w.heap.size A n RA rn PA pn HA hn S) (hK : StK n c rn pn hn S) :
    Calls Tryz.prog 3 #[.agg #[.slice A n c, .slice RA rn rc, .slice PA pn pc, .slice HA hn hc]] w fun e w' => e = .returned (.bool true) ∧ Below w.heap.size w w' := by
  have HH := Lib.hid stores_true
  have H3 := Lib.hid (fun w hR => collectFn_any A n c RA rn rc PA pn pc HA hn hc S w hR hK)
  have HL := Lib.hid hR.lens
  have HK := Lib.hid hK
  generalize stE S = E at *
  have hb1 := below_new w (.cells #[.slice A n c, .slice RA rn rc, .slice PA pn pc, .slice HA hn hc] 28)
  have DS := Blk.new w 28 #[.slice A n c, .slice RA rn rc, .slice PA pn pc, .slice HA hn hc]
  clear hK
  go_enter Tryz.func3, Tryz.ntmps3
  go_wp2_with fail
  refine (HH.out _).mono ?_
  rintro e w1 ⟨rfl, hb2⟩
  have hb02 := below_step hb1 hb2
  have DS := DS.below hb2 DS.lt
  obtain ⟨s0, s1, s2, s3⟩ := DS.four
  clear HH
  go_wp2_with fail
  refine (H3.out _ ((hR.below hb02).more hb02.size)).mono ?_
  rintro e w2 ⟨hb3, ⟨hOK, S', fr, L, Y, now, A1, c1, A2, c2, A3, c3, A4, c4, hC, rfl, hO⟩ | ⟨h0, rfl⟩⟩
  · have hb03 := below_step hb02 hb3
    have hb04 := hb03.alloc hb03.size (.cells #[.slice A1 n c1, .slice A2 rn c2, .slice A3 pn c3, .slice A4 hn c4] 28)
    have DG := Blk.new w2 28 #[.slice A1 n c1, .slice A2 rn c2, .slice A3 pn c3, .slice A4 hn c4]
    have DS := (DS.below hb3 DS.lt).alloc (.cells #[.slice A1 n c1, .slice A2 rn c2, .slice A3 pn c3, .slice A4 hn c4] 28)
    have hK2 := hO.known (hC.wf HK.out.wf)
    have hR2 := (hO.below (below_new w2 (.cells #[.slice A1 n c1, .slice A2 rn c2, .slice A3 pn c3, .slice A4 hn c4] 28))).reads
    have hR1 := (hR.below hb04).more hb04.size
    have hOK2 := hC.ok hOK
    obtain ⟨z1, z2, z3, z4⟩ := HL.out
    obtain ⟨y1, y2, y3, y4, y5⟩ := hOK.lens
    obtain ⟨v1, v2, v3, v4⟩ := hR2.lens
    obtain ⟨u1, u2, u3, u4, u5⟩ := hOK2.lens
    obtain ⟨f0, f1, f2, f3, -⟩ := hC.free
    have HRs := Lib.hid (fun w hR => rooted_any A n c RA rn rc PA pn pc HA hn hc S w hR (by omega) (by omega) (by omega))
    have HRx := Lib.hid (fun w hR => rooted_any A1 n c1 A2 rn c2 A3 pn c3 A4 hn c4 S' w hR (by omega) (by omega) (by omega))
    obtain ⟨k1, hk1⟩ : ∃ k, k = (rootedL S).length := ⟨_, rfl⟩
    obtain ⟨k2, hk2⟩ : ∃ k, k = (rootedL S').length := ⟨_, rfl⟩
    rw [← hk1] at HRs
    rw [← hk2] at HRx
    have hAl := fun (As : Option Addr) (cs : Nat) (Ax : Option Addr) (cx : Nat) (w : World) (hr hr2 hr3 hr4) => alike_any A n c S.a As k1 cs (rootedL S) A1 n c1 S'.a Ax k2 cx (rootedL S') w hr HK.out.cap HK.out.wf hr2 (by omega) hOK.wfr hr3 hK2.cap hK2.wf hr4 (by omega) hOK2.wfr
    have HAl := Lib.hid (fun (As : Option Addr) (cs : Nat) (Ax : Option Addr) (cx : Nat) (w : World) (hr hr2 hr3 hr4) => (show Calls Tryz.prog 7 #[.slice A n c, .slice As k1 cs, .slice A1 n c1, .slice Ax k2 cx] w fun e w' => Below w.heap.size w w' ∧ e = .returned (.tuple #[.bool true, .int .i64 0]) by
      refine (hAl As cs Ax cx w hr hr2 hr3 hr4).mono ?_
      rintro e w' ⟨hb, ⟨-, -, os, fo, os', fo', h1, h2, rfl⟩ | ⟨hno, -⟩⟩
      · obtain ⟨rfl, rfl⟩ := hC.alike hOK h1 h2
        exact ⟨hb, by simp⟩
      · exact absurd ⟨hOK.alive, hOK2.alive⟩ hno))
    have HWd := Lib.hid (fun (Ax : Option Addr) (cx : Nat) (w : World) (hr hr2) => twords_ok A1 n c1 S'.a Ax k2 cx (rootedL S') Y w hr hK2.cap hK2.wf hr2 (by omega) hOK2.wfr hOK2.arena (hC.reached hOK))
    rw [hC.longs] at HWd
    obtain ⟨v, hv⟩ : ∃ v : Nat, longsL (spotsL S.a) L = v := ⟨(longsL (spotsL S.a) L).toNat, by omega⟩
    rw [hv] at HWd
    obtain ⟨f, rfl⟩ : ∃ f : Nat, fr = f := ⟨fr.toNat, by omega⟩
    have hwa : IntKind.i64.wrap ((v : Int) + f) = n := (IntWalk.i64_in _ (by omega)).trans (by omega)
    have HCk := Lib.hid (fun w hR => stcheck_any A1 n c1 A2 rn c2 A3 pn c3 A4 hn c4 S' w hR hK2)
    rw [stE_ok.2 hOK2] at HCk
    have HP : Hid (S'.p = S.p) := hC.p
    obtain ⟨W0, hW0⟩ : ∃ W0, W0 = w2.alloc (.cells #[.slice A1 n c1, .slice A2 rn c2, .slice A3 pn c3, .slice A4 hn c4] 28) := ⟨_, rfl⟩
    rw [← hW0] at hR1 hR2 hb04 DG DS
    have HW0 := Lib.hid hW0
    have HEq := Lib.hid (fun W r r' => equal_pin A3 PA pn c3 pc W0.heap.size W0.heap.size S.p W r r' (by omega))
    clear hO hOK hC hOK2 hK2 hAl hW0 z1 z2 z3 z4 y1 y2 y3 y4 y5 v1 v2 v3 v4 u1 u2 u3 u4 u5 f0 f1 f2 f3 hv hk1 hk2 s0 s1 s2 s3 hb1 hb2 hb3 hb02 hb03
    go_upto_region 6 with fail
    rw [← HW0.out]
    go_cut [6, 7] from 10 to 93 (fun s6 s7 wc => s6 = .bool true ∧ s7 = .int .i64 0 ∧ Below W0.heap.size W0 wc)
    case first =>
      have hb := Below.refl W0.heap.size W0 |>.drew
      have DS := DS.drew
      have DG := DG.drew
      obtain ⟨s0, s1, s2, s3⟩ := DS.four
      obtain ⟨o0, o1, o2, o3⟩ := DG.four
      go_region_held3 (fun w' => (w'.cell? ⟨w.heap.size, 0, none⟩ = some (.slice A n c) ∧ w'.cell? ⟨w.heap.size, 1, none⟩ = some (.slice RA rn rc) ∧ w'.cell? ⟨w.heap.size, 2, none⟩ = some (.slice PA pn pc) ∧ w'.cell? ⟨w.heap.size, 3, none⟩ = some (.slice HA hn hc)) ∧ w'.cell? ⟨w2.heap.size, 0, none⟩ = some (.slice A1 n c1) ∧ w'.cell? ⟨w2.heap.size, 1, none⟩ = some (.slice A2 rn c2) ∧ w'.cell? ⟨w2.heap.size, 2, none⟩ = some (.slice A3 pn c3) ∧ w'.cell? ⟨w2.heap.size, 3, none⟩ = some (.slice A4 hn c4)) (go_keep)
        (first
          | (go_at_call 8; (with_reducible refine (HRs.out _ ((hR1.below hb).more hb.size)).mono ?_); rintro e wA ⟨As, cs, rfl, hoS, hbA⟩; have DS := DS.below hbA DS.lt; have DG := DG.below hbA DG.lt; obtain ⟨s0, s1, s2, s3⟩ := DS.four; obtain ⟨o0, o1, o2, o3⟩ := DG.four; (try have hoX := own_below hoX hbA); have hb := hb.trans (hbA.mono hb.size))
          | (go_at_call 8; (with_reducible refine (HRx.out _ ((hR2.below hb).more hb.size)).mono ?_); rintro e wB ⟨Ax, cx, rfl, hoX, hbB⟩; have DS := DS.below hbB DS.lt; have DG := DG.below hbB DG.lt; obtain ⟨s0, s1, s2, s3⟩ := DS.four; obtain ⟨o0, o1, o2, o3⟩ := DG.four; (try have hoS := own_below hoS hbB); have hb := hb.trans (hbB.mono hb.size))
          | (go_at_call 7; (with_reducible refine (HAl.out As cs Ax cx _ ((hR1.a.below hb).more hb.size) (Reads.of_own hoS) ((hR2.a.below hb).more hb.size) (Reads.of_own hoX)).mono ?_); rintro e wC ⟨hbC, rfl⟩; have DS := DS.below hbC DS.lt; have DG := DG.below hbC DG.lt; obtain ⟨s0, s1, s2, s3⟩ := DS.four; obtain ⟨o0, o1, o2, o3⟩ := DG.four; have hb := hb.trans (hbC.mono hb.size)))
      all_goals
        go_wp2_with fail
        go_meet
        exact ⟨rfl, rfl, hb⟩
    case rest =>
      obtain ⟨rfl, rfl, hbc⟩ := hcut
      have DS := DS.below hbc DS.lt
      have DG := DG.below hbc DG.lt
      have hR2c := (hR2.below hbc).more hbc.size
      have hb5 := hb04.trans (hbc.mono hb04.size)
      clear HAl HRs
      go_upto_region 7 with fail
      go_cut [8, 9] from 10 to 93 (fun s8 s9 wd => s8 = .int .i64 v ∧ s9 = .int .i64 0 ∧ Below wc.heap.size wc wd)
      case first =>
        have hb := Below.refl wc.heap.size wc |>.drew
        have DG := DG.drew
        obtain ⟨o0, o1, o2, o3⟩ := DG.four
        go_region_held3 (fun w' => w'.cell? ⟨w2.heap.size, 0, none⟩ = some (.slice A1 n c1) ∧ w'.cell? ⟨w2.heap.size, 1, none⟩ = some (.slice A2 rn c2) ∧ w'.cell? ⟨w2.heap.size, 2, none⟩ = some (.slice A3 pn c3) ∧ w'.cell? ⟨w2.heap.size, 3, none⟩ = some (.slice A4 hn c4)) (go_keep)
          (first
            | (go_at_call 8; (with_reducible refine (HRx.out _ ((hR2c.below hb).more hb.size)).mono ?_); rintro e wB ⟨Ax, cx, rfl, hoX, hbB⟩; have DG := DG.below hbB DG.lt; obtain ⟨o0, o1, o2, o3⟩ := DG.four; have hb := hb.trans (hbB.mono hb.size))
            | (go_at_call 9; (with_reducible refine (HWd.out Ax cx _ ((hR2c.a.below hb).more hb.size) (Reads.of_own hoX)).mono ?_); rintro e wC ⟨hbC, rfl⟩; have DG := DG.below hbC DG.lt; obtain ⟨o0, o1, o2, o3⟩ := DG.four; have hb := hb.trans (hbC.mono hb.size)))
        all_goals
          go_wp2_with fail
          go_meet
          exact ⟨rfl, rfl, hb⟩
      case rest =>
        obtain ⟨rfl, rfl, hbd⟩ := hcut
        have DSd := DS.below hbd DS.lt
        have DGd := DG.below hbd DG.lt
        have hb6 := below_step hb5 hbd
        have hR2d := (hR2c.below hbd).more hbd.size
        have hp1 := (hR1.p.below hbc).below (hbd.mono hbc.size)
        have hp2 : Reads W0 W0.heap.size 2 A3 pn (runsC S.p) := by rw [← HP.out]; exact hR2.p
        have hp3 := (hp2.below hbc).below (hbd.mono hbc.size)
        have hx0 := reads_new wc [.int .i64 0, .int .i64 0] 30 2 1 rfl
        have hbn := below_new wc (.cells #[.int .i64 0, .int .i64 0] 30)
        have HG := Lib.hid (good_of (some ⟨wc.heap.size, 0, none⟩) 2 2 _ [0, 0] true _ (by decide) (by simpa using hx0) (by decide))
        have hb7 := below_step hb6 hbn
        have DSe := DSd.alloc (.cells #[.int .i64 0, .int .i64 0] 30)
        have DGe := DGd.alloc (.cells #[.int .i64 0, .int .i64 0] 30)
        have hp4 := hp1.below (hbn.mono (Nat.le_trans hbc.size hbd.size))
        have hp5 := hp3.below (hbn.mono (Nat.le_trans hbc.size hbd.size))
        have hR2e := (hR2d.below hbn).more hbn.size
        obtain ⟨s0, s1, s2, s3⟩ := DSe.four
        obtain ⟨o0, o1, o2, o3⟩ := DGe.four
        clear hx0 hp1 hp2 hp3 hR2d hR2c hR1 hR2 hbc hbd hR hb5 hb6
        go_wp2_with fail
        refine HG.out.mono ?_
        rintro e w5 ⟨rfl, rfl⟩
        go_wp2_with fail
        refine Calls.mono (HEq.out _ (by exact hp5) (by exact hp4)) ?_
        rintro e w6 ⟨rfl, q, rfl⟩
        go_wp2_with fail
        refine Calls.mono (HCk.out _ (by exact ⟨hR2e.a, hR2e.r, hR2e.p, hR2e.l⟩)) ?_
        rintro e w7 ⟨rfl, hb8⟩
        have hb9 := below_step (below_drewN hb7 q) hb8
        have DSf := (DSe.drewN q).below hb8 DSe.lt
        have DGf := (DGe.drewN q).below hb8 DGe.lt
        clear s0 s1 s2 s3 o0 o1 o2 o3
        obtain ⟨s0, s1, s2, s3⟩ := DSf.four
        obtain ⟨o0, o1, o2, o3⟩ := DGf.four
        go_wp2_with fail
        go_ret
        exact ⟨by first | rfl | simp, hb9⟩
  · have g1 : (E != 0) = true := by simpa using h0
    have hb03 := below_step hb02 hb3
    have hb04 := hb03.alloc hb03.size (.cells #[.slice none 0 0, .slice none 0 0, .slice none 0 0, .slice none 0 0] 28)
    have DG := Blk.new w2 28 #[.slice none 0 0, .slice none 0 0, .slice none 0 0, .slice none 0 0]
    obtain ⟨o0, o1, o2, o3⟩ := DG.four
    clear s0 s1 s2 s3
    go_wp2_with fail
    go_ret
    exact ⟨by first | rfl | simp, hb04⟩

namespace StoreAlike
open Go.ChangeShapes Go.WideShapes Go.ChangeAt Go.RowKit
theorem own : ownKnob Tryz.prog.godebug = none := by kernel_rfl
theorem laidOut : laidOutB Tryz.prog = true := by kernel_rfl

set_option maxRecDepth 100000 in
theorem lifted (os : Os) (started : os.Started) (H : Type) (enc : TypeId × Value → H) :
    ReturnsInHanded {} Tryz.checked os 3 .any (Rows.storeAlikeSpec.pre6 enc Tryz.prog Tryz.f3 Rows.storeAlikeRow.domain false) (Rows.storeAlikeSpec.post enc Tryz.prog Tryz.f3 false true false false) := by
  refine returnsInHanded_of_change (C := Tryz.checked) own started (by as_aux_lemma => kernel_rfl) Tryz.func3
    (ChangeSpec.witness6 (enc := enc) (C := Tryz.checked) false ⟨#[], #[.agg #[.slice none 0 0, .slice none 0 0, .slice none 0 0, .slice none 0 0]], []⟩ 8 (by as_aux_lemma => kernel_rfl) (by as_aux_lemma => kernel_rfl) (by as_aux_lemma => kernel_rfl) (by as_aux_lemma => kernel_rfl)) ?_
  intro W base args ds gs before hval0 hW hcnd _
  have hval : ∀ (j : Nat) t v, Tryz.f3.params[j]? = some t → args[j]? = some v → Value.okWide Tryz.prog W .any base t v := hval0
  have hW' := hW
  obtain ⟨p, q, hA0, hV, rfl, hfz, hnd⟩ := hW
  have hA : DataW.TrodAll enc Tryz.prog W 0 (fun _ => true) true Tryz.f3.params.toList args.toList ds p := hA0
  rw [Tryz.params3] at hA hval
  obtain ⟨v0, vs0, d0, ds0, p0, q0, hargs, rfl, rfl, h0, hA⟩ := trodAll_cons hA
  obtain ⟨rfl, rfl, rfl⟩ := trodAll_nil hA
  obtain rfl : args = #[v0] := by cases args; simp_all
  obtain ⟨A0, n0, c0, RA0, rn0, rc0, PA0, pn0, pc0, HA0, hn0, hc0, S0, rfl, hR0, hK0⟩ := open_store (hval 0 _ v0 rfl rfl) (fun x hx => hW'.lt x (by simp [hx])) h0
  refine (storeAlike_any A0 n0 c0 RA0 rn0 rc0 PA0 pn0 pc0 HA0 hn0 hc0 S0 W hR0 hK0).mono fun e W' ⟨he, hb⟩ => ?_
  subst he
  exact ⟨_, rfl, law_post laidOut Tryz.underlying4 rfl (by as_aux_lemma => kernel_rfl) rfl rfl hW' hb⟩

set_option maxHeartbeats 10000000 in
theorem closed : joinedFacts Tryz.prog 3 Tryz.f3 Rows.storeAlikeSpec Rows.storeAlikeRow = true := by
  unfold joinedFacts
  simp only [Bool.and_eq_true]
  repeat' apply And.intro
  all_goals as_aux_lemma => kernel_rfl

set_option maxHeartbeats 1000000 in
theorem proved : Rows.StoreAlikeSaid :=
  OpenClaim.holds_of_wide 3 Tryz.f3 rfl rfl rfl rfl rfl rfl rfl ⟨rfl, rfl, rfl, rfl, rfl⟩ rfl rfl rfl rfl rfl (by as_aux_lemma => kernel_rfl) Tryz.func3 closed
    (of_decide_eq_true (by as_aux_lemma => kernel_rfl)) (by unfold Func.isWrapper; first | (rw [if_pos (by decide +kernel)]; kernel_rfl) | (rw [if_neg (by decide +kernel)]; exact ⟨rfl, rfl⟩))
    (fun os started H enc _ => lifted os started H enc)
end StoreAlike
end Go.Proofs.YtbhbgdlnfobjaaaGreat
