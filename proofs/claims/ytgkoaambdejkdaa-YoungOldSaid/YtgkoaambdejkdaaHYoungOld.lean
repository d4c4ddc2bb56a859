/-
  YoungOld answers true for all ages and lists, and changes no argument: who is old stays, and stays as it is; who goes was young, and is free then.
-/
import Derived.BigQuiet
import Derived.Test.YtgkoaambdejkdaaG2
import Derived.Test.YtgkoaambdejkdaaG3
import Derived.Test.YtgkoaambdejkdaaG4
import Derived.Test.YtgkoaambdejkdaaG10
import Derived.Test.YtgkoaambdejkdaaG16
namespace Go.Proofs.Ytgkoaambdejkdaa
open Go.RowKit

set_option maxRecDepth 100000 in
set_option maxHeartbeats 4000000 in
theorem youngOld_any (A : Option Addr) (n c : Nat) (G : Option Addr) (gn gc : Nat) (K : Option Addr) (kn kc : Nat) (a g b : List Int) (A2 : Option Addr) (n2 c2 : Nat) (f : List Int) (w : World) (hR : TriR w w.heap.size A n c G gn K kn a g b) (hn : n ≤ 140737488355328) (hq : gn + kn ≤ 35184372087808)
    (hr2 : Reads w w.heap.size 1 A2 n2 (f.map (.int .i64))) (hnc2 : n2 ≤ c2) (hc2 : c2 ≤ maxLen) (hx2 : ∀ x ∈ f, (Lit.int .i64 x).wf = true) (hm1 : n2 * 8 ≤ 140737488351232) :
    Calls Try.prog 6 #[.agg #[.slice A n c, .slice G gn gc, .slice K kn kc], .slice A2 n2 c2] w fun e w' => e = .returned (.bool true) ∧ Below w.heap.size w w' := by
  clear hc2 hnc2
  have hb0 := below_new w (.cells #[.slice A n c, .slice G gn gc, .slice K kn kc] 52)
  have DS := Blk.new w 52 #[.slice A n c, .slice G gn gc, .slice K kn kc]
  by_cases hT : AgesOk a g b
  · have HG := Lib.hid (fun (w : World) (hR : TriR w w.heap.size A n c G gn K kn a g b) (hr2 : Reads w w.heap.size 1 A2 n2 (f.map (.int .i64))) => youngGrow_ok A n c G gn gc K kn kc a g b A2 n2 c2 f w hR.ra hR.nc hR.aw hR.rg hR.gw hR.rb hR.bw hr2 (by omega) hx2 hT)
    have HBgn := Lib.hid (fun (w : World) (hR : TriR w w.heap.size A n c G gn K kn a g b) => begins_any A n c a w hR.ra hR.aw)
    have HT := Lib.hid hT
    have HR := Lib.hid hR
    have HR2 := Lib.hid hr2
    have hgn256 : gn ≤ 256 := by have := hT.lens.1; have h2 := hR.rg.1; simp at h2; omega
    have HG0 := Lib.hid ((checkE_ok.1 hT.ok).1)
    clear hx2 hT hR hr2
    go_enter Try.func6, Try.ntmps6
    go_wp2_with fail
    refine (youths_true _).mono ?_
    rintro e w1 ⟨rfl, hb1⟩
    have hb01 := below_step hb0 hb1
    have DS1 := DS.below hb1 DS.lt
    have HG1 := Lib.hid (HG.out w1 ((HR.out.below hb01).more hb01.size) ((HR2.out.below hb01).more hb01.size))
    obtain ⟨s0, s1, s2⟩ := DS1.three
    clear hb0 hb1 HG DS
    go_wp2_with fail
    refine HG1.out.mono ?_
    rintro e w2 ⟨hb2, ⟨-, rfl⟩ | ⟨hall, L, a', D, A1, n1, c1, A3, n3, c3, hK, hF, hD, rfl, hO⟩⟩
    · have hbx := (below_step hb01 hb2).alloc (below_step hb01 hb2).size (.cells #[.slice none 0 0, .slice none 0 0, .slice none 0 0] 52)
      have k0 := (Blk.new w2 52 #[.slice none 0 0, .slice none 0 0, .slice none 0 0]).three.1
      go_wp2
      go_ret
      exact ⟨by first | rfl | simp, hbx⟩
    · have hAg := hF.ages HT.out hK hD
      have hb02 := below_step hb01 hb2
      have hb03 := hb02.alloc hb02.size (.cells #[.slice A1 n1 c1, .slice A3 n3 c3, .slice none 0 0] 52)
      have hX3 := (hO.alloc (.cells #[.slice A1 n1 c1, .slice A3 n3 c3, .slice none 0 0] 52)).reads
      have DX := Blk.new w2 52 #[.slice A1 n1 c1, .slice A3 n3 c3, .slice none 0 0]
      have DS3 := (DS1.below hb2 DS1.lt).alloc (.cells #[.slice A1 n1 c1, .slice A3 n3 c3, .slice none 0 0] 52)
      have HBg3 := Lib.hid (HBgn.out _ ((HR.out.below hb03).more hb03.size))
      have hn3l : (olderL g L).length = n3 := by have := hX3.rg.1; simpa using this
      have hn3 : n3 ≤ 1000 := by have := nodup_len (rise_nodup hAg.orr) hAg.ob; have := hAg.lens.1; omega
      have HFa : Hid (∀ x ∈ begsL (spotsL a), ∃ (i : Nat) (s : Spot), atIx a' x = i ∧ (spotsL a')[i]? = some s ∧ s.f = !decide (x ∈ olderL g L)) := fun x hx => by
        obtain ⟨i, s, h1, h2, h3⟩ := hF.at_ HG0.out hx
        refine ⟨i, s, h1, h2, ?_⟩
        rw [h3]
        have := hD x hx
        by_cases h : x ∈ olderL g L
        · rw [decide_eq_true h, decide_eq_false (fun h2 => this.1 h2 h)]; rfl
        · rw [decide_eq_false h, decide_eq_true (this.2 h)]; rfl
      have HSub : Hid (∀ x ∈ g, x ∈ olderL g L) := fun x hx => olderL_mem.2 (.inl hx)
      have HIn : Hid (∀ x ∈ olderL g L, x ∈ begsL (spotsL a)) := (hK.older HT.out).2.1
      have HX3 := Lib.hid hX3
      have HAg := Lib.hid hAg.ok
      obtain ⟨s0, s1, s2⟩ := DS3.three
      obtain ⟨x0, x1, x2⟩ := DX.three
      generalize olderL g L = OL at *
      clear hall hK hF hD hO hAg hX3 hb2 hb02 hn3l HG1 DS1
      go_wp2_with fail
      refine HBg3.out.mono ?_
      rintro e w4 ⟨hb4, A9, c9, rfl, hown9⟩
      have hb04 := below_step hb03 hb4
      have DX4 := DX.below hb4 DX.lt
      have DS4 := DS3.below hb4 DS3.lt
      have HX4 := Lib.hid ((HX3.out.below hb4).more hb4.size)
      have hrB := Reads.of_own hown9
      have hwx : w2.heap.size < w4.heap.size := DX4.lt
      have hww : w.heap.size < w4.heap.size := DS4.lt
      obtain ⟨BG, hBG⟩ : ∃ BG, BG = begsL (spotsL a) := ⟨_, rfl⟩
      have HBG := Lib.hid hBG
      rw [← hBG] at hrB ⊢
      obtain ⟨m, hm⟩ : ∃ m, m = BG.length := ⟨_, rfl⟩
      have HM := Lib.hid hm
      rw [← hm] at hrB ⊢
      have hm256 : m ≤ 1000 := by have := nodup_len (rise_nodup (begsL_rise HG0.out)) (M := begsL (spotsL a)) (fun x hx => hx); rw [hm, hBG]; unfold begsL; rw [List.length_map]; have := List.length_filter_le (fun s : Spot => !s.f) (spotsL a); have := spotsL_length a; omega
      clear hb4 hown9 HBg3 DX DS3 hBG hm hb03
      go_wp2
      go_loopw [8, 9, 10, 29] (fun _ _ _ i wr => ∃ j : Nat, j ≤ m ∧ i = .int .i64 j ∧ Below w4.heap.size w4 wr) (fun _ _ _ i _ => m - (intOf i).toNat)
      case atStart => exact ⟨0, Nat.zero_le _, rfl, Below.refl _ _⟩
      case round =>
        obtain ⟨j, hj, rfl, hb⟩ := hrel
        have DXr := DX4.below hb hwx
        have DSr := DS4.below hb hww
        obtain ⟨s0, s1, s2⟩ := DSr.three
        obtain ⟨x0, x1, x2⟩ := DXr.three
        by_cases hlt : j < m
        · obtain ⟨ad, x, rfl, had, hx, cx⟩ := (hrB.below hb).num hlt
          have hxb : x ∈ begsL (spotsL a) := by rw [← HBG.out]; exact List.mem_of_getElem? hx
          obtain ⟨i, s, hix, hsi, hsf⟩ := HFa.out x hxb
          have HAt := Lib.hid (at_ok A1 n1 c1 a' x i s wr ((HX4.out.below hb).more hb.size).ra HX4.out.nc HX4.out.aw HAg.out hix hsi)
          have hj1 : j + 1 ≤ m := hlt
          obtain ⟨loc, r, bb, t, fr⟩ := s
          dsimp only at hsf HAt
          have HSF := Lib.hid hsf
          clear hx hix hsi hxb hsf
          generalize r.toNat = rn at *
          generalize bb.toNat = bn at *
          go_wp2_with fail
          refine HAt.out.mono ?_
          rintro e w5 ⟨hb5, B1, d1, B2, d2, rfl, -, -⟩
          have hb45 := below_step hb hb5
          have hb46 := hb45.alloc hb45.size (.cells #[.int .i64 t, .slice B1 rn d1, .slice B2 bn d2, .bool fr] 56)
          have DSz := DS4.below hb46 hww
          have DXz := DX4.below hb46 hwx
          obtain ⟨s0, s1, s2⟩ := DSz.three
          obtain ⟨x0, x1, x2⟩ := DXz.three
          have k3 := (Blk.new w5 56 #[.int .i64 t, .slice B1 rn d1, .slice B2 bn d2, .bool fr]).cell 3
          simp only [List.getElem?_toArray, List.getElem?_cons_zero, List.getElem?_cons_succ] at k3
          clear HAt hb5 hb45
          cases fr
          · have hO : decide (x ∈ OL) = true := by have h := HSF.out; cases hd : decide (x ∈ OL) with | true => rfl | false => rw [hd] at h; exact absurd h (by decide)
            have C1 := Lib.hid (fun q => contains_int A3 n3 c3 _ OL x true ((w5.alloc (.cells #[.int .i64 t, .slice B1 rn d1, .slice B2 bn d2, .bool false]  56)).drewN q) ((HX4.out.rg.below hb46).drewN q) (by omega) hO)
            by_cases hg : x ∈ g
            · have C2 := Lib.hid (fun q => contains_int G gn gc _ g x true ((w5.alloc (.cells #[.int .i64 t, .slice B1 rn d1, .slice B2 bn d2, .bool false]  56)).drewN q) ((((HR.out.rg.below hb04).more hb04.size).below hb46).drewN q) (by omega) (decide_eq_true hg))
              clear hg hO
              go_wp2
              go_quiet ((go_at_call 20; (first | (with_reducible refine (C1.out _).mono ?_) | (with_reducible refine (C2.out _).mono ?_)); rintro e w' ⟨rfl, rfl⟩; exact ⟨rfl, _, rfl⟩))
              go_wp2
              go_roundw
              case rel => exact ⟨j + 1, hj1, by go_num, by first | exact hb46 | exact hb46.drew | exact below_drewN hb46 _⟩
              case measure => simp [intOf]; omega
            · have C2 := Lib.hid (fun q => contains_int G gn gc _ g x false ((w5.alloc (.cells #[.int .i64 t, .slice B1 rn d1, .slice B2 bn d2, .bool false]  56)).drewN q) ((((HR.out.rg.below hb04).more hb04.size).below hb46).drewN q) (by omega) (decide_eq_false hg))
              clear hg hO
              go_wp2
              go_quiet ((go_at_call 20; (first | (with_reducible refine (C1.out _).mono ?_) | (with_reducible refine (C2.out _).mono ?_)); rintro e w' ⟨rfl, rfl⟩; exact ⟨rfl, _, rfl⟩))
              go_wp2
              go_roundw
              case rel => exact ⟨j + 1, hj1, by go_num, by first | exact hb46 | exact hb46.drew | exact below_drewN hb46 _⟩
              case measure => simp [intOf]; omega
          · have hO : decide (x ∈ OL) = false := by have h := HSF.out; cases hd : decide (x ∈ OL) with | false => rfl | true => rw [hd] at h; exact absurd h (by decide)
            have C1 := Lib.hid (fun q => contains_int A3 n3 c3 _ OL x false ((w5.alloc (.cells #[.int .i64 t, .slice B1 rn d1, .slice B2 bn d2, .bool true]  56)).drewN q) ((HX4.out.rg.below hb46).drewN q) (by omega) hO)
            have hg : x ∉ g := fun h => (of_decide_eq_false hO) (HSub.out x h)
            have C2 := Lib.hid (fun q => contains_int G gn gc _ g x false ((w5.alloc (.cells #[.int .i64 t, .slice B1 rn d1, .slice B2 bn d2, .bool true]  56)).drewN q) ((((HR.out.rg.below hb04).more hb04.size).below hb46).drewN q) (by omega) (decide_eq_false hg))
            clear hg hO
            go_wp2
            go_quiet ((go_at_call 20; (first | (with_reducible refine (C1.out _).mono ?_) | (with_reducible refine (C2.out _).mono ?_)); rintro e w' ⟨rfl, rfl⟩; exact ⟨rfl, _, rfl⟩))
            go_wp2
            go_roundw
            case rel => exact ⟨j + 1, hj1, by go_num, by first | exact hb46 | exact hb46.drew | exact below_drewN hb46 _⟩
            case measure => simp [intOf]; omega
        · have g0 : decide (j < m) = false := decide_eq_false hlt
          have hb04r := below_step hb04 hb
          have HW1 := Lib.hid (fun W (hbW : Below w4.heap.size w4 W) => within_two G A3 gn gc n3 c3 g OL true W ((HR.out.rg.below (below_step hb04 hbW)).more (below_step hb04 hbW).size) (by omega) ((HX4.out.rg.below hbW).more hbW.size) (by omega) (decide_eq_true HSub.out))
          have HB2 := Lib.hid (fun W (hbW : Below w4.heap.size w4 W) => by have := HBgn.out W ((HR.out.below (below_step hb04 hbW)).more (below_step hb04 hbW).size); rw [← HBG.out, ← HM.out] at this; exact this)
          have HW2 := Lib.hid (fun W A8 c8 (hbW : Below w4.heap.size w4 W) (h8 : Reads W W.heap.size 1 A8 m (BG.map (.int .i64))) => within_two A3 A8 n3 c3 m c8 OL BG true W ((HX4.out.rg.below hbW).more hbW.size) (by omega) h8 (by omega) (decide_eq_true (by rw [HBG.out]; exact HIn.out)))
          go_upto_region 13 with fail
          have hbd : Below wr.heap.size wr wr.drew := (Below.refl _ _).drew
          obtain ⟨s0, s1, s2⟩ := DSr.drew.three
          obtain ⟨x0, x1, x2⟩ := DXr.drew.three
          have hz := hb.drew
          go_region_held3 (fun w' => w'.cell? ⟨w.heap.size, 1, none⟩ = some (.slice G gn gc) ∧ w'.cell? ⟨w.heap.size, 0, none⟩ = some (.slice A n c) ∧ w'.cell? ⟨w2.heap.size, 1, none⟩ = some (.slice A3 n3 c3)) (go_keep)
            (first
              | (go_at_call 12; (with_reducible refine (HW1.out _ hz).mono ?_); rintro e wz ⟨rfl, hbz⟩; have hz := below_step hz hbz; obtain ⟨s0, s1, s2⟩ := (DS4.below hz hww).three; obtain ⟨x0, x1, x2⟩ := (DX4.below hz hwx).three)
              | (go_at_call 14; (with_reducible refine (HB2.out _ hz).mono ?_); rintro e wz ⟨hbz, A8, c8, rfl, hown8⟩; have hr8 := Reads.of_own hown8; have hz := below_step hz hbz; obtain ⟨s0, s1, s2⟩ := (DS4.below hz hww).three; obtain ⟨x0, x1, x2⟩ := (DX4.below hz hwx).three)
              | (go_at_call 12; (with_reducible refine (HW2.out _ _ _ hz hr8).mono ?_); rintro e wz ⟨rfl, hbz⟩; have hz := below_step hz hbz; obtain ⟨s0, s1, s2⟩ := (DS4.below hz hww).three; obtain ⟨x0, x1, x2⟩ := (DX4.below hz hwx).three))
          all_goals
            go_wp2_with fail
            go_ret
            exact ⟨by first | rfl | simp, below_step hb04 hz⟩
  · have HG := Lib.hid (fun (w : World) (hR : TriR w w.heap.size A n c G gn K kn a g b) => youngGrow_bad A n c G gn gc K kn kc a g b A2 n2 c2 w hR.ra hR.nc hR.aw hR.rg hR.gw hR.rb hR.bw (by omega) (by omega) hT)
    have HR := Lib.hid hR
    clear hx2 hT hR hr2
    go_enter Try.func6, Try.ntmps6
    go_wp2_with fail
    refine (youths_true _).mono ?_
    rintro e w1 ⟨rfl, hb1⟩
    have hb01 := below_step hb0 hb1
    have DS1 := DS.below hb1 DS.lt
    have HG1 := Lib.hid (HG.out w1 ((HR.out.below hb01).more hb01.size))
    obtain ⟨s0, s1, s2⟩ := DS1.three
    clear hb0 hb1 HG DS
    go_wp2_with fail
    refine HG1.out.mono ?_
    rintro e w2 ⟨hb2, E, hE, rfl⟩
    have hE1 : (E != 0) = true := by simpa using hE
    have hbx := (below_step hb01 hb2).alloc (below_step hb01 hb2).size (.cells #[.slice none 0 0, .slice none 0 0, .slice none 0 0] 52)
    have k0 := (Blk.new w2 52 #[.slice none 0 0, .slice none 0 0, .slice none 0 0]).three.1
    clear hE
    go_wp2
    go_ret
    exact ⟨by first | rfl | simp, hbx⟩

namespace YoungOld
open Go.ChangeShapes Go.WideShapes Go.ChangeAt Go.RowKit
theorem own : ownKnob Try.prog.godebug = none := by kernel_rfl
theorem laidOut : laidOutB Try.prog = true := by kernel_rfl

set_option maxRecDepth 100000 in
theorem lifted (os : Os) (started : os.Started) (H : Type) (enc : TypeId × Value → H) :
    ReturnsInHanded {} Try.checked os 6 .any (Rows.youngOldSpec.pre6 enc Try.prog Try.f6 Rows.youngOldRow.domain false) (Rows.youngOldSpec.post enc Try.prog Try.f6 false true false false) := by
  refine returnsInHanded_of_change_sized (C := Try.checked) own started (by as_aux_lemma => kernel_rfl) Try.func6
    (ChangeSpec.witness6 (enc := enc) (C := Try.checked) false ⟨#[], #[.agg #[.slice none 0 0, .slice none 0 0, .slice none 0 0], .slice none 0 0], []⟩ 8 (by as_aux_lemma => kernel_rfl) (by as_aux_lemma => kernel_rfl) (by as_aux_lemma => kernel_rfl) (by as_aux_lemma => kernel_rfl)) ?_
  intro W base args ds gs before hval0 hW hcnd hsz _
  have hval : ∀ (j : Nat) t v, Try.f6.params[j]? = some t → args[j]? = some v → Value.okWide Try.prog W .any base t v := hval0
  have hW' := hW
  obtain ⟨p, q, hA0, hV, rfl, hfz, hnd⟩ := hW
  have hA : DataW.TrodAll enc Try.prog W 0 (fun _ => true) true Try.f6.params.toList args.toList ds p := hA0
  rw [Try.params6] at hA hval
  obtain ⟨v0, vs0, d0, ds0, p0, q0, hargs, rfl, rfl, h0, hA⟩ := trodAll_cons hA
  obtain ⟨v1, vs1, d1, ds1, p1, q1, rfl, rfl, rfl, h1, hA⟩ := trodAll_cons hA
  obtain ⟨rfl, rfl, rfl⟩ := trodAll_nil hA
  obtain rfl : args = #[v0, v1] := by cases args; simp_all
  obtain ⟨A0, n0, c0, G0, gn0, gc0, K0, kn0, kc0, a0, g0, b0, rfl, hR0, hn0, hq0⟩ := open_ages (hval 0 _ v0 rfl rfl) (fun x hx => hW'.lt x (by simp [hx])) h0 (fun m hm => by simpa using List.all_eq_true.1 hsz _ (DataW.weights_mem_each (j := 0) (t := 52) rfl rfl m hm))
  obtain ⟨A1, n1, c1, xs1, rfl, hnc1, hc1, hr1, hx1, hd1⟩ := open_nums2 Try.underlying23 Try.underlying3 (by as_aux_lemma => kernel_rfl) (hval 1 _ v1 rfl rfl) (fun x hx => hW'.lt x (by simp [hx])) h1
  have hm1 : n1 * 8 ≤ 140737488351232 := by
    rcases hd1 with h0 | ⟨D, E, rfl, hD⟩
    · omega
    · have h5 : (D.length + E.length) * Try.prog.bytesOf 3 ≤ reachBytes := sized_slice hsz (j := 1) (t := 23) (e := 3) rfl rfl Try.underlying23
      rw [k_int_bytes, hD] at h5
      simp only [reachBytes] at h5
      omega
  refine (youngOld_any A0 n0 c0 G0 gn0 gc0 K0 kn0 kc0 a0 g0 b0 A1 n1 c1 xs1 W hR0 hn0 hq0 hr1 hnc1 hc1 hx1 hm1).mono fun e W' ⟨he, hb⟩ => ?_
  subst he
  exact ⟨_, rfl, law_post laidOut Try.underlying4 rfl (by as_aux_lemma => kernel_rfl) rfl rfl hW' hb⟩

set_option maxHeartbeats 10000000 in
theorem closed : joinedFacts Try.prog 6 Try.f6 Rows.youngOldSpec Rows.youngOldRow = true := by
  unfold joinedFacts
  simp only [Bool.and_eq_true]
  repeat' apply And.intro
  all_goals as_aux_lemma => kernel_rfl

set_option maxHeartbeats 1000000 in
theorem proved : Rows.YoungOldSaid :=
  OpenClaim.holds_of_wide 6 Try.f6 rfl rfl rfl rfl rfl rfl rfl ⟨rfl, rfl, rfl, rfl, rfl⟩ rfl rfl rfl rfl rfl (by as_aux_lemma => kernel_rfl) Try.func6 closed
    (of_decide_eq_true (by as_aux_lemma => kernel_rfl)) (by unfold Func.isWrapper; first | (rw [if_pos (by decide +kernel)]; kernel_rfl) | (rw [if_neg (by decide +kernel)]; exact ⟨rfl, rfl⟩))
    (fun os started H enc _ => lifted os started H enc)
end YoungOld
end Go.Proofs.Ytgkoaambdejkdaa
