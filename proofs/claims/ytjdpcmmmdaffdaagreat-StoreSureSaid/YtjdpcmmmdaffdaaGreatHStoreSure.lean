/-
  StoreSure answers true for every store, number and head, and changes no argument: an allocation succeeds if Sure returns true, and fails if Never returns true. No condition.
-/
import Derived.Test.YtjdpcmmmdaffdaaGreatG11
import Derived.Test.YtjdpcmmmdaffdaaGreatG12
import Derived.Test.YtjdpcmmmdaffdaaGreatG13
namespace Go.Proofs.YtjdpcmmmdaffdaaGreat
open Go.RowKit

set_option maxRecDepth 100000 in
set_option maxHeartbeats 4000000 in
theorem makeFn_stE (A : Option Addr) (n c : Nat) (RA : Option Addr) (rn rc : Nat) (PA : Option Addr) (pn pc : Nat) (HA : Option Addr) (hn hc : Nat) (S : St) (slot r b t : Int) (f : Bool) (w : World) (hR : StR w w.heap.size A n RA rn PA pn HA hn S) (hK : StK n c rn pn hn S) (hE : stE S ≠ 0) :
    Calls Tryz.prog 10 #[.agg #[.slice A n c, .slice RA rn rc, .slice PA pn pc, .slice HA hn hc], .int .i64 slot, .agg #[.int .i64 r, .int .i64 b, .int .i64 t, .bool f]] w fun e w' => Below w.heap.size w w' ∧ e = .returned (.tuple #[.agg #[.slice none 0 0, .slice none 0 0, .slice none 0 0, .slice none 0 0], .bool false, .int .i64 (stE S)]) := by
  have HB := Lib.hid (fun w hR => stcheck_any A n c RA rn rc PA pn pc HA hn hc S w hR hK)
  have g1 : (stE S != 0) = true := by simpa using hE
  generalize stE S = F at *
  have hb0 := below_new w (.cells #[.slice A n c, .slice RA rn rc, .slice PA pn pc, .slice HA hn hc] 28)
  have hb00 := hb0.alloc hb0.size (.cells #[.int .i64 r, .int .i64 b, .int .i64 t, .bool f] 30)
  have hb1 := hb00.alloc hb00.size (.cells #[.slice none 0 0, .slice none 0 0, .slice none 0 0, .slice none 0 0] 28)
  have DS := ((Blk.new w 28 #[.slice A n c, .slice RA rn rc, .slice PA pn pc, .slice HA hn hc]).alloc (.cells #[.int .i64 r, .int .i64 b, .int .i64 t, .bool f] 30)).alloc (.cells #[.slice none 0 0, .slice none 0 0, .slice none 0 0, .slice none 0 0] 28)
  have DR := Blk.new ((w.alloc (.cells #[.slice A n c, .slice RA rn rc, .slice PA pn pc, .slice HA hn hc] 28)).alloc (.cells #[.int .i64 r, .int .i64 b, .int .i64 t, .bool f] 30)) 28 #[.slice none 0 0, .slice none 0 0, .slice none 0 0, .slice none 0 0]
  simp only [World.size_alloc] at DR
  obtain ⟨s0, s1, s2, s3⟩ := DS.four
  go_enter Tryz.func10, Tryz.ntmps10
  go_wp2_with fail
  refine (HB.out _ ((hR.below hb1).more hb1.size)).mono ?_
  rintro e w2 ⟨rfl, hb2⟩
  have hb02 := below_step hb1 hb2
  have DR2 := DR.below hb2 DR.lt
  clear s0 s1 s2 s3
  obtain ⟨r0, r1, r2, r3⟩ := DR2.four
  obtain ⟨f0, f1, f2, f3⟩ := DR2.four_frozen
  go_wp2_with fail
  refine bodyPost_ret (v := .tuple #[.agg #[.slice none 0 0, .slice none 0 0, .slice none 0 0, .slice none 0 0], .bool false, .int .i64 F]) ?_ rfl ⟨below_block4 hb02 (by omega) _ _ _ _, rfl⟩
  obtain ⟨z0, z1, z2, z3⟩ := (DR2.store4 (.slice none 0 0) (.slice none 0 0) (.slice none 0 0) (.slice none 0 0)).four
  simp only [results, Tryz.results10]
  go_simp

set_option maxRecDepth 100000 in
set_option maxHeartbeats 8000000 in
theorem storeSure_any (A : Option Addr) (n c : Nat) (RA : Option Addr) (rn rc : Nat) (PA : Option Addr) (pn pc : Nat) (HA : Option Addr) (hn hc : Nat) (S : St) (i1 r b t : Int) (f : Bool) (w : World) (hR : StR w w.heap.size A n RA rn PA pn HA hn S) (hK : StK n c rn pn hn S) (_ : (Lit.int .i64 i1).wf = true) :
    Calls Tryz.prog 3 #[.agg #[.slice A n c, .slice RA rn rc, .slice PA pn pc, .slice HA hn hc], .int .i64 i1, .agg #[.int .i64 r, .int .i64 b, .int .i64 t, .bool f]] w fun e w' => e = .returned (.bool true) ∧ Below w.heap.size w w' := by
  have HH := Lib.hid stores_true
  have hb0 := below_new w (.cells #[.slice A n c, .slice RA rn rc, .slice PA pn pc, .slice HA hn hc] 28)
  have hb1 := hb0.alloc hb0.size (.cells #[.int .i64 r, .int .i64 b, .int .i64 t, .bool f] 30)
  have DS := (Blk.new w 28 #[.slice A n c, .slice RA rn rc, .slice PA pn pc, .slice HA hn hc]).alloc (.cells #[.int .i64 r, .int .i64 b, .int .i64 t, .bool f] 30)
  have DH := Blk.new (w.alloc (.cells #[.slice A n c, .slice RA rn rc, .slice PA pn pc, .slice HA hn hc] 28)) 30 #[.int .i64 r, .int .i64 b, .int .i64 t, .bool f]
  rw [World.size_alloc] at DH
  by_cases hh : headE r b t f = 0
  · have HLo := Lib.hid (fun w => hlongc_ok r b t f w hh)
    cases f
    · by_cases h1 : i1 < 0
      · have g1 : decide (i1 < 0) = true := decide_eq_true h1
        generalize 1 + r + b = N at *
        clear h1
        go_enter Tryz.func3, Tryz.ntmps3
        go_wp2_with fail
        refine (HH.out _).mono ?_
        rintro e w1 ⟨rfl, hb2⟩
        have hb02 := below_step hb1 hb2
        have DS2 := DS.below hb2 DS.lt
        have DH2 := DH.below hb2 DH.lt
        obtain ⟨m0, m1, m2, m3⟩ := DH2.four
        clear HH
        go_wp2_with fail
        refine (HLo.out _).mono ?_
        rintro e w2 ⟨rfl, hb3⟩
        have hb03 := below_step hb02 hb3
        have DS3 := DS2.below hb3 DS2.lt
        have DH3 := DH2.below hb3 DH2.lt
        clear m0 m1 m2 m3
        obtain ⟨s0, s1, s2, s3⟩ := DS3.four
        obtain ⟨m0, m1, m2, m3⟩ := DH3.four
        go_wp2_with fail
        go_ret
        exact ⟨by first | rfl | simp, hb03⟩
      · obtain ⟨k, rfl⟩ := Int.eq_ofNat_of_zero_le (show 0 ≤ i1 by omega)
        have g1 : decide ((k : Int) < 0) = false := decide_eq_false h1
        by_cases h2 : rn ≤ k
        · have g2 : decide (rn ≤ k) = true := decide_eq_true h2
          generalize 1 + r + b = N at *
          clear h1 h2
          go_enter Tryz.func3, Tryz.ntmps3
          go_wp2_with fail
          refine (HH.out _).mono ?_
          rintro e w1 ⟨rfl, hb2⟩
          have hb02 := below_step hb1 hb2
          have DS2 := DS.below hb2 DS.lt
          have DH2 := DH.below hb2 DH.lt
          obtain ⟨m0, m1, m2, m3⟩ := DH2.four
          clear HH
          go_wp2_with fail
          refine (HLo.out _).mono ?_
          rintro e w2 ⟨rfl, hb3⟩
          have hb03 := below_step hb02 hb3
          have DS3 := DS2.below hb3 DS2.lt
          have DH3 := DH2.below hb3 DH2.lt
          clear m0 m1 m2 m3
          obtain ⟨s0, s1, s2, s3⟩ := DS3.four
          obtain ⟨m0, m1, m2, m3⟩ := DH3.four
          go_wp2_with fail
          go_ret
          exact ⟨by first | rfl | simp, hb03⟩
        · have g2 : decide (rn ≤ k) = false := decide_eq_false h2
          have HSu := Lib.hid (fun w hR => sure_any A n c RA rn rc PA pn pc HA hn hc S (1 + r + b) w hR hK)
          have HNe := Lib.hid (fun w hR => never_any A n c RA rn rc PA pn pc HA hn hc S (1 + r + b) w hR hK)
          obtain ⟨e1, e2, e3, e4, e5, e6, e7, -⟩ := headE_ok.1 hh
          have hN1 : 1 ≤ 1 + r + b := by omega
          have hA : argE (1 + r + b) = 0 := by unfold argE; rw [if_neg (by omega)]
          obtain ⟨z1, z2, z3, z4⟩ := hR.lens
          have HMk := Lib.hid (fun hOK w hR => makeFn_ok A n c RA rn rc PA pn pc HA hn hc S k r b t w hR hK hOK (by omega) hh)
          have HMs := Lib.hid (fun hE w hR => makeFn_stE A n c RA rn rc PA pn pc HA hn hc S k r b t false w hR hK hE)
          have HPn := Lib.hid z3
          have HN1 := Lib.hid hN1
          unfold NeverRet at HNe
          unfold SureRet at HSu
          rw [hA] at HSu HNe
          simp only [eq_self, decide_true, Bool.true_and] at HSu HNe
          obtain ⟨N, HN⟩ : ∃ N, Hid (N = 1 + r + b) := ⟨_, rfl⟩
          rw [← HN.out] at HSu HNe HMk HN1 HLo
          clear h1 h2 hA hN1 e1 e2 e3 e4 e5 e6 e7 z1 z2 z3 z4 hh
          go_enter Tryz.func3, Tryz.ntmps3
          go_wp2_with fail
          refine (HH.out _).mono ?_
          rintro e w1 ⟨rfl, hb2⟩
          have hb02 := below_step hb1 hb2
          have DS2 := DS.below hb2 DS.lt
          have DH2 := DH.below hb2 DH.lt
          obtain ⟨m0, m1, m2, m3⟩ := DH2.four
          clear HH
          go_wp2_with fail
          refine (HLo.out _).mono ?_
          rintro e w2 ⟨rfl, hb3⟩
          have hb03 := below_step hb02 hb3
          have DS3 := DS2.below hb3 DS2.lt
          have DH3 := DH2.below hb3 DH2.lt
          clear m0 m1 m2 m3
          obtain ⟨s0, s1, s2, s3⟩ := DS3.four
          obtain ⟨m0, m1, m2, m3⟩ := DH3.four
          go_wp2_with fail
          refine (HSu.out _ ((hR.below hb03).more hb03.size)).mono ?_
          rintro e w4 ⟨hb4, hor⟩
          have hb04 := below_step hb03 hb4
          have DS4 := DS3.below hb4 DS3.lt
          have DH4 := DH3.below hb4 DH3.lt
          clear s0 s1 s2 s3 m0 m1 m2 m3 HSu hb4 DS3 DH3
          obtain ⟨s0, s1, s2, s3⟩ := DS4.four
          rcases hor with ⟨hOK, S', fr, L, Y, now, hC, rfl⟩ | ⟨h0, rfl⟩
          · obtain ⟨su, hsu⟩ : ∃ su : Bool, su = decide (((pn : Int) + 1) * N ≤ fr) := ⟨_, rfl⟩
            rw [← hsu]
            have HC := Lib.hid (And.intro hC (And.intro hOK hsu))
            clear hC hsu
            go_wp2_with fail
            refine (HNe.out _ ((hR.below hb04).more hb04.size)).mono ?_
            rintro e w5 ⟨hb5, ⟨-, S2, fr2, L2, Y2, now2, hC2, rfl⟩ | ⟨h0, -⟩⟩
            rotate_left 1
            · exact absurd (stE_ok.2 hOK) h0
            obtain ⟨-, rfl⟩ := HC.out.1.unique hC2
            obtain ⟨ne, hne⟩ : ∃ ne : Bool, ne = decide (fr2 < N) := ⟨_, rfl⟩
            rw [← hne]
            have hb05 := below_step hb04 hb5
            have DS5 := DS4.below hb5 DS4.lt
            have DH5 := DH4.below hb5 DH4.lt
            have HMO : Hid (∀ w : World, StR w w.heap.size A n RA rn PA pn HA hn S → Calls Tryz.prog 10 #[.agg #[.slice A n c, .slice RA rn rc, .slice PA pn pc, .slice HA hn hc], .int .i64 k, .agg #[.int .i64 r, .int .i64 b, .int .i64 t, .bool false]] w fun e w' => Below w.heap.size w w' ∧ ∃ (M1 : Option Addr) (x1 y1 : Nat) (M2 : Option Addr) (x2 y2 : Nat) (M3 : Option Addr) (x3 y3 : Nat) (M4 : Option Addr) (x4 y4 : Nat) (sw : Bool) (E : Int), e = .returned (.tuple #[.agg #[.slice M1 x1 y1, .slice M2 x2 y2, .slice M3 x3 y3, .slice M4 x4 y4], .bool sw, .int .i64 E]) ∧ Hid ((E = 0 ∨ E = 7) ∧ (su = true → E = 0) ∧ (ne = true → E = 7) ∧ ¬ (su = true ∧ ne = true) ∧ (pn = 0 → su ≠ ne))) := by
              intro w hR
              obtain ⟨hC, hOK, hsu⟩ := HC.out
              have hs1 : su = true ↔ ((pn : Int) + 1) * N ≤ fr2 := by rw [hsu]; simp
              have hn1 : ne = true ↔ fr2 < N := by rw [hne]; simp
              have hN := HN1.out
              have hmul : N ≤ ((pn : Int) + 1) * N := by
                have : (1 : Int) * N ≤ ((pn : Int) + 1) * N := Int.mul_le_mul_of_nonneg_right (by omega) (by omega)
                omega
              have hnot : ¬ (su = true ∧ ne = true) := by rw [hs1, hn1]; omega
              have hpz : pn = 0 → su ≠ ne := by
                intro h0 e
                subst h0
                rw [← e, hs1] at hn1
                simp only [Int.natCast_zero, Int.zero_add, Int.one_mul] at hn1
                omega
              refine (HMk.out hOK w hR).mono ?_
              rintro e w' ⟨hb, ⟨j, g, hG, M1, y1, M2, y2, M3, y3, M4, y4, rfl, -⟩ | ⟨hF, S3, fr3, L3, Y3, now3, hC3, ⟨j, g, hG, M1, y1, M2, y2, M3, y3, M4, y4, rfl, -⟩ | ⟨hF2, rfl⟩⟩⟩
              · refine ⟨hb, M1, n, y1, M2, rn, y2, M3, pn, y3, M4, hn, y4, _, 0, rfl, .inl rfl, fun _ => rfl, fun h => ?_, hnot, hpz⟩
                have := (never_law hOK hC hN (hn1.1 h)).1
                rw [HN.out] at this
                exact absurd hG.fits this
              · obtain ⟨rfl, -⟩ := hC.unique hC3
                refine ⟨hb, M1, n, y1, M2, rn, y2, M3, pn, y3, M4, hn, y4, _, 0, rfl, .inl rfl, fun _ => rfl, fun h => ?_, hnot, hpz⟩
                have := (never_law hOK hC hN (hn1.1 h)).2
                rw [HN.out] at this
                exact absurd hG.fits this
              · obtain ⟨rfl, -⟩ := hC.unique hC3
                refine ⟨hb, none, 0, 0, none, 0, 0, none, 0, 0, none, 0, 0, _, 7, rfl, .inr rfl, fun h => ?_, fun _ => rfl, hnot, hpz⟩
                have := sure_law hOK hC hN (by rw [HPn.out]; exact hs1.1 h)
                exact absurd this hF2
            clear hne hC2 HMk HMs s0 s1 s2 s3 hb5 DS4 DH4 HNe hOK HC
            obtain ⟨s0, s1, s2, s3⟩ := DS5.four
            obtain ⟨m0, m1, m2, m3⟩ := DH5.four
            go_wp2_with fail
            refine (HMO.out _ ((hR.below hb05).more hb05.size)).mono ?_
            rintro e w6 ⟨hb6, M1, x1, y1, M2, x2, y2, M3, x3, y3, M4, x4, y4, sw, E, rfl, HFin⟩
            have hb06 := (below_step hb05 hb6).alloc (below_step hb05 hb6).size (.cells #[.slice M1 x1 y1, .slice M2 x2 y2, .slice M3 x3 y3, .slice M4 x4 y4] 28)
            have DS6 := (DS5.below hb6 DS5.lt).alloc (.cells #[.slice M1 x1 y1, .slice M2 x2 y2, .slice M3 x3 y3, .slice M4 x4 y4] 28)
            clear HMO s0 s1 s2 s3 m0 m1 m2 m3 hb6 DS5 DH5
            obtain ⟨s0, s1, s2, s3⟩ := DS6.four
            by_cases hp0 : 0 < pn
            · have gp : decide (0 < pn) = true := decide_eq_true hp0
              clear hp0
              rcases HFin.out.1 with rfl | rfl <;> cases su <;> cases ne <;> first | exact absurd (HFin.out.2.1 rfl) (by decide) | exact absurd (HFin.out.2.2.1 rfl) (by decide) | exact absurd ⟨rfl, rfl⟩ HFin.out.2.2.2.1 | (
                go_wp2_with fail
                go_ret
                exact ⟨by first | rfl | simp, hb06⟩)
            · have gp : decide (0 < pn) = false := decide_eq_false hp0
              have HP0 : Hid (pn = 0) := by show _ = _; omega
              clear hp0
              rcases HFin.out.1 with rfl | rfl <;> cases su <;> cases ne <;> first | exact absurd (HFin.out.2.1 rfl) (by decide) | exact absurd (HFin.out.2.2.1 rfl) (by decide) | exact absurd ⟨rfl, rfl⟩ HFin.out.2.2.2.1 | exact absurd rfl (HFin.out.2.2.2.2 HP0.out) | (
                go_wp2_with fail
                go_ret
                exact ⟨by first | rfl | simp, hb06⟩)
          · have HM2 := Lib.hid (fun w hR => HMs.out h0 w hR)
            have g9 : (stE S != 0) = true := by simpa using h0
            have HZ : Hid (¬ StOk S) := fun h => h0 (stE_ok.2 h)
            generalize stE S = F at *
            clear h0 HMs HMk
            go_wp2_with fail
            refine (HNe.out _ ((hR.below hb04).more hb04.size)).mono ?_
            rintro e w5 ⟨hb5, ⟨hOK, -⟩ | ⟨-, rfl⟩⟩
            · exact absurd hOK HZ.out
            have hb05 := below_step hb04 hb5
            have DS5 := DS4.below hb5 DS4.lt
            have DH5 := DH4.below hb5 DH4.lt
            clear s0 s1 s2 s3 hb5 DS4 DH4 HNe
            obtain ⟨s0, s1, s2, s3⟩ := DS5.four
            obtain ⟨m0, m1, m2, m3⟩ := DH5.four
            go_wp2_with fail
            refine (HM2.out _ ((hR.below hb05).more hb05.size)).mono ?_
            rintro e w6 ⟨hb6, rfl⟩
            have hb06 := (below_step hb05 hb6).alloc (below_step hb05 hb6).size (.cells #[.slice none 0 0, .slice none 0 0, .slice none 0 0, .slice none 0 0] 28)
            clear s0 s1 s2 s3 m0 m1 m2 m3
            go_wp2_with fail
            go_ret
            exact ⟨by first | rfl | simp, hb06⟩
    · generalize 1 + r + b = N at *
      go_enter Tryz.func3, Tryz.ntmps3
      go_wp2_with fail
      refine (HH.out _).mono ?_
      rintro e w1 ⟨rfl, hb2⟩
      have hb02 := below_step hb1 hb2
      have DS2 := DS.below hb2 DS.lt
      have DH2 := DH.below hb2 DH.lt
      obtain ⟨m0, m1, m2, m3⟩ := DH2.four
      clear HH
      go_wp2_with fail
      refine (HLo.out _).mono ?_
      rintro e w2 ⟨rfl, hb3⟩
      have hb03 := below_step hb02 hb3
      have DS3 := DS2.below hb3 DS2.lt
      have DH3 := DH2.below hb3 DH2.lt
      clear m0 m1 m2 m3
      obtain ⟨s0, s1, s2, s3⟩ := DS3.four
      obtain ⟨m0, m1, m2, m3⟩ := DH3.four
      go_wp2_with fail
      go_ret
      exact ⟨by first | rfl | simp, hb03⟩
  · have HLo := Lib.hid (fun w => hlongc_bad r b t f w hh)
    have g1 : (headE r b t f != 0) = true := by simpa using hh
    generalize headE r b t f = F at *
    clear hh
    go_enter Tryz.func3, Tryz.ntmps3
    go_wp2_with fail
    refine (HH.out _).mono ?_
    rintro e w1 ⟨rfl, hb2⟩
    have hb02 := below_step hb1 hb2
    have DS2 := DS.below hb2 DS.lt
    have DH2 := DH.below hb2 DH.lt
    obtain ⟨m0, m1, m2, m3⟩ := DH2.four
    clear HH
    go_wp2_with fail
    refine (HLo.out _).mono ?_
    rintro e w2 ⟨rfl, hb3⟩
    have hb03 := below_step hb02 hb3
    have DS3 := DS2.below hb3 DS2.lt
    have DH3 := DH2.below hb3 DH2.lt
    clear m0 m1 m2 m3
    obtain ⟨s0, s1, s2, s3⟩ := DS3.four
    obtain ⟨m0, m1, m2, m3⟩ := DH3.four
    go_wp2_with fail
    go_ret
    exact ⟨by first | rfl | simp, hb03⟩

namespace StoreSure
open Go.ChangeShapes Go.WideShapes Go.ChangeAt Go.RowKit
theorem own : ownKnob Tryz.prog.godebug = none := by kernel_rfl
theorem laidOut : laidOutB Tryz.prog = true := by kernel_rfl

set_option maxRecDepth 100000 in
theorem lifted (os : Os) (started : os.Started) (H : Type) (enc : TypeId × Value → H) :
    ReturnsInHanded {} Tryz.checked os 3 .any (Rows.storeSureSpec.pre6 enc Tryz.prog Tryz.f3 Rows.storeSureRow.domain false) (Rows.storeSureSpec.post enc Tryz.prog Tryz.f3 false true false false) := by
  refine returnsInHanded_of_change (C := Tryz.checked) own started (by as_aux_lemma => kernel_rfl) Tryz.func3
    (ChangeSpec.witness6 (enc := enc) (C := Tryz.checked) false ⟨#[], #[.agg #[.slice none 0 0, .slice none 0 0, .slice none 0 0, .slice none 0 0], .int .i64 0, .agg #[.int .i64 0, .int .i64 0, .int .i64 0, .bool false]], []⟩ 8 (by as_aux_lemma => kernel_rfl) (by as_aux_lemma => kernel_rfl) (by as_aux_lemma => kernel_rfl) (by as_aux_lemma => kernel_rfl)) ?_
  intro W base args ds gs before hval0 hW hcnd _
  have hval : ∀ (j : Nat) t v, Tryz.f3.params[j]? = some t → args[j]? = some v → Value.okWide Tryz.prog W .any base t v := hval0
  have hW' := hW
  obtain ⟨p, q, hA0, hV, rfl, hfz, hnd⟩ := hW
  have hA : DataW.TrodAll enc Tryz.prog W 0 (fun _ => true) true Tryz.f3.params.toList args.toList ds p := hA0
  rw [Tryz.params3] at hA hval
  obtain ⟨v0, vs0, d0, ds0, p0, q0, hargs, rfl, rfl, h0, hA⟩ := trodAll_cons hA
  obtain ⟨v1, vs1, d1, ds1, p1, q1, rfl, rfl, rfl, h1, hA⟩ := trodAll_cons hA
  obtain ⟨v2, vs2, d2, ds2, p2, q2, rfl, rfl, rfl, h2, hA⟩ := trodAll_cons hA
  obtain ⟨rfl, rfl, rfl⟩ := trodAll_nil hA
  obtain rfl : args = #[v0, v1, v2] := by cases args; simp_all
  obtain ⟨A0, n0, c0, RA0, rn0, rc0, PA0, pn0, pc0, HA0, hn0, hc0, S0, rfl, hR0, hK0⟩ := open_store (hval 0 _ v0 rfl rfl) (fun x hx => hW'.lt x (by simp [hx])) h0
  obtain ⟨i1, rfl, rfl, rfl, w1⟩ := open_int Tryz.underlying3 (hval 1 _ v1 rfl rfl) h1
  obtain ⟨r2, b2, t2, f2, rfl⟩ := open_head (P := Tryz.prog) Tryz.underlying30 (by as_aux_lemma => kernel_rfl) (by as_aux_lemma => kernel_rfl) Tryz.underlying3 Tryz.underlying4 (hval 2 _ v2 rfl rfl) h2
  refine (storeSure_any A0 n0 c0 RA0 rn0 rc0 PA0 pn0 pc0 HA0 hn0 hc0 S0 i1 r2 b2 t2 f2 W hR0 hK0 w1).mono fun e W' ⟨he, hb⟩ => ?_
  subst he
  exact ⟨_, rfl, law_post laidOut Tryz.underlying4 rfl (by as_aux_lemma => kernel_rfl) rfl rfl hW' hb⟩

set_option maxHeartbeats 10000000 in
theorem closed : joinedFacts Tryz.prog 3 Tryz.f3 Rows.storeSureSpec Rows.storeSureRow = true := by
  unfold joinedFacts
  simp only [Bool.and_eq_true]
  repeat' apply And.intro
  all_goals as_aux_lemma => kernel_rfl

set_option maxHeartbeats 1000000 in
theorem proved : Rows.StoreSureSaid :=
  OpenClaim.holds_of_wide 3 Tryz.f3 rfl rfl rfl rfl rfl rfl rfl ⟨rfl, rfl, rfl, rfl, rfl⟩ rfl rfl rfl rfl rfl (by as_aux_lemma => kernel_rfl) Tryz.func3 closed
    (of_decide_eq_true (by as_aux_lemma => kernel_rfl)) (by unfold Func.isWrapper; first | (rw [if_pos (by decide +kernel)]; kernel_rfl) | (rw [if_neg (by decide +kernel)]; exact ⟨rfl, rfl⟩))
    (fun os started H enc _ => lifted os started H enc)
end StoreSure
end Go.Proofs.YtjdpcmmmdaffdaaGreat
