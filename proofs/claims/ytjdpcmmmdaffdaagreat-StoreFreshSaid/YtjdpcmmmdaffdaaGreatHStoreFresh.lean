/-
  StoreFresh answers true for every store, number and head, and changes no argument: a new object exists, is zeroed, and no other reachable object changes; the allocation succeeds if there is space. No condition.
-/
import Derived.Test.YtjdpcmmmdaffdaaGreatG11
import Derived.Test.YtjdpcmmmdaffdaaGreatG12
import Derived.Test.YtjdpcmmmdaffdaaGreatG13
import Derived.Test.YtjdpcmmmdaffdaaGreatG16
import Derived.Test.YtjdpcmmmdaffdaaGreatG17
import Derived.Test.YtjdpcmmmdaffdaaGreatG18
namespace Go.Proofs.YtjdpcmmmdaffdaaGreat
open Go.RowKit

theorem fnz_any (x : Int) (w : World) : Calls Tryz.prog 23 #[.int .u64 x] w fun e w' => e = .returned (.bool (x != 0)) ∧ Below w.heap.size w w' := by
  go_enter Tryz.func23, Tryz.ntmps23
  go_wp2
  go_ret
  exact ⟨rfl, Below.refl _ _⟩
set_option maxRecDepth 100000 in
set_option maxHeartbeats 4000000 in
theorem storeFresh_bad (A : Option Addr) (n c : Nat) (RA : Option Addr) (rn rc : Nat) (PA : Option Addr) (pn pc : Nat) (HA : Option Addr) (hn hc : Nat) (S : St) (i1 r b t : Int) (f : Bool) (w : World) (hR : StR w w.heap.size A n RA rn PA pn HA hn S) (hK : StK n c rn pn hn S) (hE : makeE S i1 r b t f ≠ 0) :
    Calls Tryz.prog 5 #[.agg #[.slice A n c, .slice RA rn rc, .slice PA pn pc, .slice HA hn hc], .int .i64 i1, .agg #[.int .i64 r, .int .i64 b, .int .i64 t, .bool f]] w fun e w' => e = .returned (.bool true) ∧ Below w.heap.size w w' := by
  have HH := Lib.hid stores_true
  have HMb := Lib.hid (fun w hR => makeFn_bad A n c RA rn rc PA pn pc HA hn hc S i1 r b t f w hR hK hE)
  have g1 : (makeE S i1 r b t f != 0) = true := by simpa using hE
  have g2 : (makeE S i1 r b t f == 7) = false := by simpa using makeE_ne7 S i1 r b t f
  have hb0 := below_new w (.cells #[.slice A n c, .slice RA rn rc, .slice PA pn pc, .slice HA hn hc] 28)
  have hb1 := hb0.alloc hb0.size (.cells #[.int .i64 r, .int .i64 b, .int .i64 t, .bool f] 30)
  have DS := (Blk.new w 28 #[.slice A n c, .slice RA rn rc, .slice PA pn pc, .slice HA hn hc]).alloc (.cells #[.int .i64 r, .int .i64 b, .int .i64 t, .bool f] 30)
  have DH := Blk.new (w.alloc (.cells #[.slice A n c, .slice RA rn rc, .slice PA pn pc, .slice HA hn hc] 28)) 30 #[.int .i64 r, .int .i64 b, .int .i64 t, .bool f]
  rw [World.size_alloc] at DH
  generalize makeE S i1 r b t f = F at *
  clear hE
  go_enter Tryz.func5, Tryz.ntmps5
  go_wp2_with fail
  refine (HH.out _).mono ?_
  rintro e w1 ⟨rfl, hb2⟩
  have hb02 := below_step hb1 hb2
  have DS2 := DS.below hb2 DS.lt
  have DH2 := DH.below hb2 DH.lt
  obtain ⟨s0, s1, s2, s3⟩ := DS2.four
  obtain ⟨m0, m1, m2, m3⟩ := DH2.four
  clear HH
  go_wp2_with fail
  refine (HMb.out _ ((hR.below hb02).more hb02.size)).mono ?_
  rintro e w2 ⟨hb3, rfl⟩
  have hb03 := below_step hb02 hb3
  have hb04 := hb03.alloc hb03.size (.cells #[.slice none 0 0, .slice none 0 0, .slice none 0 0, .slice none 0 0] 28)
  have DG := Blk.new w2 28 #[.slice none 0 0, .slice none 0 0, .slice none 0 0, .slice none 0 0]
  obtain ⟨o0, o1, o2, o3⟩ := DG.four
  clear s0 s1 s2 s3 m0 m1 m2 m3
  go_wp2_with fail
  go_ret
  exact ⟨by first | rfl | simp, hb04⟩

set_option maxRecDepth 100000 in
set_option maxHeartbeats 8000000 in
theorem storeFresh_ok (A : Option Addr) (n c : Nat) (RA : Option Addr) (rn rc : Nat) (PA : Option Addr) (pn pc : Nat) (HA : Option Addr) (hn hc : Nat) (S : St) (k R Bn : Nat) (t : Int) (w : World) (hR : StR w w.heap.size A n RA rn PA pn HA hn S) (hK : StK n c rn pn hn S) (hOK : StOk S) (hk : k < S.r.length) (hh : headE R Bn t false = 0) :
    Calls Tryz.prog 5 #[.agg #[.slice A n c, .slice RA rn rc, .slice PA pn pc, .slice HA hn hc], .int .i64 k, .agg #[.int .i64 (R : Int), .int .i64 (Bn : Int), .int .i64 t, .bool false]] w fun e w' => e = .returned (.bool true) ∧ Below w.heap.size w w' := by
  have HH := Lib.hid stores_true
  have HMk := Lib.hid (fun w hR => makeFn_fresh A n c RA rn rc PA pn pc HA hn hc S k R Bn t w hR hK hOK hk hh)
  have HLo := Lib.hid (fun w => hlongc_ok R Bn t false w hh)
  have HWd := Lib.hid (fun w hR => widest_any A n c RA rn rc PA pn pc HA hn hc S w hR hK)
  have HD1 := Lib.hid (fun w hR => dropFn_ok A n c RA rn rc PA pn pc HA hn hc S k w hR hK hOK hk)
  have hb0 := below_new w (.cells #[.slice A n c, .slice RA rn rc, .slice PA pn pc, .slice HA hn hc] 28)
  have hb1 := hb0.alloc hb0.size (.cells #[.int .i64 (R : Int), .int .i64 (Bn : Int), .int .i64 t, .bool false] 30)
  have DS := (Blk.new w 28 #[.slice A n c, .slice RA rn rc, .slice PA pn pc, .slice HA hn hc]).alloc (.cells #[.int .i64 (R : Int), .int .i64 (Bn : Int), .int .i64 t, .bool false] 30)
  have DH := Blk.new (w.alloc (.cells #[.slice A n c, .slice RA rn rc, .slice PA pn pc, .slice HA hn hc] 28)) 30 #[.int .i64 (R : Int), .int .i64 (Bn : Int), .int .i64 t, .bool false]
  rw [World.size_alloc] at DH
  obtain ⟨z1, z2, z3, z4⟩ := hR.lens
  have HKn := Lib.hid (show k < rn by omega)
  have HBn := Lib.hid (show Bn ≤ 256 by have := headE_ok.1 hh; omega)
  have HOK := Lib.hid hOK
  have HK := Lib.hid hK
  have HE := Lib.hid hh
  clear z1 z2 z3 z4 hk hOK hK hh
  go_enter Tryz.func5, Tryz.ntmps5
  go_wp2_with fail
  refine (HH.out _).mono ?_
  rintro e w1 ⟨rfl, hb2⟩
  have hb02 := below_step hb1 hb2
  have DS2 := DS.below hb2 DS.lt
  have DH2 := DH.below hb2 DH.lt
  obtain ⟨s0, s1, s2, s3⟩ := DS2.four
  obtain ⟨m0, m1, m2, m3⟩ := DH2.four
  clear HH hb0 hb1 hb2 DS DH
  go_wp2_with fail
  refine (HMk.out _ ((hR.below hb02).more hb02.size)).mono ?_
  rintro e w2 ⟨hb3, ⟨T, x, sw, A1, c1, A2, c2, A3, c3, A4, c4, rfl, hO, hF, hwf⟩ | ⟨hFull, rfl⟩⟩
  · have hb03 := below_step hb02 hb3
    have hb04 := hb03.alloc hb03.size (.cells #[.slice A1 n c1, .slice A2 rn c2, .slice A3 pn c3, .slice A4 hn c4] 28)
    have DG := Blk.new w2 28 #[.slice A1 n c1, .slice A2 rn c2, .slice A3 pn c3, .slice A4 hn c4]
    have DS3 := (DS2.below hb3 DS2.lt).alloc (.cells #[.slice A1 n c1, .slice A2 rn c2, .slice A3 pn c3, .slice A4 hn c4] 28)
    have DH3 := (DH2.below hb3 DH2.lt).alloc (.cells #[.slice A1 n c1, .slice A2 rn c2, .slice A3 pn c3, .slice A4 hn c4] 28)
    have hK2 := hO.known hwf
    have hR2 := (hO.below (below_new w2 (.cells #[.slice A1 n c1, .slice A2 rn c2, .slice A3 pn c3, .slice A4 hn c4] 28))).reads
    have hR1 := (hR.below hb04).more hb04.size
    obtain ⟨i, hOb⟩ := hF.at_
    have g1 : decide ((k : Int) < 0) = false := decide_eq_false (by omega)
    have g2 : decide (rn ≤ k) = false := decide_eq_false (by have := HKn.out; omega)
    have HCk := Lib.hid (fun w hR => stcheck_any A1 n c1 A2 rn c2 A3 pn c3 A4 hn c4 T w hR hK2)
    rw [stE_ok.2 hF.ok] at HCk
    have HAt := Lib.hid (fun w hr => at_ok A1 n c1 T.a x i ⟨x, R, Bn, t, false⟩ w hr hK2.cap hK2.wf hF.ok.arena hOb.ix hOb.at_)
    simp only [Int.toNat_natCast] at HAt
    have hTk : k < T.r.length := (List.getElem?_eq_some_iff.1 hF.root).1
    have HD2 := Lib.hid (fun w hR => dropFn_ok A1 n c1 A2 rn c2 A3 pn c3 A4 hn c4 T k w hR hK2 hF.ok hTk)
    obtain ⟨ad, x', rfl, had, hx', cx⟩ := hR2.r.num HKn.out
    obtain rfl : x' = x := Option.some.inj (hx'.symm.trans hF.root)
    have HZ := Lib.hid hF.zero
    have HF := Lib.hid hF
    have HK2 := Lib.hid hK2
    generalize (refIx (spotsL T.a) T.a ⟨x, R, Bn, t, false⟩).map (Value.int .i64) = l1 at *
    generalize hl2 : bodyOf T.a ⟨x, R, Bn, t, false⟩ = l2 at *
    obtain ⟨W0, hW0⟩ : ∃ W0, W0 = w2.alloc (.cells #[.slice A1 n c1, .slice (some ad) rn c2, .slice A3 pn c3, .slice A4 hn c4] 28) := ⟨_, rfl⟩
    rw [← hW0] at hR1 hR2 hb04 DG DS3 DH3 cx had
    have HW0 := Lib.hid hW0
    obtain ⟨q0, hq0⟩ : ∃ q, q = w2.heap.size := ⟨_, rfl⟩
    rw [← hq0] at DG
    have HQ0 := Lib.hid hq0
    clear hO hK2 hF hOb hx' hTk hl2 hW0 hwf hb3 hb03 hb02 s0 s1 s2 s3 m0 m1 m2 m3 DS2 DH2 HMk HWd HLo hq0
    obtain ⟨s0, s1, s2, s3⟩ := DS3.four
    obtain ⟨m0, m1, m2, m3⟩ := DH3.four
    obtain ⟨o0, o1, o2, o3⟩ := DG.four
    go_wp2_with fail
    rw [← HW0.out, ← HQ0.out]
    refine (HCk.out _ hR2).mono ?_
    rintro e w4 ⟨rfl, hb4⟩
    have DS4 := DS3.below hb4 DS3.lt
    have DH4 := DH3.below hb4 DH3.lt
    have DG4 := DG.below hb4 DG.lt
    have hb05 := below_step hb04 hb4
    have cx4 : w4.cell? (ad.add k) = some (.int .i64 (x : Int)) := (hb4.cell (p := ad.add k) (by rw [block_of_add]; omega)).trans cx
    have hs0 : w.heap.size ≤ W0.heap.size := hb04.size
    have hsq : q0 < W0.heap.size := DG.lt
    have hss : w.heap.size < W0.heap.size := DS3.lt
    have hR14 := (hR1.below hb4).more hb4.size
    have hR24 := (hR2.below hb4).more hb4.size
    clear s0 s1 s2 s3 m0 m1 m2 m3 o0 o1 o2 o3 DS3 DH3 DG cx HCk hR1 hR2 HW0 hb04
    obtain ⟨s0, s1, s2, s3⟩ := DS4.four
    obtain ⟨m0, m1, m2, m3⟩ := DH4.four
    obtain ⟨o0, o1, o2, o3⟩ := DG4.four
    go_upto_region 12 with fail
    go_cut [14, 15] from 22 to 165 (fun s14 s15 wc => ∃ (g : Nat) (E1 : Option Addr) (f1 : Nat) (E2 : Option Addr) (f2 : Nat), s14 = .pointer (some ⟨g, 0, none⟩) ∧ s15 = .int .i64 0 ∧ w4.heap.size ≤ g ∧ Blk wc g 55 #[.int .i64 t, .slice E1 R f1, .slice E2 Bn f2, .bool false] ∧
      Reads wc wc.heap.size 1 E2 Bn (l2.map (.int .u64)) ∧ Below w4.heap.size w4 wc)
    case first =>
      have hb := (Below.refl w4.heap.size w4).drew
      have DG4 := DG4.drew
      obtain ⟨o0, o1, o2, o3⟩ := DG4.four
      have cx4 : w4.drew.cell? (ad.add k) = some (.int .i64 (x : Int)) := cx4
      have hbz := (below_new w4 (.cells #[.int .i64 0, .slice none 0 0, .slice none 0 0, .bool false] 55)).drew
      have DGz := DG4.alloc (.cells #[.int .i64 0, .slice none 0 0, .slice none 0 0, .bool false] 55)
      have DOz := (Blk.new w4 55 #[.int .i64 0, .slice none 0 0, .slice none 0 0, .bool false]).drew
      have hadl : ad.block < w4.heap.size := by have := hb4.size; omega
      have cxz : (w4.alloc (.cells #[.int .i64 0, .slice none 0 0, .slice none 0 0, .bool false] 55)).drew.cell? (ad.add k) = some (.int .i64 (x : Int)) := by
        refine (World.cell?_alloc_lt w4 _ (ad.add k) ?_).trans cx4
        rw [block_of_add]
        exact hadl
      have hq4 : q0 < w4.heap.size := DG4.lt
      have hkn := HKn.out
      have hkn2 : (k : Int) < (rn : Int) := by omega
      have hk0 : (0 : Int) ≤ (k : Int) := by omega
      have ne1 : w4.heap.size ≠ q0 := by omega
      have ne2 : w4.heap.size ≠ (ad.add k).block := by rw [block_of_add]; omega
      have ne3 : w4.heap.size ≠ ad.block := by omega
      go_region_held3 (fun w' => w'.cell? ⟨q0, 0, none⟩ = some (.slice A1 n c1) ∧ w'.cell? ⟨q0, 1, none⟩ = some (.slice (some ad) rn c2) ∧ w'.cell? (ad.add k) = some (.int .i64 (x : Int))) (go_keep)
        (first
          | (go_at_call 21; (with_reducible refine (HAt.out _ ((hR24.a.below hb).more hb.size)).mono ?_); rintro e wA ⟨hbA, E1, y1, E2, y2, rfl, p1, p2⟩; have DG4 := DG4.below hbA DG4.lt; obtain ⟨o0, o1, o2, o3⟩ := DG4.four; have cx4 := (hbA.cell (p := ad.add k) (by rw [block_of_add]; have := hb.size; omega)).trans cx4)
          | (go_at_call 21; (with_reducible refine (HAt.out _ ((hR24.a.below hbz).more hbz.size)).mono ?_); rintro e wA ⟨hbA, E1, y1, E2, y2, rfl, p1, p2⟩; have DG4 := DGz.below hbA DGz.lt; obtain ⟨o0, o1, o2, o3⟩ := DG4.four; have cx4 := (hbA.cell (p := ad.add k) (by rw [block_of_add]; have := hbz.size; omega)).trans cxz; have DO := DOz.below hbA DOz.lt; obtain ⟨d0, d1, d2, d3⟩ := DO.four; have f0 := DO.frozen 0; have f1 := DO.frozen 1; have f2 := DO.frozen 2; have f3 := DO.frozen 3))
      all_goals
        go_wp2_with fail
        go_meet
      · exact ⟨_, E1, y1, E2, y2, rfl, rfl, hbA.size, Blk.new wA _ _, Reads.of_own (p2.alloc _), (hb.trans hbA).alloc (hb.trans hbA).size _⟩
      · have hq := hbz.trans (hbA.mono (by simp))
        exact ⟨_, E1, y1, E2, y2, rfl, rfl, Nat.le_refl _, (((DO.set_ 0 _).set_ 1 _).set_ 2 _).set_ 3 _, Reads.of_own (own_block4 p2 DO (by decide) _ _ _ _), below_block4 hq (Nat.le_refl _) _ _ _ _⟩
    case rest =>
      obtain ⟨g, E1, f1, E2, f2, rfl, rfl, hg, DO, hr2, hbc⟩ := hcut
      have hb06 := below_step hb05 hbc
      have DS5 := DS4.below hbc DS4.lt
      have DH5 := DH4.below hbc DH4.lt
      have DG5 := DG4.below hbc DG4.lt
      have hR15 := (hR14.below hbc).more hbc.size
      have hR25 := (hR24.below hbc).more hbc.size
      have HCF := Lib.hid (containsU64F0_any 23 E2 Bn f2 wc.heap.size l2 (fun v => v != 0) wc hr2 (Nat.le_refl _) (by have := HBn.out; omega) (plain_of (fn := Tryz.f23) Tryz.func23 (by kernel_rfl) (by kernel_rfl)) (fun w' x _ _ => fnz_any x w'))
      have hz : l2.any (fun v => v != 0) = false := by
        rw [List.any_eq_false]
        intro v hv
        simp [HZ.out v hv]
      rw [hz] at HCF
      clear hz s0 s1 s2 s3 m0 m1 m2 m3 o0 o1 o2 o3 DS4 DH4 DG4 hR14 hR24 HAt cx4 hb05
      obtain ⟨s0, s1, s2, s3⟩ := DS5.four
      obtain ⟨m0, m1, m2, m3⟩ := DH5.four
      obtain ⟨o0, o1, o2, o3⟩ := DG5.four
      obtain ⟨d0, d1, d2, d3⟩ := DO.four
      go_wp2_with fail
      refine HCF.out.mono ?_
      rintro e w6 ⟨rfl, hb6⟩
      have hb07 := below_step hb06 hb6
      have DS6 := DS5.below hb6 DS5.lt
      have DG6 := DG5.below hb6 DG5.lt
      have hR16 := (hR15.below hb6).more hb6.size
      have hR26 := (hR25.below hb6).more hb6.size
      clear s0 s1 s2 s3 m0 m1 m2 m3 o0 o1 o2 o3 d0 d1 d2 d3 DS5 DH5 DG5 hR15 hR25 HCF hb06
      obtain ⟨s0, s1, s2, s3⟩ := DS6.four
      obtain ⟨o0, o1, o2, o3⟩ := DG6.four
      go_wp2_with fail
      refine (HD1.out _ hR16).mono ?_
      rintro e w7 ⟨hb7, P1, d1, P2, d2, P3, d3, P4, d4, rfl, hO1⟩
      have hbn1 := below_new w7 (.cells #[.slice P1 n d1, .slice P2 rn d2, .slice P3 pn d3, .slice P4 hn d4] 28)
      have hb08 := (below_step hb07 hb7).alloc (below_step hb07 hb7).size (.cells #[.slice P1 n d1, .slice P2 rn d2, .slice P3 pn d3, .slice P4 hn d4] 28)
      have DG7 := (DG6.below hb7 DG6.lt).alloc (.cells #[.slice P1 n d1, .slice P2 rn d2, .slice P3 pn d3, .slice P4 hn d4] 28)
      have DP := Blk.new w7 28 #[.slice P1 n d1, .slice P2 rn d2, .slice P3 pn d3, .slice P4 hn d4]
      have hK3 := hO1.known HK.out.wf
      have hR3 := (hO1.below hbn1).reads
      have hR27 := ((hR26.below hb7).more hb7.size |>.below hbn1).more hbn1.size
      obtain ⟨q1, hq1⟩ : ∃ q, q = w7.heap.size := ⟨_, rfl⟩
      rw [← hq1] at DP
      have HQ1 := Lib.hid hq1
      clear s0 s1 s2 s3 o0 o1 o2 o3 DS6 DG6 hR16 hR26 HD1 hb07 hq1 hO1
      obtain ⟨o0, o1, o2, o3⟩ := DG7.four
      go_wp2_with fail
      rw [← HQ1.out]
      refine (HD2.out _ hR27).mono ?_
      rintro e w8 ⟨hb8, U1, e1, U2, e2, U3, e3, U4, e4, rfl, hO2⟩
      have hbn2 := below_new w8 (.cells #[.slice U1 n e1, .slice U2 rn e2, .slice U3 pn e3, .slice U4 hn e4] 28)
      have hb09 := (below_step hb08 hb8).alloc (below_step hb08 hb8).size (.cells #[.slice U1 n e1, .slice U2 rn e2, .slice U3 pn e3, .slice U4 hn e4] 28)
      have DP8 := (DP.below hb8 DP.lt).alloc (.cells #[.slice U1 n e1, .slice U2 rn e2, .slice U3 pn e3, .slice U4 hn e4] 28)
      have DU := Blk.new w8 28 #[.slice U1 n e1, .slice U2 rn e2, .slice U3 pn e3, .slice U4 hn e4]
      have hK4 := hO2.known HK2.out.wf
      have hR4 := (hO2.below hbn2).reads
      have hR38 := ((hR3.below hb8).more hb8.size |>.below hbn2).more hbn2.size
      obtain ⟨q2, hq2⟩ : ∃ q, q = w8.heap.size := ⟨_, rfl⟩
      rw [← hq2] at DU
      have HQ2 := Lib.hid hq2
      obtain ⟨W1, hW1⟩ : ∃ W1, W1 = w8.alloc (.cells #[.slice U1 n e1, .slice U2 rn e2, .slice U3 pn e3, .slice U4 hn e4] 28) := ⟨_, rfl⟩
      rw [← hW1] at DP8 DU hR4 hR38 hb09
      have HW1 := Lib.hid hW1
      have hne1 : 32 ≠ 28 := by decide
      have hbe := below_new W1 (.cells #[.int .i64 0, .int .i64 0] 32)
      have hx0 := reads_new W1 [.int .i64 0, .int .i64 0] 32 2 1 rfl
      have hsz : W1.heap.size = q2 + 1 := by rw [HW1.out, HQ2.out]; simp
      rw [hsz] at hx0
      have HG := Lib.hid (good_of (some ⟨q2 + 1, 0, none⟩) 2 2 _ [0, 0] true (W1.alloc (.cells #[.int .i64 0, .int .i64 0] 32)) (by decide) (by simpa using hx0) (by decide))
      clear hsz
      have hb10 := below_step hb09 hbe
      have DP9 := DP8.alloc (.cells #[.int .i64 0, .int .i64 0] 32)
      have DU9 := DU.alloc (.cells #[.int .i64 0, .int .i64 0] 32)
      have hR39 := (hR38.below hbe).more hbe.size
      have hR49 := (hR4.below hbe).more hbe.size
      -- what is alike
      have hSd := drop_ok HOK.out k
      have hTd := drop_ok HF.out.ok k
      obtain ⟨y1, y2, y3, y4, y5⟩ := hSd.lens
      obtain ⟨u1, u2, u3, u4, u5⟩ := hTd.lens
      obtain ⟨v1, v2, v3, v4⟩ := hR39.lens
      obtain ⟨z1, z2, z3, z4⟩ := hR49.lens
      have HRs := Lib.hid (fun w hR => rooted_any P1 n d1 P2 rn d2 P3 pn d3 P4 hn d4 ⟨S.a, S.r.set k (-1), S.p, S.l⟩ w hR (by omega) (by omega) (by omega))
      have HRx := Lib.hid (fun w hR => rooted_any U1 n e1 U2 rn e2 U3 pn e3 U4 hn e4 ⟨T.a, T.r.set k (-1), T.p, T.l⟩ w hR (by omega) (by omega) (by omega))
      have hfin := HF.out.alike
      have hal1 := hSd.alive
      have hal2 := hTd.alive
      have hwr1 := hSd.wfr
      have hwr2 := hTd.wfr
      generalize rootedL ⟨S.a, S.r.set k (-1), S.p, S.l⟩ = f1 at *
      generalize rootedL ⟨T.a, T.r.set k (-1), T.p, T.l⟩ = f2 at *
      obtain ⟨k1, hk1⟩ : ∃ k, k = f1.length := ⟨_, rfl⟩
      obtain ⟨k2, hk2⟩ : ∃ k, k = f2.length := ⟨_, rfl⟩
      rw [← hk1] at HRs y5
      rw [← hk2] at HRx u5
      have hAl := fun (As : Option Addr) (cs : Nat) (Ax : Option Addr) (cx : Nat) (w : World) (hr hr2 hr3 hr4) => alike_any P1 n d1 S.a As k1 cs f1 U1 n e1 T.a Ax k2 cx f2 w hr hK3.cap hK3.wf hr2 (by omega) hwr1 hr3 hK4.cap hK4.wf hr4 (by omega) hwr2
      have HAl := Lib.hid (fun (As : Option Addr) (cs : Nat) (Ax : Option Addr) (cx : Nat) (w : World) (hr hr2 hr3 hr4) => (show Calls Tryz.prog 25 #[.slice P1 n d1, .slice As k1 cs, .slice U1 n e1, .slice Ax k2 cx] w fun e w' => Below w.heap.size w w' ∧ e = .returned (.tuple #[.bool true, .int .i64 0]) by
        refine (hAl As cs Ax cx w hr hr2 hr3 hr4).mono ?_
        rintro e w' ⟨hb, ⟨-, -, os, fo, os', fo', h1, h2, rfl⟩ | ⟨hno, -⟩⟩
        · obtain ⟨rfl, rfl⟩ := hfin _ _ _ _ h1 h2
          exact ⟨hb, by simp⟩
        · exact absurd ⟨hal1, hal2⟩ hno))
      clear hAl hfin hal1 hal2 hwr1 hwr2 y1 y2 y3 y4 y5 u1 u2 u3 u4 u5 v1 v2 v3 v4 z1 z2 z3 z4 hSd hTd hk1 hk2 hx0 hR38 hR4 DP8 DU hb09 hq2 hW1 hO2 o0 o1 o2 o3 DG7 hR3 hR27 HD2 hb08 hK3 hK4 DP
      go_wp2_with fail
      rw [← HQ2.out, ← HW1.out]
      refine HG.out.mono ?_
      rintro e w9 ⟨rfl, rfl⟩
      obtain ⟨W2, hW2⟩ : ∃ W2, W2 = W1.alloc (.cells #[.int .i64 0, .int .i64 0] 32) := ⟨_, rfl⟩
      rw [← hW2] at DP9 DU9 hR39 hR49 hb10 ⊢
      clear hW2 hbe HG
      obtain ⟨s0, s1, s2, s3⟩ := DP9.four
      obtain ⟨o0, o1, o2, o3⟩ := DU9.four
      go_upto_region 19 with fail
      go_cut [20, 21] from 22 to 165 (fun s20 s21 wd => s20 = .bool true ∧ s21 = .int .i64 0 ∧ Below W2.heap.size W2 wd)
      case first =>
        have hb := Below.refl W2.heap.size W2 |>.drew
        have DS := DP9.drew
        have DG := DU9.drew
        obtain ⟨s0, s1, s2, s3⟩ := DS.four
        obtain ⟨o0, o1, o2, o3⟩ := DG.four
        go_region_held3 (fun w' => (w'.cell? ⟨q1, 0, none⟩ = some (.slice P1 n d1) ∧ w'.cell? ⟨q1, 1, none⟩ = some (.slice P2 rn d2) ∧ w'.cell? ⟨q1, 2, none⟩ = some (.slice P3 pn d3) ∧ w'.cell? ⟨q1, 3, none⟩ = some (.slice P4 hn d4)) ∧ w'.cell? ⟨q2, 0, none⟩ = some (.slice U1 n e1) ∧ w'.cell? ⟨q2, 1, none⟩ = some (.slice U2 rn e2) ∧ w'.cell? ⟨q2, 2, none⟩ = some (.slice U3 pn e3) ∧ w'.cell? ⟨q2, 3, none⟩ = some (.slice U4 hn e4)) (go_keep)
          (first
            | (go_at_call 26; (with_reducible refine (HRs.out _ ((hR39.below hb).more hb.size)).mono ?_); rintro e wA ⟨As, cs, rfl, hoS, hbA⟩; have DS := DS.below hbA DS.lt; have DG := DG.below hbA DG.lt; obtain ⟨s0, s1, s2, s3⟩ := DS.four; obtain ⟨o0, o1, o2, o3⟩ := DG.four; (try have hoX := own_below hoX hbA); have hb := hb.trans (hbA.mono hb.size))
            | (go_at_call 26; (with_reducible refine (HRx.out _ ((hR49.below hb).more hb.size)).mono ?_); rintro e wB ⟨Ax, cx, rfl, hoX, hbB⟩; have DS := DS.below hbB DS.lt; have DG := DG.below hbB DG.lt; obtain ⟨s0, s1, s2, s3⟩ := DS.four; obtain ⟨o0, o1, o2, o3⟩ := DG.four; (try have hoS := own_below hoS hbB); have hb := hb.trans (hbB.mono hb.size))
            | (go_at_call 25; (with_reducible refine (HAl.out As cs Ax cx _ ((hR39.a.below hb).more hb.size) (Reads.of_own hoS) ((hR49.a.below hb).more hb.size) (Reads.of_own hoX)).mono ?_); rintro e wC ⟨hbC, rfl⟩; have DS := DS.below hbC DS.lt; have DG := DG.below hbC DG.lt; obtain ⟨s0, s1, s2, s3⟩ := DS.four; obtain ⟨o0, o1, o2, o3⟩ := DG.four; have hb := hb.trans (hbC.mono hb.size)))
        all_goals
          go_wp2_with fail
          go_meet
          exact ⟨rfl, rfl, hb⟩
      case rest =>
        obtain ⟨rfl, rfl, hbd⟩ := hcut
        have hb11 := below_step hb10 hbd
        clear s0 s1 s2 s3 o0 o1 o2 o3
        go_wp2_with fail
        go_ret
        exact ⟨by first | rfl | simp, hb11⟩
  · have hb03 := below_step hb02 hb3
    have hb04 := hb03.alloc hb03.size (.cells #[.slice none 0 0, .slice none 0 0, .slice none 0 0, .slice none 0 0] 28)
    have DS3 := (DS2.below hb3 DS2.lt).alloc (.cells #[.slice none 0 0, .slice none 0 0, .slice none 0 0, .slice none 0 0] 28)
    have DH3 := (DH2.below hb3 DH2.lt).alloc (.cells #[.slice none 0 0, .slice none 0 0, .slice none 0 0, .slice none 0 0] 28)
    have HFu := Lib.hid hFull
    obtain ⟨N, hN⟩ : ∃ N : Int, N = 1 + R + Bn := ⟨_, rfl⟩
    rw [← hN] at HLo
    have HN := Lib.hid hN
    clear s0 s1 s2 s3 m0 m1 m2 m3 HMk HD1 hN hFull
    obtain ⟨s0, s1, s2, s3⟩ := DS3.four
    obtain ⟨m0, m1, m2, m3⟩ := DH3.four
    go_wp2_with fail
    refine (HLo.out _).mono ?_
    rintro e w4 ⟨rfl, hb4⟩
    have hb05 := below_step hb04 hb4
    have DS4 := DS3.below hb4 DS3.lt
    clear s0 s1 s2 s3 m0 m1 m2 m3
    obtain ⟨s0, s1, s2, s3⟩ := DS4.four
    go_wp2_with fail
    refine (HWd.out _ ((hR.below hb05).more hb05.size)).mono ?_
    rintro e w5 ⟨hb5, ⟨-, S', fr, L, Y, now, hC, rfl⟩ | ⟨h0, -⟩⟩
    rotate_left 1
    · exact absurd (stE_ok.2 HOK.out) h0
    obtain ⟨M, hM⟩ : ∃ M, M = mostL 0 (ggL S'.a) := ⟨_, rfl⟩
    have hlt : M < N := by
      obtain ⟨S2, fr2, L2, Y2, now2, hC2, h1⟩ := HFu.out
      obtain ⟨rfl, -⟩ := hC.unique hC2
      rw [HN.out, hM]
      exact h1
    rw [← hM]
    have g3 : decide (M < N) = true := decide_eq_true hlt
    have hb06 := below_step hb05 hb5
    have hbe := below_new w5 (.cells #[.int .i64 0, .int .i64 0] 32)
    have hx0 := reads_new w5 [.int .i64 0, .int .i64 0] 32 2 1 rfl
    have HG := Lib.hid (good_of (some ⟨w5.heap.size, 0, none⟩) 2 2 _ [0, 0] true _ (by decide) (by simpa using hx0) (by decide))
    have hb07 := below_step hb06 hbe
    clear hM hlt hC hx0 s0 s1 s2 s3
    go_wp2_with fail
    refine HG.out.mono ?_
    rintro e w6 ⟨rfl, rfl⟩
    go_wp2_with fail
    go_ret
    exact ⟨by first | rfl | simp, hb07⟩

theorem storeFresh_any (A : Option Addr) (n c : Nat) (RA : Option Addr) (rn rc : Nat) (PA : Option Addr) (pn pc : Nat) (HA : Option Addr) (hn hc : Nat) (S : St) (i1 r b t : Int) (f : Bool) (w : World) (hR : StR w w.heap.size A n RA rn PA pn HA hn S) (hK : StK n c rn pn hn S) (_ : (Lit.int .i64 i1).wf = true) :
    Calls Tryz.prog 5 #[.agg #[.slice A n c, .slice RA rn rc, .slice PA pn pc, .slice HA hn hc], .int .i64 i1, .agg #[.int .i64 r, .int .i64 b, .int .i64 t, .bool f]] w fun e w' => e = .returned (.bool true) ∧ Below w.heap.size w w' := by
  by_cases hE : makeE S i1 r b t f = 0
  · obtain ⟨hOK, rfl, hh, k, rfl, hk⟩ := makeE_zero hE
    obtain ⟨e1, e2, e3, e4, e5, e6, e7, -⟩ := headE_ok.1 hh
    obtain ⟨R, rfl⟩ := Int.eq_ofNat_of_zero_le e1
    obtain ⟨Bn, rfl⟩ := Int.eq_ofNat_of_zero_le e3
    exact storeFresh_ok A n c RA rn rc PA pn pc HA hn hc S k R Bn t w hR hK hOK hk hh
  · exact storeFresh_bad A n c RA rn rc PA pn pc HA hn hc S i1 r b t f w hR hK hE
namespace StoreFresh
open Go.ChangeShapes Go.WideShapes Go.ChangeAt Go.RowKit
theorem own : ownKnob Tryz.prog.godebug = none := by kernel_rfl
theorem laidOut : laidOutB Tryz.prog = true := by kernel_rfl

set_option maxRecDepth 100000 in
theorem lifted (os : Os) (started : os.Started) (H : Type) (enc : TypeId × Value → H) :
    ReturnsInHanded {} Tryz.checked os 5 .any (Rows.storeFreshSpec.pre6 enc Tryz.prog Tryz.f5 Rows.storeFreshRow.domain false) (Rows.storeFreshSpec.post enc Tryz.prog Tryz.f5 false true false false) := by
  refine returnsInHanded_of_change (C := Tryz.checked) own started (by as_aux_lemma => kernel_rfl) Tryz.func5
    (ChangeSpec.witness6 (enc := enc) (C := Tryz.checked) false ⟨#[], #[.agg #[.slice none 0 0, .slice none 0 0, .slice none 0 0, .slice none 0 0], .int .i64 0, .agg #[.int .i64 0, .int .i64 0, .int .i64 0, .bool false]], []⟩ 8 (by as_aux_lemma => kernel_rfl) (by as_aux_lemma => kernel_rfl) (by as_aux_lemma => kernel_rfl) (by as_aux_lemma => kernel_rfl)) ?_
  intro W base args ds gs before hval0 hW hcnd _
  have hval : ∀ (j : Nat) t v, Tryz.f5.params[j]? = some t → args[j]? = some v → Value.okWide Tryz.prog W .any base t v := hval0
  have hW' := hW
  obtain ⟨p, q, hA0, hV, rfl, hfz, hnd⟩ := hW
  have hA : DataW.TrodAll enc Tryz.prog W 0 (fun _ => true) true Tryz.f5.params.toList args.toList ds p := hA0
  rw [Tryz.params5] at hA hval
  obtain ⟨v0, vs0, d0, ds0, p0, q0, hargs, rfl, rfl, h0, hA⟩ := trodAll_cons hA
  obtain ⟨v1, vs1, d1, ds1, p1, q1, rfl, rfl, rfl, h1, hA⟩ := trodAll_cons hA
  obtain ⟨v2, vs2, d2, ds2, p2, q2, rfl, rfl, rfl, h2, hA⟩ := trodAll_cons hA
  obtain ⟨rfl, rfl, rfl⟩ := trodAll_nil hA
  obtain rfl : args = #[v0, v1, v2] := by cases args; simp_all
  obtain ⟨A0, n0, c0, RA0, rn0, rc0, PA0, pn0, pc0, HA0, hn0, hc0, S0, rfl, hR0, hK0⟩ := open_store (hval 0 _ v0 rfl rfl) (fun x hx => hW'.lt x (by simp [hx])) h0
  obtain ⟨i1, rfl, rfl, rfl, w1⟩ := open_int Tryz.underlying3 (hval 1 _ v1 rfl rfl) h1
  obtain ⟨r2, b2, t2, f2, rfl⟩ := open_head (P := Tryz.prog) Tryz.underlying30 (by as_aux_lemma => kernel_rfl) (by as_aux_lemma => kernel_rfl) Tryz.underlying3 Tryz.underlying4 (hval 2 _ v2 rfl rfl) h2
  refine (storeFresh_any A0 n0 c0 RA0 rn0 rc0 PA0 pn0 pc0 HA0 hn0 hc0 S0 i1 r2 b2 t2 f2 W hR0 hK0 w1).mono fun e W' ⟨he, hb⟩ => ?_
  subst he
  exact ⟨_, rfl, law_post laidOut Tryz.underlying4 rfl (by as_aux_lemma => kernel_rfl) rfl rfl hW' hb⟩

set_option maxHeartbeats 10000000 in
theorem closed : joinedFacts Tryz.prog 5 Tryz.f5 Rows.storeFreshSpec Rows.storeFreshRow = true := by
  unfold joinedFacts
  simp only [Bool.and_eq_true]
  repeat' apply And.intro
  all_goals as_aux_lemma => kernel_rfl

set_option maxHeartbeats 1000000 in
theorem proved : Rows.StoreFreshSaid :=
  OpenClaim.holds_of_wide 5 Tryz.f5 rfl rfl rfl rfl rfl rfl rfl ⟨rfl, rfl, rfl, rfl, rfl⟩ rfl rfl rfl rfl rfl (by as_aux_lemma => kernel_rfl) Tryz.func5 closed
    (of_decide_eq_true (by as_aux_lemma => kernel_rfl)) (by unfold Func.isWrapper; first | (rw [if_pos (by decide +kernel)]; kernel_rfl) | (rw [if_neg (by decide +kernel)]; exact ⟨rfl, rfl⟩))
    (fun os started H enc _ => lifted os started H enc)
end StoreFresh
end Go.Proofs.YtjdpcmmmdaffdaaGreat
