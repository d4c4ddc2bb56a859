/-
  Texts joined: TopStaysW LawOps OwnT OwnBase RowK.
-/
import Derived.Test.YtfikonmhbhcejaaGreatDoorRows
import Derived.Test.YtfikonmhbhcejaaGreatDoorP0
import Derived.Test.YtfikonmhbhcejaaGreatDoorP1
import Derived.Test.YtfikonmhbhcejaaGreatDoorP3
import Derived.Test.YtfikonmhbhcejaaGreatDoorP17
import Derived.Test.YtfikonmhbhcejaaGreatDoorP21
import Derived.Test.YtfikonmhbhcejaaGreatDoorP23
namespace Go.Proofs.YtfikonmhbhcejaaGreatDoor
open Go.RowKit
theorem Blk.two {w : World} {g : Nat} {t : TypeId} {a b : Value} (h : Blk w g t #[a, b]) : w.cell? ⟨g, 0, none⟩ = some a ∧ w.cell? ⟨g, 1, none⟩ = some b := ⟨h.cell 0, h.cell 1⟩
theorem stays_pins {S T : St} {kind : Int} (hS : StGood S) (hT : StGood T) (hs : Stays S T) (hp : kind ≠ 7 → kind ≠ 8 → T.p = S.p) : ∀ p ∈ S.p, ∃ s i s' i', ObjAt S p.loc s i ∧ ObjAt T p.loc s' i' ∧ s'.r = s.r ∧ s'.b = s.b ∧ s'.t = s.t ∧ findE T.p p.loc = 0 ∧ (kind = 7 ∨ kind = 8 ∨ countP T.p p.loc = p.len) := by
  intro p hm
  obtain ⟨s, i, hO⟩ := obj_at hS.ok (pin_at hm)
  obtain ⟨s', i', hO', e1, e2, e3⟩ := hs.obj p hm s i hO
  refine ⟨s, i, s', i', hO, hO', e1, e2, e3, findE_zero.2 ⟨hT.ok.pins, there_of hS.ok (pin_at hm)⟩, ?_⟩
  by_cases k7 : kind = 7
  · exact .inl k7
  by_cases k8 : kind = 8
  · exact .inr (.inl k8)
  refine .inr (.inr ?_)
  rw [hp k7 k8]
  exact countP_some hS.ok.pins hm
structure StaysAt (w wr : World) (gx : Nat) (S : St) (B1 : Option Addr) (n1 d1 : Nat) (B2 : Option Addr) (n2 d2 : Nat) (B3 : Option Addr) (n3 d3 : Nat) (B4 : Option Addr) (n4 d4 : Nat) : Prop where
  below : Below w.heap.size w wr
  cell : Blk wr gx 41 #[.slice B1 n1 d1, .slice B2 n2 d2, .slice B3 n3 d3, .slice B4 n4 d4]
  own : StO wr w.heap.size B1 n1 d1 B2 n2 d2 B3 n3 d3 B4 n4 d4 S
  good : StGood S
set_option maxRecDepth 100000 in
set_option maxHeartbeats 1000000 in
theorem topStays_bad (W R H : Int) (OA : Option Addr) (on oc : Nat) (w : World) (hT : DTab w.heap.size w) (hbad : newE W R H ≠ 0 ∨ 200 < on) :
    Calls Tryz.prog 5 #[.int .i64 W, .int .i64 R, .int .i64 H, .slice OA on oc] w fun e w' => e = .returned (.bool true) ∧ Below w.heap.size w w' := by
  have HN := Lib.hid (newFn_one W R H w)
  have HWk := Lib.hid (fun w1 (hb : Below w.heap.size w w1) => works_true w1 (hT.up hb))
  generalize newE W R H = E at *
  clear hT
  go_enter Tryz.func5, Tryz.ntmps5
  go_wp2_with fail
  refine HN.out.mono ?_
  rintro e w1 ⟨hb1, B1, m1, f1, B2, m2, f2, B3, m3, f3, B4, m4, f4, rfl, -⟩
  have hb2 := hb1.alloc hb1.size (.cells #[.slice B1 m1 f1, .slice B2 m2 f2, .slice B3 m3 f3, .slice B4 m4 f4] 41)
  go_wp2_with fail
  refine (HWk.out _ hb2).mono ?_
  rintro e w2 ⟨rfl, hb3⟩
  have hb03 := below_step hb2 hb3
  by_cases hE : E = 0
  · have g1 : (E != 0) = false := by simpa using hE
    have g2 : decide (200 < on) = true := decide_eq_true (by omega)
    have g2' : decide ((200 : Int) < (on : Int)) = true := decide_eq_true (by omega)
    clear hE hbad
    go_wp2_with fail
    refine (HWk.out _ hb03).mono ?_
    rintro e w3 ⟨rfl, hb4⟩
    go_wp2_with fail
    go_ret
    exact ⟨rfl, below_step hb03 hb4⟩
  · have g1 : (E != 0) = true := by simpa using hE
    clear hE hbad
    go_wp2_with fail
    refine (HWk.out _ hb03).mono ?_
    rintro e w3 ⟨rfl, hb4⟩
    go_wp2_with fail
    go_ret
    exact ⟨rfl, below_step hb03 hb4⟩
set_option maxRecDepth 100000 in
set_option maxHeartbeats 20000000 in
theorem topStays_ok (W R H : Int) (OA : Option Addr) (on oc : Nat) (l : List OpV) (w : World) (hr : Reads w w.heap.size 5 OA on (opsC l)) (hv : ∀ o ∈ l, (Lit.int .u64 o.v).wf = true) (hT : DTab w.heap.size w) (hE : newE W R H = 0) (hn2 : on ≤ 200) :
    Calls Tryz.prog 5 #[.int .i64 W, .int .i64 R, .int .i64 H, .slice OA on oc] w fun e w' => e = .returned (.bool true) ∧ Below w.heap.size w w' := by
  have HN := Lib.hid (newFn_one W R H w)
  have HWk := Lib.hid (fun w1 (hb : Below w.heap.size w w1) => works_true w1 (hT.up hb))
  have hG0 := newE_good hE
  rw [hE] at HN
  obtain ⟨S0, hS0⟩ : ∃ S0, S0 = newSt W.toNat R.toNat H.toNat := ⟨_, rfl⟩
  rw [← hS0] at HN hG0
  have HG0 := Lib.hid hG0
  have HT := Lib.hid hT
  have HV := Lib.hid hv
  have g2 : decide (200 < on) = false := decide_eq_false (by omega)
  have g2' : decide ((200 : Int) < (on : Int)) = false := decide_eq_false (by omega)
  have HN2 := Lib.hid hn2
  clear hT hG0 hS0 hE hv hn2
  go_enter Tryz.func5, Tryz.ntmps5
  go_wp2_with fail
  refine HN.out.mono ?_
  rintro e w1 ⟨hb1, B1, n1, d1, B2, n2, d2, B3, n3, d3, B4, n4, d4, rfl, HO⟩
  have hO := HO.out (by first | rfl | trivial)
  have hb2 := hb1.alloc hb1.size (.cells #[.slice B1 n1 d1, .slice B2 n2 d2, .slice B3 n3 d3, .slice B4 n4 d4] 41)
  have D0 := Blk.new w1 41 #[.slice B1 n1 d1, .slice B2 n2 d2, .slice B3 n3 d3, .slice B4 n4 d4]
  have hO := hO.belowS (below_new w1 (.cells #[.slice B1 n1 d1, .slice B2 n2 d2, .slice B3 n3 d3, .slice B4 n4 d4] 41))
  have hgx := hb1.size
  clear HO HN
  go_wp2_with fail
  refine (HWk.out _ hb2).mono ?_
  rintro e w2 ⟨rfl, hb3⟩
  have hb03 := below_step hb2 hb3
  have D0 := D0.below hb3 D0.lt
  have hO := hO.belowS hb3
  clear HWk hb1 hb2 hb3
  go_wp2_with fail
  go_loopw [47] (fun i wr => ∃ (j : Nat) (S : St) (B1 : Option Addr) (n1 d1 : Nat) (B2 : Option Addr) (n2 d2 : Nat) (B3 : Option Addr) (n3 d3 : Nat) (B4 : Option Addr) (n4 d4 : Nat), j ≤ on ∧ i = .int .i64 j ∧ StaysAt w wr w1.heap.size S B1 n1 d1 B2 n2 d2 B3 n3 d3 B4 n4 d4) (fun i _ => on - (intOf i).toNat)
  case atStart => exact ⟨0, S0, B1, n1, d1, B2, n2, d2, B3, n3, d3, B4, n4, d4, Nat.zero_le _, rfl, ⟨hb03, D0, hO, HG0.out⟩⟩
  case round =>
    clear hb03 D0 hO
    obtain ⟨j, S, G1, n1, p1, G2, n2, p2, G3, n3, p3, G4, n4, p4, hj, rfl, hP⟩ := hrel
    by_cases hlt : j < on
    · obtain ⟨ad, o, rfl, had, ho, c0, c1, c2, c3, c4⟩ := (hr.below hP.below).op hlt
      have hvo := HV.out o (List.mem_of_getElem? ho)
      have hv0 : 0 ≤ o.v ∧ o.v < 18446744073709551616 := by simp [Lit.wf, IntKind.min, IntKind.max, IntKind.signed, IntKind.bits] at hvo; omega
      have hKS := hP.own.known hP.good.wf
      have HGS := Lib.hid hP.good
      have HKS := Lib.hid hKS
      have HDo := Lib.hid (fun w hR hT => do_any G1 n1 p1 G2 n2 p2 G3 n3 p3 G4 n4 p4 S o w hR hKS hT hv0.1 hv0.2)
      obtain ⟨X, hX⟩ : ∃ X, X = doO S o := ⟨_, rfl⟩
      have HGX : Hid (X.er = 0 → StGood X.st ∧ Stays S X.st ∧ (o.kind ≠ 7 → o.kind ≠ 8 → X.st.p = S.p) ∧ (o.kind = 7 → findE X.st.p X.told = 0 ∧ 1 ≤ countP X.st.p X.told ∧ 0 ≤ X.told ∧ X.told < 256)) := by
        show _ → _
        rw [hX]
        exact fun h0 => ⟨doO_good hP.good o hvo h0, (doO_stays hP.good o h0).1, (doO_stays hP.good o h0).2, fun hk => doO_pins o hk h0⟩
      rw [← hX] at HDo
      have DS := hP.cell
      have hbr := hP.below
      have hPo := hP.own
      have HLS := Lib.hid (hPo.reads.lens)
      have hba := hbr.alloc hbr.size (.cells #[.int .i64 o.kind, .int .i64 o.a, .int .i64 o.b, .int .i64 o.c, .int .u64 o.v] 46)
      have DSa := DS.alloc (.cells #[.int .i64 o.kind, .int .i64 o.a, .int .i64 o.b, .int .i64 o.c, .int .u64 o.v] 46)
      have hOa := hPo.alloc (.cells #[.int .i64 o.kind, .int .i64 o.a, .int .i64 o.b, .int .i64 o.c, .int .u64 o.v] 46)
      have DO := Blk.new wr 46 #[.int .i64 o.kind, .int .i64 o.a, .int .i64 o.b, .int .i64 o.c, .int .u64 o.v]
      have hj200 : j < 200 := by have := HN2.out; omega
      obtain ⟨s0, s1, s2, s3⟩ := DSa.four
      obtain ⟨k0, k1, k2, k3, k4⟩ := DO.five
      clear hP hvo hv0 hX DS hbr hPo ho hKS
      go_wp2_with fail
      refine (HDo.out _ hOa.reads (HT.out.on hba).f).mono ?_
      rintro e w5 hDp
      obtain ⟨hb5, E1, m1, e1, E2, m2, e2, E3, m3, e3, E4, m4, e4, vt, rfl, HO⟩ := do_one hDp
      have hb05 := below_step hba hb5
      have hb06 := hb05.alloc hb05.size (.cells #[.slice E1 m1 e1, .slice E2 m2 e2, .slice E3 m3 e3, .slice E4 m4 e4] 41)
      have DX := Blk.new w5 41 #[.slice E1 m1 e1, .slice E2 m2 e2, .slice E3 m3 e3, .slice E4 m4 e4]
      have DS6 := (DSa.below hb5 DSa.lt).alloc (.cells #[.slice E1 m1 e1, .slice E2 m2 e2, .slice E3 m3 e3, .slice E4 m4 e4] 41)
      have DO6 := (DO.below hb5 DO.lt).alloc (.cells #[.slice E1 m1 e1, .slice E2 m2 e2, .slice E3 m3 e3, .slice E4 m4 e4] 41)
      have hO6 := (hOa.below hb5).alloc (.cells #[.slice E1 m1 e1, .slice E2 m2 e2, .slice E3 m3 e3, .slice E4 m4 e4] 41)
      obtain ⟨ev, hev⟩ : ∃ v, v = X.er := ⟨_, rfl⟩
      rw [← hev]
      clear hDp
      by_cases hz : ev = 0
      · subst hz
        obtain ⟨hvt, hOX⟩ := HO.out hev.symm
        obtain ⟨hGX, hSt, hPs, hPn⟩ := HGX.out hev.symm
        have hOX6 := (hOX.mono hba.size).alloc (.cells #[.slice E1 m1 e1, .slice E2 m2 e2, .slice E3 m3 e3, .slice E4 m4 e4] 41)
        obtain ⟨T, hT0⟩ : ∃ T, T = X.st := ⟨_, rfl⟩
        rw [← hT0] at hOX6 hGX hSt hPs hPn
        rw [← hvt] at hPn
        have HGT := Lib.hid hGX
        have HPn := Lib.hid hPn
        have HPin := Lib.hid (stays_pins HGS.out hGX hSt hPs)
        have hKT := hOX6.known hGX.wf
        have hlx := hOX6.reads.lens
        have hm3 : m3 ≤ 16 := by have := hGX.ok.lens; omega
        have hn3 : n3 ≤ 16 := by have := HGS.out.ok.lens; have := HLS.out; omega
        have HA1 := Lib.hid (fun (x : Int) (i : Nat) (s : Spot) w hr (hO : ObjAt S x s i) => at_ok G1 n1 p1 S.a x i s w hr HKS.out.cap HKS.out.wf HGS.out.ok.arena hO.ix hO.at_)
        have HA2 := Lib.hid (fun (x : Int) (i : Nat) (s : Spot) w hr (hO : ObjAt T x s i) => at_ok E1 m1 e1 T.a x i s w hr hKT.cap hKT.wf HGT.out.ok.arena hO.ix hO.at_)
        have HMa := Lib.hid (fun (x : Int) w hr => pmany_any E3 m3 e3 T.p x w hr (by omega))
        obtain ⟨s0, s1, s2, s3⟩ := DS6.four
        obtain ⟨W6, hW6⟩ : ∃ W, W = w5.alloc (.cells #[.slice E1 m1 e1, .slice E2 m2 e2, .slice E3 m3 e3, .slice E4 m4 e4] 41) := ⟨_, rfl⟩
        have HW6 := Lib.hid hW6
        rw [← hW6] at hb06 DX DS6 DO6 hO6 hOX6
        obtain ⟨gz, hgz⟩ : ∃ g, g = w5.heap.size := ⟨_, rfl⟩
        have HGz := Lib.hid hgz
        rw [← hgz] at DX
        obtain ⟨kd, hkd⟩ : ∃ k, k = o.kind := ⟨_, rfl⟩
        have HKd := Lib.hid hkd
        rw [← hkd] at HPin HPn DO6
        clear k0 k1 k2 k3 k4 HDo HO HGX hev hvt hOX hGX hSt hPs hPn hT0 hKT hlx hba DSa hOa DO hb5 hb05 hW6 hgz hkd
        go_wp2_with fail
        rw [← HW6.out, ← HGz.out]
        obtain ⟨wo, hwo⟩ : ∃ x, x = wr := ⟨wr, rfl⟩
        subst hwo
        go_loopw [63] (fun i wr => ∃ k : Nat, k ≤ n3 ∧ i = .int .i64 k ∧ Below W6.heap.size W6 wr) (fun i _ => n3 - (intOf i).toNat)
        case atStart => exact ⟨0, Nat.zero_le _, rfl, Below.refl _ _⟩
        case round =>
          clear s0 s1 s2 s3
          obtain ⟨k, hk, rfl, hbi⟩ := hrel
          have DSi := DS6.below hbi DS6.lt
          have DXi := DX.below hbi DX.lt
          have DOi := DO6.below hbi DO6.lt
          by_cases hlk : k < n3
          · obtain ⟨pd, p, rfl, hpd, hp, q0, q1⟩ := ((hO6.reads.p).below hbi).run hlk
            obtain ⟨s, i, s', i', hOs, hOt, z1, z2, z3, hf0, hcn⟩ := HPin.out p (List.mem_of_getElem? hp)
            have HB1 := Lib.hid (fun w hr => HA1.out p.loc i s w hr hOs)
            have HB2 := Lib.hid (fun w hr => HA2.out p.loc i' s' w hr hOt)
            rw [z1, z2, z3] at HB2
            have HM := Lib.hid (fun w hr => (HMa.out p.loc w hr).mono (R' := fun e w' => Below w.heap.size w w' ∧ e = .returned (.tuple #[.int .i64 (countP T.p p.loc), .int .i64 0])) (by
              rintro e w' ⟨hb, ⟨-, rfl⟩ | ⟨h, -⟩⟩
              · exact ⟨hb, rfl⟩
              · rw [hf0] at h; cases h))
            obtain ⟨x, hx⟩ : ∃ x, x = p.loc := ⟨_, rfl⟩
            obtain ⟨ln, hln⟩ : ∃ x, x = p.len := ⟨_, rfl⟩
            obtain ⟨tg, htg⟩ : ∃ x, x = s.t := ⟨_, rfl⟩
            obtain ⟨rn, hrn⟩ : ∃ x, x = s.r.toNat := ⟨_, rfl⟩
            obtain ⟨bn, hbn⟩ : ∃ x, x = s.b.toNat := ⟨_, rfl⟩
            obtain ⟨f1, hf1⟩ : ∃ x, x = s.f := ⟨_, rfl⟩
            obtain ⟨f2, hf2⟩ : ∃ x, x = s'.f := ⟨_, rfl⟩
            obtain ⟨cn, hcnt⟩ : ∃ x, x = countP T.p p.loc := ⟨_, rfl⟩
            rw [← hcnt] at HM hcn
            rw [← hx] at q0 HM HB1 HB2
            rw [← hln] at q1 hcn
            rw [← htg, ← hrn, ← hbn, ← hf1] at HB1
            rw [← htg, ← hrn, ← hbn, ← hf2] at HB2
            have DPi := Blk.new wr 50 #[.int .i64 x, .int .i64 ln]
            have hbi1 := hbi.alloc hbi.size (.cells #[.int .i64 x, .int .i64 ln] 50)
            have DSi := DSi.alloc (.cells #[.int .i64 x, .int .i64 ln] 50)
            have DXi := DXi.alloc (.cells #[.int .i64 x, .int .i64 ln] 50)
            have DOi := DOi.alloc (.cells #[.int .i64 x, .int .i64 ln] 50)
            obtain ⟨s0, s1, s2, s3⟩ := (DS6.below hbi DS6.lt).four
            obtain ⟨t0, t1, t2, t3⟩ := DSi.four
            obtain ⟨v0, v1⟩ := DPi.two
            have HCn := Lib.hid hcn
            clear hOs hOt z1 z2 z3 hf0 hcn hp hx hln htg hrn hbn hf1 hf2 hcnt hpd
            go_wp2_with fail
            refine (HB1.out _ ((hO6.reads.a.below hbi1).more hbi1.size)).mono ?_
            rintro e w7 ⟨hb7, A1, x1, A2, x2, rfl, -, -⟩
            have hbi7 := below_step hbi1 hb7
            have hbi8 := hbi7.alloc hbi7.size (.cells #[.int .i64 tg, .slice A1 rn x1, .slice A2 bn x2, .bool f1] 52)
            have DW := Blk.new w7 52 #[.int .i64 tg, .slice A1 rn x1, .slice A2 bn x2, .bool f1]
            have DX8 := (DXi.below hb7 DXi.lt).alloc (.cells #[.int .i64 tg, .slice A1 rn x1, .slice A2 bn x2, .bool f1] 52)
            have DO8 := (DOi.below hb7 DOi.lt).alloc (.cells #[.int .i64 tg, .slice A1 rn x1, .slice A2 bn x2, .bool f1] 52)
            have DP8 := (DPi.below hb7 DPi.lt).alloc (.cells #[.int .i64 tg, .slice A1 rn x1, .slice A2 bn x2, .bool f1] 52)
            clear s0 s1 s2 s3 t0 t1 t2 t3 v0 v1 q0 q1 DSi DXi DOi DPi HB1 hb7
            obtain ⟨s0, s1, s2, s3⟩ := DX8.four
            obtain ⟨v0, v1⟩ := DP8.two
            go_wp2_with fail
            refine (HB2.out _ ((hOX6.reads.a.below hbi8).more hbi8.size)).mono ?_
            rintro e w8 ⟨hb8, A3, x3, A4, x4, rfl, -, -⟩
            have hbi9 := below_step hbi8 hb8
            have hbi10 := hbi9.alloc hbi9.size (.cells #[.int .i64 tg, .slice A3 rn x3, .slice A4 bn x4, .bool f2] 52)
            have DN := Blk.new w8 52 #[.int .i64 tg, .slice A3 rn x3, .slice A4 bn x4, .bool f2]
            have DW10 := (DW.below hb8 DW.lt).alloc (.cells #[.int .i64 tg, .slice A3 rn x3, .slice A4 bn x4, .bool f2] 52)
            have DX10 := (DX8.below hb8 DX8.lt).alloc (.cells #[.int .i64 tg, .slice A3 rn x3, .slice A4 bn x4, .bool f2] 52)
            have DO10 := (DO8.below hb8 DO8.lt).alloc (.cells #[.int .i64 tg, .slice A3 rn x3, .slice A4 bn x4, .bool f2] 52)
            have DP10 := (DP8.below hb8 DP8.lt).alloc (.cells #[.int .i64 tg, .slice A3 rn x3, .slice A4 bn x4, .bool f2] 52)
            clear s0 s1 s2 s3 v0 v1 DW DX8 DO8 DP8 HB2 hb8
            obtain ⟨s0, s1, s2, s3⟩ := DX10.four
            obtain ⟨v0, v1⟩ := DP10.two
            obtain ⟨o0, o1, o2, -⟩ := DW10.four
            obtain ⟨u0, u1, u2, -⟩ := DN.four
            go_wp2_with fail
            refine (HM.out _ ((hOX6.reads.p.below hbi10).more hbi10.size)).mono ?_
            rintro e w9 ⟨hb9, rfl⟩
            have hbi11 := below_step hbi10 hb9
            have DP11 := DP10.below hb9 DP10.lt
            have DO11 := DO10.below hb9 DO10.lt
            clear s0 s1 s2 s3 v0 v1 o0 o1 o2 u0 u1 u2 hb9 DW10 DX10 DO10 DP10 DN
            obtain ⟨v0, v1⟩ := DP11.two
            obtain ⟨k0, -, -, -, -⟩ := DO11.five
            clear DP11 DO11
            by_cases hN : cn = ln
            · subst hN
              clear HCn
              clear HM
              go_wp2_with fail
              go_roundw
              case rel => exact ⟨k + 1, by omega, by go_num, hbi11⟩
              case measure => simp [intOf]; omega
            · have g3 : (cn != ln) = true := by simpa using hN
              rcases HCn.out with h7 | h8 | h
              · have g4 : (kd != 7) = false := by simpa using h7
                clear HCn hN h7
                clear HM
                go_wp2_with fail
                go_roundw
                case rel => exact ⟨k + 1, by omega, by go_num, hbi11⟩
                case measure => simp [intOf]; omega
              · have g4 : (kd != 7) = true := by rw [h8]; decide
                have g5 : (kd != 8) = false := by simpa using h8
                clear HCn hN h8
                clear HM
                go_wp2_with fail
                go_roundw
                case rel => exact ⟨k + 1, by omega, by go_num, hbi11⟩
                case measure => simp [intOf]; omega
              · exact absurd h hN
          · obtain rfl : k = n3 := by omega
            have HM2 := Lib.hid (fun w hr => (HMa.out (wrap64 vt) w hr).mono (R' := fun e w' => Below w.heap.size w w' ∧ ∃ n2 e2 : Int, e = .returned (.tuple #[.int .i64 n2, .int .i64 e2]) ∧ Hid (kd = 7 → e2 = 0 ∧ 1 ≤ n2)) (by
              rintro e w' ⟨hb, ⟨-, rfl⟩ | ⟨h, rfl⟩⟩
              · refine ⟨hb, _, _, rfl, fun h7 => ⟨rfl, ?_⟩⟩
                obtain ⟨-, h1, h2, h3⟩ := HPn.out h7
                rw [IntWalk.wrap64_in _ (by omega)]
                exact h1
              · refine ⟨hb, _, _, rfl, fun h7 => ?_⟩
                obtain ⟨h0, h1, h2, h3⟩ := HPn.out h7
                rw [IntWalk.wrap64_in _ (by omega), h0] at h
                cases h))
            obtain ⟨s0, s1, s2, s3⟩ := DSi.four
            obtain ⟨y0, y1, y2, y3⟩ := DXi.four
            obtain ⟨k0, -, -, -, -⟩ := DOi.five
            go_wp2_with fail
            refine (HM2.out _ ((hOX6.reads.p.below hbi).more hbi.size)).mono ?_
            rintro e w7 ⟨hb7, n2x, e2x, rfl, HK7⟩
            have hbi7 := hbi.trans (hb7.mono hbi.size)
            have DS7 := DSi.below hb7 DSi.lt
            have DX7 := DXi.below hb7 DXi.lt
            have DO7 := DOi.below hb7 DOi.lt
            have hOX7 := hOX6.below hbi7
            have hb07 := hb06.trans (hbi7.mono hb06.size)
            have hbF := below_block4 (g := w1.heap.size) hb07 hgx (.slice E1 m1 e1) (.slice E2 m2 e2) (.slice E3 m3 e3) (.slice E4 m4 e4)
            have DSF := DS7.store4 (.slice E1 m1 e1) (.slice E2 m2 e2) (.slice E3 m3 e3) (.slice E4 m4 e4)
            have hOF := hOX7.store DS7 (.slice E1 m1 e1) (.slice E2 m2 e2) (.slice E3 m3 e3) (.slice E4 m4 e4)
            clear s0 s1 s2 s3 y0 y1 y2 y3 k0 HM2
            obtain ⟨s0, s1, s2, s3⟩ := DS7.four
            obtain ⟨f0, f1, f2, f3⟩ := DS7.four_frozen
            obtain ⟨y0, y1, y2, y3⟩ := DX7.four
            obtain ⟨k0, -, -, -, -⟩ := DO7.five
            clear DS7 DX7 DO7 DSi DXi DOi hb7 hbi7 hOX7 hb07 hbi
            by_cases k7 : kd = 7
            · obtain ⟨rfl, hge⟩ := HK7.out k7
              have g4 : (kd == 7) = true := by simpa using k7
              have g5 : decide (n2x < 1) = false := decide_eq_false (by omega)
              clear HK7 k7 hge
              go_wp2_with fail
              go_roundw
              case rel => exact ⟨j + 1, T, E1, m1, e1, E2, m2, e2, E3, m3, e3, E4, m4, e4, by omega, by go_num, ⟨hbF, DSF, hOF, HGT.out⟩⟩
              case measure => simp [intOf]; omega
            · have g4 : (kd == 7) = false := by simpa using k7
              clear HK7 k7
              go_wp2_with fail
              go_roundw
              case rel => exact ⟨j + 1, T, E1, m1, e1, E2, m2, e2, E3, m3, e3, E4, m4, e4, by omega, by go_num, ⟨hbF, DSF, hOF, HGT.out⟩⟩
              case measure => simp [intOf]; omega
      · have g9 : (ev != 0) = true := by simpa using hz
        clear s0 s1 s2 s3 k0 k1 k2 k3 k4 HDo HO HGX hev hz hba DSa hOa DO hb5 hb05 DX DO6
        go_wp2_with fail
        go_roundw
        case rel => exact ⟨j + 1, S, G1, n1, p1, G2, n2, p2, G3, n3, p3, G4, n4, p4, by omega, by go_num, ⟨hb06, DS6, hO6, HGS.out⟩⟩
        case measure => simp [intOf]; omega
    · obtain rfl : j = on := by omega
      have hb5 := hP.below
      clear hP
      go_wp2_with fail
      go_ret
      exact ⟨by first | rfl | simp, hb5⟩
end Go.Proofs.YtfikonmhbhcejaaGreatDoor

namespace Go.Proofs.YtfikonmhbhcejaaGreatDoor
open Go.ChangeShapes Go.WideShapes Go.ChangeAt Go.RowKit Go.Joins Go.Deep
instance : Inhabited OpV := ⟨⟨0, 0, 0, 0, 0⟩⟩
theorem open_elemsW {α : Type} [Inhabited α] (f : α → List Value) (Q : α → Prop) (k : Nat) (hk0 : 0 < k) (hf : ∀ a, (f a).length = k) {H : Type} {enc : TypeId × Value → H} {P : Program} {t e : TypeId} {W : World} {r : Reach} {base : Nat} {sp : Nat → Bool} {v : Value} {d : DataW H} {ps : List MemPlace}
    (ht : P.underlying t = some (.slice e)) (hc : P.cellsOf e = k) (hel : ∀ n cs y, DataW.trod enc P W 0 sp true n e cs = some y → ∃ a, cs = f a ∧ Q a)
    (hval : Value.okWide P W r base t v) (hlt : ∀ x ∈ ps, x.block < W.heap.size) (h : DataW.Trod enc P W 0 sp true t v d ps) :
    ∃ (A : Option Addr) (n c : Nat) (l : List α), v = .slice A n c ∧ n ≤ c ∧ c ≤ maxLen ∧ Reads W W.heap.size k A n (l.flatMap f) ∧ l.length = n ∧ (∀ a ∈ l, Q a) ∧ (A = none → c = 0) := by
  obtain ⟨a0, len0, cap0, rfl⟩ := okWide_slice ht hval
  obtain ⟨fuel, hf'⟩ := h
  rcases open_slice ht hf' with ⟨hcs, hx⟩ | ⟨a, len, cap, m, n, D, Pl, hcs, hb, hlc, hm, hmm, hx, hcell⟩
  · simp [Value.cells] at hcs
    obtain ⟨rfl, rfl, rfl⟩ := hcs
    exact ⟨none, 0, 0, [], rfl, Nat.le_refl _, Nat.zero_le _, Reads.none_, rfl, (fun a ha => by cases ha), fun _ => rfl⟩
  · simp [Value.cells] at hcs
    obtain ⟨rfl, rfl, rfl⟩ := hcs
    simp only [Prod.mk.injEq] at hx
    obtain ⟨rfl, rfl⟩ := hx
    have hlm : len0 ≤ m := by rw [hmm]; split <;> omega
    rw [hc] at hcell hlt
    obtain ⟨V, hV⟩ := choose_lt (α := α) (p := fun i x => W.cells? 0 (a.add (i * k)) k = some (f x) ∧ Q x) (fun i hi => by
      obtain ⟨cs', h1, h2⟩ := hcell i hi
      obtain ⟨x, rfl, hq⟩ := hel _ _ _ h2
      exact ⟨x, h1, hq⟩)
    refine ⟨some a, len0, cap0, (List.range len0).map V, rfl, hlc, hm, ⟨by rw [flat_length f k hf]; simp, fun hn => ⟨a, rfl, ?_, fun j u hu => ?_⟩⟩, by simp, fun y hy => by
      obtain ⟨i, hi, rfl⟩ := List.mem_map.1 hy
      exact (hV i (by have := List.mem_range.1 hi; omega)).2, fun h => by cases h⟩
    · have := hlt (.cell a.block (a.off + 0)) (List.mem_append_left _ (by
        unfold MemPlace.row
        refine List.mem_map.2 ⟨0, List.mem_range.2 ?_, rfl⟩
        exact Nat.mul_pos (by omega) hk0))
      exact this
    · have hj : j < len0 * k := by
        have := (List.getElem?_eq_some_iff.1 hu).1
        rw [flat_length f k hf] at this
        simpa using this
      have hq : j / k < len0 := Nat.div_lt_of_lt_mul (by rw [Nat.mul_comm]; exact hj)
      have hr : j % k < k := Nat.mod_lt _ hk0
      have hjd : j / k * k + j % k = j := by rw [Nat.mul_comm]; exact Nat.div_add_mod j k
      rw [← hjd, flat_at f k hf _ _ _ (by simpa using hq) hr] at hu
      simp only [List.getElem_map, List.getElem_range] at hu
      have := (World.cells?_some (hV (j / k) (by omega)).1).2.2 (j % k) hr
      rw [add_of_add, hjd] at this
      rw [this]
      exact hu
theorem trod_struct5o {H : Type} {enc : TypeId × Value → H} {P : Program} {w : World} {base : Nat} {spare : Nat → Bool} {held : Bool} {t : TypeId} {f0 f1 f2 f3 f4 : Field} {fuel : Nat} {cs : List Value} {x : DataW H × List MemPlace} (ht : P.underlying t = some (.struct #[f0, f1, f2, f3, f4])) (h : DataW.trod enc P w base spare held fuel t cs = some x) :
    ∃ y0 y1 y2 y3 y4 n, cs.length = P.cellsOf t ∧ DataW.trod enc P w base spare held n f0.type ((cs.drop f0.offset).take (P.cellsOf f0.type)) = some y0 ∧
      DataW.trod enc P w base spare held n f1.type ((cs.drop f1.offset).take (P.cellsOf f1.type)) = some y1 ∧ DataW.trod enc P w base spare held n f2.type ((cs.drop f2.offset).take (P.cellsOf f2.type)) = some y2 ∧
      DataW.trod enc P w base spare held n f3.type ((cs.drop f3.offset).take (P.cellsOf f3.type)) = some y3 ∧ DataW.trod enc P w base spare held n f4.type ((cs.drop f4.offset).take (P.cellsOf f4.type)) = some y4 := by
  obtain ⟨xs, n, _, rfl, hl, hlen, hf⟩ := DataW.trod_struct ht h
  match xs, hlen with
  | [y0, y1, y2, y3, y4], _ => exact ⟨y0, y1, y2, y3, y4, n, hl, by simpa using hf 0 _ rfl, by simpa using hf 1 _ rfl, by simpa using hf 2 _ rfl, by simpa using hf 3 _ rfl, by simpa using hf 4 _ rfl⟩
theorem list5o {α : Type} {l : List α} (h : l.length = 5) : ∃ a b c d e, l = [a, b, c, d, e] := by
  match l, h with
  | [a, b, c, d, e], _ => exact ⟨a, b, c, d, e, rfl⟩
set_option maxRecDepth 100000 in
theorem open_ops {H : Type} {enc : TypeId × Value → H} {W : World} {r : Reach} {base : Nat} {sp : Nat → Bool} {v : Value} {d : DataW H} {ps : List MemPlace}
    (hval : Value.okWide Tryz.prog W r base 34 v) (hlt : ∀ x ∈ ps, x.block < W.heap.size) (h : DataW.Trod enc Tryz.prog W 0 sp true 34 v d ps) :
    ∃ (A : Option Addr) (n c : Nat) (l : List OpV), v = .slice A n c ∧ n ≤ c ∧ c ≤ maxLen ∧ Reads W W.heap.size 5 A n (opsC l) ∧ (∀ o ∈ l, (Lit.int .u64 o.v).wf = true) ∧ (A = none → c = 0) := by
  have k0 : Tryz.prog.cellsOf 3 = 1 := by kernel_rfl
  have k4 : Tryz.prog.cellsOf 44 = 1 := by kernel_rfl
  obtain ⟨A, n, c, l, h1, h2, h3, h4, -, h5⟩ := open_elemsW opC (fun o => (Lit.int .u64 o.v).wf = true) 5 (by decide) (fun _ => rfl) Tryz.underlying34 (by kernel_rfl) (fun n cs y hy => by
    obtain ⟨y0, y1, y2, y3, y4, m, hl, a0, a1, a2, a3, a4⟩ := trod_struct5o Tryz.underlying46 hy
    have hl2 : cs.length = 5 := hl.trans (by kernel_rfl)
    obtain ⟨c0, c1, c2, c3, c4, rfl⟩ := list5o hl2
    dsimp only at a0 a1 a2 a3 a4
    rw [k0] at a0 a1 a2 a3
    rw [k4] at a4
    obtain ⟨x0, q0, -, -⟩ := DataW.trod_int Tryz.underlying3 a0
    obtain ⟨x1, q1, -, -⟩ := DataW.trod_int Tryz.underlying3 a1
    obtain ⟨x2, q2, -, -⟩ := DataW.trod_int Tryz.underlying3 a2
    obtain ⟨x3, q3, -, -⟩ := DataW.trod_int Tryz.underlying3 a3
    obtain ⟨x4, q4, q5, q6⟩ := DataW.trod_int Tryz.underlying44 a4
    simp at q0 q1 q2 q3 q4
    subst q0 q1 q2 q3 q4
    exact ⟨⟨x0, x1, x2, x3, x4⟩, rfl, by first | exact q5 | exact q6⟩) hval hlt h
  exact ⟨A, n, c, l, h1, h2, h3, h4, h5⟩
end Go.Proofs.YtfikonmhbhcejaaGreatDoor

namespace Go.Proofs.YtfikonmhbhcejaaGreatDoor
open Go.RowKit
def OwnT (w : World) (base : Nat) (e : TypeId) (size : Nat) (ok : Nat → Value → Prop) (v : Value) (n : Nat) (xs : List Value) : Prop :=
  w.ownsRow base e size v n xs ∧ ∀ (g : Nat) (cur : Array Value), v.ownBlock = some g → w.heap[g]? = some (.cells cur e (0, 0)) → ∀ (i : Nat) (u : Value), cur[i]? = some u → ok (i % size) u
def isNum (kd : IntKind) (_ : Nat) (u : Value) : Prop := ∃ x, u = .int kd x ∧ (Lit.int kd x).wf = true
section
variable {w w' : World} {base base' n : Nat} {e : TypeId} {size : Nat} {ok : Nat → Value → Prop} {v : Value} {xs : List Value}
theorem OwnT.own (h : OwnT w base e size ok v n xs) : w.ownsRow base e size v n xs := h.1
theorem OwnT.nil (w : World) (base : Nat) (e : TypeId) (size : Nat) (ok : Nat → Value → Prop) : OwnT w base e size ok (.slice none 0 0) 0 [] :=
  ⟨World.ownsRow_nil _ _ _ _, fun g cur h => by simp [Value.ownBlock] at h⟩
theorem OwnT.mono (h : OwnT w base' e size ok v n xs) (hb : base ≤ base') : OwnT w base e size ok v n xs := ⟨own_mono h.1 hb, h.2⟩
theorem OwnT.below (h : OwnT w base e size ok v n xs) (hb : Below w.heap.size w w') : OwnT w' base e size ok v n xs :=
  ⟨own_below h.1 hb, fun g cur hg hc => h.2 g cur hg (by rw [← hb.block g (h.1.lt g hg).2]; exact hc)⟩
theorem OwnT.kept {row : Option Nat} (h : OwnT w base e size ok v n xs) (hg : w.grownBy w' row) (hne : v.ownBlock = none ∨ v.ownBlock ≠ row) : OwnT w' base e size ok v n xs :=
  ⟨h.1.kept hg hne, fun g cur hv hc => h.2 g cur hv (by
    rw [← hg.block g (h.1.lt g hv).2 (fun e => by
      rcases hne with h0 | h0
      · rw [h0] at hv; cases hv
      · exact h0 (by rw [hv, e]))]
    exact hc)⟩
theorem OwnT.alloc (h : OwnT w base e size ok v n xs) (o : Obj) : OwnT (w.alloc o) base e size ok v n xs :=
  h.kept (World.grownBy_alloc w o none) (by cases hv : v.ownBlock <;> simp)
theorem OwnT.drewN (h : OwnT w base e size ok v n xs) (q : Nat) : OwnT (w.drewN q) base e size ok v n xs := h
theorem OwnT.open {g c : Nat} (h : OwnT w base e size ok (.slice (some ⟨g, 0, none⟩) n c) n xs) :
    ∃ cur : List Value, base ≤ g ∧ w.heap[g]? = some (.cells cur.toArray e (0, 0)) ∧ n ≤ c ∧ c ≤ maxLen ∧ cur.length = c * size ∧ cur.take (n * size) = xs ∧ ∀ (i : Nat) (u : Value), cur[i]? = some u → ok (i % size) u := by
  obtain ⟨cur, h1, h2, h3, h4, h5, h6⟩ := own_open h.1
  exact ⟨cur, h1, h2, h3, h4, h5, h6, fun i u hu => h.2 g cur.toArray rfl h2 i u (by simpa using hu)⟩
theorem OwnT.close {g c : Nat} (cur : List Value) (h1 : base ≤ g) (h2 : w.heap[g]? = some (.cells cur.toArray e (0, 0))) (h3 : n ≤ c) (h4 : c ≤ maxLen) (h5 : cur.length = c * size) (h6 : ∀ (i : Nat) (u : Value), cur[i]? = some u → ok (i % size) u) :
    OwnT w base e size ok (.slice (some ⟨g, 0, none⟩) n c) n (cur.take (n * size)) :=
  ⟨own_close cur h1 h2 h3 h4 h5, fun g' cur' hg hc i u hu => by
    simp only [Value.ownBlock, Option.some.injEq] at hg
    subst hg
    rw [h2] at hc
    simp only [Option.some.injEq, Obj.cells.injEq, and_true] at hc
    subst hc
    exact h6 i u (by simpa using hu)⟩
theorem OwnT.elems (h : OwnT w base e size ok v n xs) : ∀ (i : Nat) (u : Value), xs[i]? = some u → ok (i % size) u := by
  intro i u hu
  rcases h.1.2 with ⟨rfl, rfl⟩ | ⟨g, cap, cur, rfl, _, hg, _, _, _, ht⟩
  · have := h.1.1
    simp only [Nat.zero_mul] at this
    rw [List.eq_nil_of_length_eq_zero this] at hu
    simp at hu
  · refine h.2 g cur rfl hg i u ?_
    rw [← ht, List.getElem?_take] at hu
    split at hu
    · simpa using hu
    · cases hu
end
theorem mod_zeros {ok : Nat → Value → Prop} {z : Array Value} (hz : ∀ i u, z[i]? = some u → ok i u) (n i : Nat) (u : Value) (h : (Builtin.zeroCells z n)[i]? = some u) : ok (i % z.size) u := by
  have hlt : i < n * z.size := by
    have := (Array.getElem?_eq_some_iff.1 h).1
    simpa [Builtin.zeroCells] using this
  have hs : 0 < z.size := Nat.pos_of_ne_zero (fun h0 => by rw [h0, Nat.mul_zero] at hlt; omega)
  have hm : i % z.size < z.size := Nat.mod_lt _ hs
  simp only [Builtin.zeroCells, Array.getElem?_map, Array.getElem?_range, hlt, if_true, Option.map_some, Option.some.injEq] at h
  rw [getElem!_pos z (i % z.size) hm] at h
  exact hz _ _ (by rw [Array.getElem?_eq_getElem hm, h])
section
variable {P : Program} (w : World)
theorem run_append_T (base : Nat) (t ty e : TypeId) (i : TypeInfo) (z : Value) (size bytes : Nat) (ht : P.underlying t = some (.slice e)) (hi : P.info? e = some i) (hz : i.zero = some z)
    (hsize : i.size = size) (hby : i.bytes = bytes) (hzs : z.cells.size = size) (hsz : 0 < size) {ok : Nat → Value → Prop} (hzo : ∀ j u, z.cells[j]? = some u → ok j u)
    (v : Value) (n : Nat) (xs : List Value) (hown : OwnT w base e size ok v n xs)
    (B : Nat) (A : Option Addr) (m c : Nat) (news : List Value) (hr : Reads w B size A m news) (h1 : ∀ u ∈ news, u.oneCell' = true) (hno : ∀ j u, news[j]? = some u → ok (j % size) u)
    (h63 : n + m ≤ maxLen) (hbytes : (n + m) * bytes ≤ 140737488355328) (hbase : base ≤ w.heap.size) :
    ∃ v' w', (Builtin.append_ #[t, t] ty #[v, .slice A m c]).run P w = .ok v' w' ∧ OwnT w' base e size ok v' (n + m) (xs ++ news) ∧ w.grownBy w' v.ownBlock ∧
      (v'.ownBlock = v.ownBlock ∨ v'.ownBlock = some w.heap.size) ∧ (v' = .slice none 0 0 ↔ v = .slice none 0 0 ∧ m = 0) := by
  subst hsize
  subst hby
  rcases A with _ | ad
  · have hm : m = 0 := by
      rcases Nat.eq_zero_or_pos m with h0 | h0
      · exact h0
      · obtain ⟨ad, h, _⟩ := hr.2 h0
        cases h
    subst hm
    have hn : news = [] := List.eq_nil_of_length_eq_zero (by simpa using hr.1)
    subst hn
    exact ⟨v, w, run_append_of_nil w base t ty e i i.size ht hi v n xs hown.1 c, by simpa using hown, World.grownBy.refl w _, .inl rfl, by simp⟩
  · have hnews : ∀ j u, news[j]? = some u → w.cell? (ad.add j) = some u := by
      intro j u hu
      rcases Nat.eq_zero_or_pos m with h0 | h0
      · subst h0
        have hn : news = [] := List.eq_nil_of_length_eq_zero (by simpa using hr.1)
        subst hn
        simp at hu
      · obtain ⟨ad', h, _, hc⟩ := hr.2 h0
        injection h with h
        subst h
        exact hc j u hu
    have hl := hr.1
    have hsmall : n + m ≤ 9223372036854775807 := by simp only [maxLen] at h63; omega
    have hlen : (xs ++ news).length = (n + m) * i.size := by rw [List.length_append, hown.1.1, hl, Nat.add_mul]
    have hel := hown.elems
    have hboth : ∀ (j : Nat) (u : Value), (xs ++ news)[j]? = some u → ok (j % i.size) u := by
      intro j u hu
      rcases Nat.lt_or_ge j xs.length with hlt | hge
      · rw [List.getElem?_append_left hlt] at hu
        exact hel j u hu
      · rw [List.getElem?_append_right hge] at hu
        have h2 := hno _ _ hu
        have hx := hown.1.1
        have h3 : j % i.size = (j - xs.length) % i.size := by
          rw [hx]
          obtain ⟨d, hd⟩ : ∃ d, j = d + n * i.size := ⟨j - n * i.size, by omega⟩
          rw [hd, Nat.add_mul_mod_self_right]
          congr 1
          omega
        rw [h3]
        exact h2
    have grown : ∀ (old : Nat), old < n + m → ∀ (row : Option Nat),
        OwnT (w.drew.alloc (.cells (xs.toArray ++ news.toArray ++ Builtin.zeroCells z.cells (grownCap w (n + m) old e - (n + m))) e)) base e i.size ok
          (.slice (some ⟨w.heap.size, 0, none⟩) (n + m) (grownCap w (n + m) old e)) (n + m) (xs ++ news) ∧
        w.grownBy (w.drew.alloc (.cells (xs.toArray ++ news.toArray ++ Builtin.zeroCells z.cells (grownCap w (n + m) old e - (n + m))) e)) row := by
      intro old ho row
      have hge := grownCap_ge w (n + m) old e
      have hcm : grownCap w (n + m) old e ≤ maxLen := grownCap_le_maxLen w (n + m) old e h63
      have hnew := heap_alloc_new w.drew (.cells (xs.toArray ++ news.toArray ++ Builtin.zeroCells z.cells (grownCap w (n + m) old e - (n + m))) e)
      have hcs : (xs.toArray ++ news.toArray ++ Builtin.zeroCells z.cells (grownCap w (n + m) old e - (n + m))).size = grownCap w (n + m) old e * i.size := by
        simp only [Array.size_append, List.size_toArray, size_zeroCells, hzs, hown.1.1, hl, ← Nat.add_mul]
        congr 1
        omega
      refine ⟨⟨⟨hlen, .inr ⟨w.heap.size, _, _, rfl, hbase, hnew, hge, hcm, hcs, ?_⟩⟩, ?_⟩, ⟨rfl, rfl, rfl, by simp, fun k hk _ => Below.heap_alloc w.drew _ k hk⟩⟩
      · simp only [Array.toList_append, List.append_assoc]
        rw [← List.append_assoc, ← hlen]
        exact List.take_left
      · intro g cur hg hc j u hu
        simp only [Value.ownBlock, Option.some.injEq] at hg
        subst hg
        have hnew' := hnew
        rw [show (w.drew).heap.size = w.heap.size from rfl] at hnew'
        rw [hnew'] at hc
        simp only [Option.some.injEq, Obj.cells.injEq, and_true] at hc
        subst hc
        generalize hZ : Builtin.zeroCells z.cells (grownCap w (n + m) old e - (n + m)) = Z at hu
        have hu2 : ((xs ++ news) ++ Z.toList)[j]? = some u := by
          have e1 : xs.toArray ++ news.toArray ++ Z = ((xs ++ news) ++ Z.toList).toArray := by apply Array.toList_inj.1; simp
          rw [e1, List.getElem?_toArray] at hu
          exact hu
        rcases Nat.lt_or_ge j (xs ++ news).length with hlt | hge2
        · rw [List.getElem?_append_left hlt] at hu2
          exact hboth j u hu2
        · rw [List.getElem?_append_right hge2, Array.getElem?_toList] at hu2
          have h2 := mod_zeros hzo (grownCap w (n + m) old e - (n + m)) _ u (by rw [hZ]; exact hu2)
          rw [hzs, hlen] at h2
          rw [hlen] at hge2
          obtain ⟨d, hd⟩ : ∃ d, j = d + (n + m) * i.size := ⟨j - (n + m) * i.size, by omega⟩
          rw [hd, Nat.add_mul_mod_self_right]
          rw [hd, Nat.add_sub_cancel] at h2
          exact h2
    rcases hown.1.2 with ⟨rfl, rfl⟩ | ⟨g, cap, cur, rfl, hbg, hg, hnc, hcm, hcs, htake⟩
    · have hx : xs = [] := List.eq_nil_of_length_eq_zero (by simpa using hown.1.1)
      subst hx
      by_cases hm : m = 0
      · subst hm
        have hn : news = [] := List.eq_nil_of_length_eq_zero (by simpa using hl)
        subst hn
        refine ⟨.slice none 0 0, w, ?_, OwnT.nil w base e i.size ok, ⟨rfl, rfl, rfl, Nat.le_refl _, fun _ _ _ => rfl⟩, .inl rfl, by simp⟩
        simp [Builtin.append_, run_underlying ht, sizeOf, typeInfo, hi, Builtin.lenOf, Builtin.firstCells, loadCells, loadCellsFrom]
      · have hr := run_append_nil (P := P) w t ty e i z ht hi hz ad m c news hl hnews (by omega) (by omega) (by have hb := hbytes; simp only [Nat.zero_add] at hb; omega)
        have hgr := grown 0 (by omega) (Value.ownBlock (.slice none 0 0))
        simp only [Nat.zero_add, List.nil_append, Array.empty_append] at hgr ⊢
        exact ⟨_, _, hr, hgr.1, hgr.2, .inr rfl, by simp [hm]⟩
    · by_cases hroom : n + m ≤ cap
      · have hfit : n * i.size + news.length ≤ cur.size := by rw [hl, hcs, ← Nat.add_mul]; exact Nat.mul_le_mul_right _ hroom
        have hr := run_append_room (P := P) w t ty e i ht hi g n cap cur hg ad m c news hl hnews h1 hroom hfit
        have hset := setRow_heap w g cur (cur.toList.take (n * i.size) ++ news ++ cur.toList.drop (n * i.size + news.length)).toArray e _ hg
        refine ⟨_, _, hr, ⟨⟨hlen, .inr ⟨g, cap, _, rfl, hbg, hset, hroom, hcm, ?_, ?_⟩⟩, ?_⟩, ⟨rfl, rfl, rfl, by simp, fun k _ hk => setRow_other w g k _ (fun e => hk (by simp [Value.ownBlock, e]))⟩, .inl rfl, by simp⟩
        · simp only [List.size_toArray, List.length_append, List.length_take, List.length_drop, Array.length_toList]
          omega
        · rw [htake, ← hlen]
          exact List.take_left
        · intro g' cur' hg' hc' j u hu
          simp only [Value.ownBlock, Option.some.injEq] at hg'
          subst hg'
          rw [hset] at hc'
          simp only [Option.some.injEq, Obj.cells.injEq, and_true] at hc'
          subst hc'
          rw [htake, List.getElem?_toArray] at hu
          rcases Nat.lt_or_ge j (xs ++ news).length with hlt | hge2
          · rw [List.getElem?_append_left hlt] at hu
            exact hboth j u hu
          · rw [List.getElem?_append_right hge2, List.getElem?_drop] at hu
            refine hown.2 g cur rfl hg j u ?_
            have hx := hown.1.1
            rw [show n * i.size + news.length + (j - (xs ++ news).length) = j by rw [List.length_append] at hge2 ⊢; omega] at hu
            simpa using hu
      · have holds : ∀ j u, xs[j]? = some u → w.cell? ((⟨g, 0, none⟩ : Addr).add j) = some u := hown.1.cells (g := g) rfl
        have hr := run_append_grow (P := P) w t ty e i z ht hi hz ⟨g, 0, none⟩ n cap xs hown.1.1 holds ad m c news hl hnews (by omega) (by omega) (growslice_fits (by omega) hbytes)
        have hgr := grown cap (by omega) (Value.ownBlock (.slice (some ⟨g, 0, none⟩) n cap))
        exact ⟨_, _, hr, hgr.1, hgr.2, .inr rfl, by simp⟩
theorem wp_append_T {o : Oper} {a : Act} {K : Act → World → Prop} {Q : Exit → Act → World → Prop} (s x : Operand) (t : TypeId)
    (ho : o.op = .call { callee := .builtin .append, args := #[s, x], argTypes := #[t, t] })
    (base : Nat) (e : TypeId) (i : TypeInfo) (z : Value) (size bytes : Nat) (ht : P.underlying t = some (.slice e)) (hi : P.info? e = some i) (hz : i.zero = some z)
    (hsize : i.size = size) (hby : i.bytes = bytes) (hzs : z.cells.size = size) (hsz : 0 < size) {ok : Nat → Value → Prop} (hzo : ∀ j u, z.cells[j]? = some u → ok j u)
    (v : Value) (n : Nat) (xs : List Value) (hs : a.eval s = v) (hown : OwnT w base e size ok v n xs)
    (B : Nat) (A : Option Addr) (m c : Nat) (news : List Value) (hx : a.eval x = .slice A m c) (hr : Reads w B size A m news) (h1 : ∀ u ∈ news, u.oneCell' = true) (hno : ∀ j u, news[j]? = some u → ok (j % size) u)
    (h63 : n + m ≤ maxLen) (hbytes : (n + m) * bytes ≤ 140737488355328) (hbase : base ≤ w.heap.size)
    (h : ∀ v' w', OwnT w' base e size ok v' (n + m) (xs ++ news) → w.grownBy w' v.ownBlock → (v'.ownBlock = v.ownBlock ∨ v'.ownBlock = some w.heap.size) → (v' = .slice none 0 0 ↔ v = .slice none 0 0 ∧ m = 0) → K (a.put o.dst v') w') : o.wp P a w K Q := by
  obtain ⟨v', w', hrun, h2, h3, h4, h5⟩ := run_append_T (P := P) w base t o.type e i z size bytes ht hi hz hsize hby hzs hsz hzo v n xs hown B A m c news hr h1 hno h63 hbytes hbase
  unfold Oper.wp execOp
  simp only [ho, resolve, invoke, builtin, Sem.run_bind, Sem.run_pure, Result.andThen_ok, List.map_toArray, List.map_cons, List.map_nil, hs, hx, hrun]
  exact h v' w' h2 h3 h4 h5
theorem wpList_append_T {ops : Array Oper} {rest : List Oper} {o : Oper} {a : Act} {Q : Exit → Act → World → Prop} (hgd : o.guard = none) (s x : Operand) (t : TypeId)
    (ho : o.op = .call { callee := .builtin .append, args := #[s, x], argTypes := #[t, t] })
    (base : Nat) (e : TypeId) (i : TypeInfo) (z : Value) (size bytes : Nat) (ht : P.underlying t = some (.slice e)) (hi : P.info? e = some i) (hz : i.zero = some z)
    (hsize : i.size = size) (hby : i.bytes = bytes) (hzs : z.cells.size = size) (hsz : 0 < size) {ok : Nat → Value → Prop} (hzo : ∀ j u, z.cells[j]? = some u → ok j u)
    (v : Value) (n : Nat) (xs : List Value) (hs : a.eval s = v) (hown : OwnT w base e size ok v n xs)
    (B : Nat) (A : Option Addr) (m c : Nat) (news : List Value) (hx : a.eval x = .slice A m c) (hr : Reads w B size A m news) (h1 : ∀ u ∈ news, u.oneCell' = true) (hno : ∀ j u, news[j]? = some u → ok (j % size) u)
    (h63 : n + m ≤ maxLen) (hbytes : (n + m) * bytes ≤ 140737488355328) (hbase : base ≤ w.heap.size)
    (h : ∀ v' w', OwnT w' base e size ok v' (n + m) (xs ++ news) → w.grownBy w' v.ownBlock → (v'.ownBlock = v.ownBlock ∨ v'.ownBlock = some w.heap.size) → (v' = .slice none 0 0 ↔ v = .slice none 0 0 ∧ m = 0) → wpList P ops Q rest (a.put o.dst v') w') :
    wpList P ops Q (o :: rest) a w :=
  wpList_plain hgd fun _ hK => wp_append_T w s x t ho base e i z size bytes ht hi hz hsize hby hzs hsz hzo v n xs hs hown B A m c news hx hr h1 hno h63 hbytes hbase fun v' w' h2 h3 h4 h5 => hK _ _ (h v' w' h2 h3 h4 h5)
end
end Go.Proofs.YtfikonmhbhcejaaGreatDoor

namespace Go.Proofs.YtfikonmhbhcejaaGreatDoor
open Go.RowKit
theorem OwnT.apart {w : World} {base : Nat} {e : TypeId} {size : Nat} {ok : Nat → Value → Prop} {v : Value} {n : Nat} {xs : List Value} (h : OwnT w base e size ok v n xs) {p : Addr} (hp : v.ownBlock ≠ some p.block) (u : Value) : OwnT (w.setCell p u) base e size ok v n xs :=
  ⟨own_apart h.1 hp u, fun g cur hg hc => h.2 g cur hg (by rw [← hc]; exact (Below.heap_setCell w p u g (fun e => hp (by rw [hg, e]))).symm)⟩
theorem splice_ok {p : Value → Prop} {Z : List Value} {I : Nat} {vs : List Value} (h1 : ∀ u ∈ Z, p u) (h2 : ∀ u ∈ vs, p u) : ∀ u ∈ splice Z I vs, p u := by
  intro u hu
  unfold splice at hu
  rcases List.mem_append.1 hu with hu | hu
  · exact h1 u (List.mem_of_mem_take hu)
  · rcases List.mem_append.1 hu with hu | hu
    · exact h2 u hu
    · exact h1 u (List.mem_of_mem_drop hu)
end Go.Proofs.YtfikonmhbhcejaaGreatDoor

namespace Go.Proofs.YtfikonmhbhcejaaGreatDoor
open Go.RowKit
theorem take_preK {α : Type} (Z : List α) (I : Nat) (vs : List α) (h : I ≤ Z.length) : (splice Z I vs).take (I + vs.length) = Z.take I ++ vs := by
  unfold splice
  rw [← List.append_assoc, List.take_append_of_le_length (by simp; omega), List.take_of_length_le (by simp; omega)]
theorem spliceAK {α : Type} (Z : List α) (I : Nat) (vs T : List α) (h : I + vs.length + T.length ≤ Z.length) :
    (splice (splice Z I vs) (I + vs.length) T).take (I + vs.length + T.length) = Z.take I ++ (vs ++ T) := by
  rw [take_preK _ _ _ (by rw [length_splice _ _ _ (by omega)]; omega), take_preK _ _ _ (by omega), List.append_assoc]
theorem spliceBK {α : Type} (Z : List α) (I : Nat) (vs T : List α) (h : I + vs.length + T.length ≤ Z.length) :
    (splice (splice Z (I + vs.length) T) I vs).take (I + vs.length + T.length) = Z.take I ++ (vs ++ T) := by
  have h1 : (splice Z (I + vs.length) T).take I = Z.take I := by
    unfold splice
    rw [List.take_append_of_le_length (by simp; omega), List.take_take, Nat.min_eq_left (by omega)]
  have h2 : ((splice Z (I + vs.length) T).drop (I + vs.length)).take T.length = T := by
    unfold splice
    rw [List.drop_append_of_le_length (by simp; omega), List.drop_of_length_le (by simp; omega), List.nil_append, List.take_left]
  unfold splice at h1 h2 ⊢
  rw [h1, ← List.append_assoc, List.take_append, List.take_of_length_le (by simp; omega)]
  rw [show I + vs.length + T.length - (Z.take I ++ vs).length = T.length by simp; omega, h2, List.append_assoc]
theorem splice_lenK {α : Type} (Z : List α) (I : Nat) (cs : List α) (h : I + cs.length ≤ Z.length) : (splice Z I cs).length = Z.length := length_splice Z I cs h
theorem grownBy_setRowK {w : World} {g : Nat} {cs : Array Value} : w.grownBy (w.setRow g cs) (some g) := by
  refine ⟨rfl, rfl, rfl, by simp [World.setRow], fun b hb hne => ?_⟩
  exact setRow_other _ _ _ _ (fun e => hne (by rw [e]))
end Go.Proofs.YtfikonmhbhcejaaGreatDoor
