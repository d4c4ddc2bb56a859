/-
  StoreNames answers true for every store and all numbers, and changes no argument: a handle finds its object wherever it is, and a closed handle finds nothing, whatever is opened afterwards. No condition.
-/
import Derived.Test.YtbhbgdlnfobjaaaGreatG11
import Derived.Test.YtbhbgdlnfobjaaaGreatG12
import Derived.Test.YtbhbgdlnfobjaaaGreatG14
namespace Go.Proofs.YtbhbgdlnfobjaaaGreat
open Go.RowKit

set_option maxRecDepth 100000 in
set_option maxHeartbeats 8000000 in
theorem storeNames_any (A : Option Addr) (n c : Nat) (RA : Option Addr) (rn rc : Nat) (PA : Option Addr) (pn pc : Nat) (HA : Option Addr) (hn hc : Nat) (S : St) (i1 i2a : Int) (w : World) (hR : StR w w.heap.size A n RA rn PA pn HA hn S) (hK : StK n c rn pn hn S) (_ : (Lit.int .i64 i1).wf = true) (_ : (Lit.int .i64 i2a).wf = true) :
    Calls Tryz.prog 4 #[.agg #[.slice A n c, .slice RA rn rc, .slice PA pn pc, .slice HA hn hc], .int .i64 i1, .int .i64 i2a] w fun e w' => e = .returned (.bool true) ∧ Below w.heap.size w w' := by
  have HH := Lib.hid stores_true
  have hb1 := below_new w (.cells #[.slice A n c, .slice RA rn rc, .slice PA pn pc, .slice HA hn hc] 28)
  have DS := Blk.new w 28 #[.slice A n c, .slice RA rn rc, .slice PA pn pc, .slice HA hn hc]
  by_cases hobj : objE S i1 = 0
  · obtain ⟨hOK, k, X, s, i, rfl, hx, hO, -, hXn, -⟩ := root_obj hobj
    have hXb := root_at (List.mem_of_getElem? hx) (by omega)
    obtain ⟨v1, v2, v3, v4⟩ := hands_len hOK
    obtain ⟨z1, z2, z3, z4⟩ := hR.lens
    rcases open_cases hOK hXb with ⟨hE0, j, sl, hj, hs0, hs1, hs2, hs3⟩ | hE7
    · -- opened
      have HOp := Lib.hid (fun w hR => openFn_ok A n c RA rn rc PA pn pc HA hn hc S k X s i j sl w hR hK hOK hx hO hE0 hj.ix hj.at_ hj.free)
      have hOK1 : StOk ⟨S.a, S.r, S.p, S.l.set j ⟨sl.gen + 1, true, (X : Int)⟩⟩ := hOK.slots (slot_open hs0 hs1 (by omega)) (fun _ => hXb)
      have hjl : j < S.l.length := (List.getElem?_eq_some_iff.1 hj.at_).1
      have hs1l : (S.l.set j ⟨sl.gen + 1, true, (X : Int)⟩)[j]? = some ⟨sl.gen + 1, true, (X : Int)⟩ := List.getElem?_set_self hjl
      have hlaw := fun T => names_law (S := T) hs3 hs0 hs1
      obtain ⟨nm, hnm⟩ : ∃ nm : Int, nm = j + (sl.gen + 1) * 65536 := ⟨_, rfl⟩
      have hnm0 : 0 ≤ nm := by omega
      have hnm1 : nm < 18446744073709551616 := by omega
      rw [← hnm] at HOp hlaw
      have hgen : sl.gen + 1 ≤ 65535 := by omega
      have hgen0 : 0 ≤ sl.gen + 1 := by omega
      have hfd : ∀ l : List Slot, l[j]? = some ⟨sl.gen + 1, true, (0 : Int)⟩ → True := fun _ _ => trivial
      have hfnd : ∀ (l : List Slot) (y : Int), l[j]? = some ⟨sl.gen + 1, true, y⟩ → Found l nm j ⟨sl.gen + 1, true, y⟩ := fun l y h => ⟨by omega, h, rfl, by simp only; omega⟩
      have hlen1 : (S.l.set j ⟨sl.gen + 1, true, (X : Int)⟩).length = hn := by rw [List.length_set]; exact z4
      generalize hT1 : (⟨S.a, S.r, S.p, S.l.set j ⟨sl.gen + 1, true, (X : Int)⟩⟩ : St) = T1 at HOp hOK1
      have hT1r : T1.r[k]? = some (X : Int) := by rw [← hT1]; exact hx
      have hT1l : T1.l[j]? = some ⟨sl.gen + 1, true, (X : Int)⟩ := by rw [← hT1]; exact hs1l
      have hT1a : ∀ x ∈ T1.a, (Lit.int .u64 x).wf = true := by rw [← hT1]; exact hK.wf
      have hkr : k < rn := by have := (List.getElem?_eq_some_iff.1 hx).1; omega
      have HT1r := Lib.hid hT1r
      have HT1l := Lib.hid hT1l
      have HT1a := Lib.hid hT1a
      have HOK1 := Lib.hid hOK1
      have HLaw := Lib.hid hlaw
      have HFnd := Lib.hid hfnd
      obtain ⟨g', hg'⟩ : ∃ g', Hid (g' = sl.gen + 1) := ⟨_, rfl⟩
      clear hT1 hfd hlaw hfnd hs1l hT1r hT1l hT1a hOK1 hnm hj hE0 hx hO hobj hXb hlen1 hjl
      go_enter Tryz.func4, Tryz.ntmps4
      go_wp2_with fail
      refine (HH.out _).mono ?_
      rintro e w1 ⟨rfl, hb2⟩
      have hb02 := below_step hb1 hb2
      have DS2 := DS.below hb2 DS.lt
      obtain ⟨s0, s1, s2, s3⟩ := DS2.four
      clear HH
      go_wp2_with fail
      refine (HOp.out _ ((hR.below hb02).more hb02.size)).mono ?_
      rintro e w2 ⟨hb3, A1, c1, A2, c2, A3, c3, A4, c4, rfl, hO1⟩
      have hb03 := (below_step hb02 hb3).alloc (below_step hb02 hb3).size (.cells #[.slice A1 n c1, .slice A2 rn c2, .slice A3 pn c3, .slice A4 hn c4] 28)
      have DX := Blk.new w2 28 #[.slice A1 n c1, .slice A2 rn c2, .slice A3 pn c3, .slice A4 hn c4]
      have hR1 := (hO1.below (below_new w2 (.cells #[.slice A1 n c1, .slice A2 rn c2, .slice A3 pn c3, .slice A4 hn c4] 28))).reads
      have hK1 := hO1.known HT1a.out
      have HCo := Lib.hid (collectFn_any A1 n c1 A2 rn c2 A3 pn c3 A4 hn c4 T1 _ hR1 hK1)
      rw [stE_ok.2 HOK1.out] at HCo
      clear s0 s1 s2 s3 hO1 HOp
      obtain ⟨x0, x1, x2, x3⟩ := DX.four
      go_wp2_with fail
      refine HCo.out.mono ?_
      rintro e w4 ⟨hb4, ⟨-, T2, fr, L, Y, now, B1, d1, B2, d2, B3, d3, B4, d4, hC, rfl, hO2⟩ | ⟨h0, -⟩⟩
      rotate_left 1
      · exact absurd rfl h0
      have hOK2 := hC.ok HOK1.out
      obtain ⟨hr2, hZ0⟩ := hC.root HOK1.out HT1r.out (by omega)
      have hl2 := hC.slot HOK1.out HT1l.out
      generalize posL L Y X = Zi at hr2 hZ0 hl2
      obtain ⟨Z, rfl⟩ := Int.eq_ofNat_of_zero_le hZ0
      have hZb := root_at (List.mem_of_getElem? hr2) hZ0
      have hZn := begs_lt hOK2.arena (hOK2.live _ hZb)
      obtain ⟨s2, i2, hOb2⟩ := obj_at hOK2 hZb
      have hwf2 := hC.wf HT1a.out
      have HWF2 := Lib.hid hwf2
      obtain ⟨y1, y2, y3, y4⟩ := hands_len hOK2
      have hK2 := hO2.known hwf2
      have hf2 := HFnd.out _ _ hl2
      obtain ⟨hlaw1, hlaw2⟩ := HLaw.out T2
      have hj2l : j < T2.l.length := (List.getElem?_eq_some_iff.1 hl2).1
      have hOK4 : StOk ⟨T2.a, T2.r, T2.p, T2.l.set j ⟨sl.gen + 1, false, 0⟩⟩ := hOK2.slots (slot_shut hgen0 hgen) (fun h => by cases h)
      have hO4 : ObjAt ⟨T2.a, T2.r, T2.p, T2.l.set j ⟨sl.gen + 1, false, 0⟩⟩ Z s2 i2 := hOb2.same rfl hOK4
      have hr4 : (⟨T2.a, T2.r, T2.p, T2.l.set j ⟨sl.gen + 1, false, 0⟩⟩ : St).r[k]? = some (Z : Int) := hr2
      have hst4 : findS (⟨T2.a, T2.r, T2.p, T2.l.set j ⟨sl.gen + 1, false, 0⟩⟩ : St).l nm = none := by
        cases hq : findS (T2.l.set j ⟨sl.gen + 1, false, 0⟩) nm with
        | none => rfl
        | some u => exact absurd rfl (hlaw1 _ _ hq)
      have HShut := Lib.hid (fun w hR => shutFn_ok B1 n d1 B2 rn d2 B3 pn d3 B4 hn d4 T2 nm j ⟨sl.gen + 1, true, Z⟩ w hR hK2 hOK2 hnm0 hnm1 hf2)
      have HUse2 : Hid (∀ (F1 : Option Addr) (f1 : Nat) (F2 : Option Addr) (f2 : Nat) (F3 : Option Addr) (f3 : Nat) (F4 : Option Addr) (f4 : Nat) (w : World), StR w w.heap.size F1 n F2 rn F3 pn F4 hn ⟨T2.a, T2.r, T2.p, T2.l.set j ⟨sl.gen + 1, false, 0⟩⟩ → StK n f1 rn pn hn ⟨T2.a, T2.r, T2.p, T2.l.set j ⟨sl.gen + 1, false, 0⟩⟩ → _) := fun F1 f1 F2 f2 F3 f3 F4 f4 w hR hK => useFn_stale F1 n f1 F2 rn f2 F3 pn f3 F4 hn f4 _ nm k w hR hK hOK4 (List.getElem?_eq_some_iff.1 hr4).1 hnm0 hnm1 hst4
      have hb05 := (below_step hb03 hb4).alloc (below_step hb03 hb4).size (.cells #[.slice B1 n d1, .slice B2 rn d2, .slice B3 pn d3, .slice B4 hn d4] 28)
      have DY := Blk.new w4 28 #[.slice B1 n d1, .slice B2 rn d2, .slice B3 pn d3, .slice B4 hn d4]
      have hR2 := (hO2.below (below_new w4 (.cells #[.slice B1 n d1, .slice B2 rn d2, .slice B3 pn d3, .slice B4 hn d4] 28))).reads
      have HU := Lib.hid (fun O w hR (hO : O < T2.r.length) => useFn_ok B1 n d1 B2 rn d2 B3 pn d3 B4 hn d4 T2 nm O ⟨sl.gen + 1, true, Z⟩ w hR hK2 hOK2 hO hnm0 hnm1 (found_findS hf2))
      have HUB := Lib.hid (fun w hR (hE : slotTE T2 i2a ≠ 0) => useFn_bad B1 n d1 B2 rn d2 B3 pn d3 B4 hn d4 T2 nm i2a w hR hK2 hE)
      simp only at HShut HU
      have HOpen2 : Hid (∀ (F1 : Option Addr) (f1 : Nat) (F2 : Option Addr) (f2 : Nat) (F3 : Option Addr) (f3 : Nat) (F4 : Option Addr) (f4 : Nat) (w : World), StR w w.heap.size F1 n F2 rn F3 pn F4 hn (⟨T2.a, T2.r, T2.p, T2.l.set j ⟨sl.gen + 1, false, 0⟩⟩ : St) → StK n f1 rn pn hn (⟨T2.a, T2.r, T2.p, T2.l.set j ⟨sl.gen + 1, false, 0⟩⟩ : St) → Calls Tryz.prog 13 #[.agg #[.slice F1 n f1, .slice F2 rn f2, .slice F3 pn f3, .slice F4 hn f4], .int .i64 k] w fun e w7 => Below w.heap.size w w7 ∧ ∃ (G1 : Option Addr) (m1 g1 : Nat) (G2 : Option Addr) (m2 g2 : Nat) (G3 : Option Addr) (m3 g3 : Nat) (G4 : Option Addr) (m4 g4 : Nat) (nm2 E2 E3 : Int),
          e = .returned (.tuple #[.agg #[.slice G1 m1 g1, .slice G2 m2 g2, .slice G3 m3 g3, .slice G4 m4 g4], .int .u64 nm2, .int .i64 E2]) ∧ (∀ w8, Below w7.heap.size w7 w8 → Calls Tryz.prog 14 #[.agg #[.slice G1 m1 g1, .slice G2 m2 g2, .slice G3 m3 g3, .slice G4 m4 g4], .int .u64 nm, .int .i64 k] w8 fun e w9 => Below w8.heap.size w8 w9 ∧ e = .returned (.tuple #[.agg #[.slice none 0 0, .slice none 0 0, .slice none 0 0, .slice none 0 0], .int .i64 E3])) ∧ (E2 = 7 ∨ (E2 = 0 ∧ nm2 ≠ nm ∧ E3 = 9))) := by
        intro F1 f1 F2 f2 F3 f3 F4 f4 w hR hK
        rcases open_cases hOK4 (root_at (List.mem_of_getElem? hr4) (by omega)) with ⟨hE0, j2, t2, hj2, ht0, ht1, -, ht2⟩ | hE7
        · refine (openFn_ok F1 n f1 F2 rn f2 F3 pn f3 F4 hn f4 (⟨T2.a, T2.r, T2.p, T2.l.set j ⟨sl.gen + 1, false, 0⟩⟩ : St) k Z s2 i2 j2 t2 w hR hK hOK4 hr4 hO4 hE0 hj2.ix hj2.at_ hj2.free).mono ?_
          rintro e w7 ⟨hb7, G1, g1, G2, g2, G3, g3, G4, g4, rfl, hG⟩
          obtain ⟨l1, l2⟩ := hlaw2 j2 t2 Z hj2.at_ ht2 ht0
          have hOK5 := hOK4.slots (j := j2) (slot_open ht0 ht1 (x := (Z : Int)) (by omega)) (fun _ => root_at (List.mem_of_getElem? hr4) (by omega))
          refine ⟨hb7, G1, n, g1, G2, rn, g2, G3, pn, g3, G4, hn, g4, _, 0, 9, rfl, fun w8 hb8 => ?_, .inr ⟨rfl, l1, rfl⟩⟩
          exact useFn_stale G1 n g1 G2 rn g2 G3 pn g3 G4 hn g4 _ nm k w8 ((hG.reads.below hb8).more hb8.size) (hG.known hwf2) hOK5 (List.getElem?_eq_some_iff.1 hr4).1 hnm0 hnm1 l2
        · refine (openFn_full F1 n f1 F2 rn f2 F3 pn f3 F4 hn f4 (⟨T2.a, T2.r, T2.p, T2.l.set j ⟨sl.gen + 1, false, 0⟩⟩ : St) k Z s2 i2 w hR hK hOK4 hr4 hO4 (by rw [hE7]; decide)).mono ?_
          rintro e w7 ⟨hb7, rfl⟩
          have hsl : slotTE ⟨[], [], [], []⟩ k ≠ 0 := fun h => by
            obtain ⟨-, k', hk', hk2⟩ := slotTE_zero h
            simp at hk2
          refine ⟨hb7, none, 0, 0, none, 0, 0, none, 0, 0, none, 0, 0, _, _, _, rfl, fun w8 hb8 => useFn_bad none 0 0 none 0 0 none 0 0 none 0 0 _ nm k w8 (noneS_reads w8) noneS_known hsl, .inl hE7⟩
      have hwf4 : ∀ x ∈ (⟨T2.a, T2.r, T2.p, T2.l.set j ⟨sl.gen + 1, false, 0⟩⟩ : St).a, (Lit.int .u64 x).wf = true := hwf2
      have HWF4 := Lib.hid hwf4
      generalize (⟨T2.a, T2.r, T2.p, T2.l.set j ⟨sl.gen + 1, false, 0⟩⟩ : St) = T4 at *
      have hkl2 : T2.r.length = rn := hO2.reads.lens.2.1
      have HR2 := Lib.hid hr2
      clear hwf4 hOK4 hO4 hr4 hst4 hlaw1 hlaw2 hf2 hl2 hj2l hOb2 hwf2 HWF2 hK2 hC hO2 HLaw HFnd HT1r HT1l HT1a HOK1 hK1 hR1 hb4 x0 x1 x2 x3 hr2 hZ0 hZb hgen hgen0 hs0 hs1 hs2 hs3 hb1 hb2 hb3 hb02 hb03 DX DS DS2
      obtain ⟨y0, y1, y2, y3⟩ := DY.four
      by_cases hsl : slotTE T2 i2a = 0
      · obtain ⟨-, O, rfl, hO⟩ := slotTE_zero hsl
        have g1 : decide (rn ≤ k) = false := decide_eq_false (by omega)
        have g2 : decide ((O : Int) < 0) = false := decide_eq_false (by omega)
        have g3 : decide (rn ≤ O) = false := decide_eq_false (by omega)
        clear hsl HUB
        go_wp2_with fail
        refine (HU.out O _ hR2 hO).mono ?_
        rintro e w6 ⟨hb6, E1, e1, E2, e2, E3, e3, E4, e4, rfl, hS3⟩
        have hb07 := (below_step hb05 hb6).alloc (below_step hb05 hb6).size (.cells #[.slice E1 n e1, .slice E2 rn e2, .slice E3 pn e3, .slice E4 hn e4] 28)
        have hbn6 := below_new w6 (.cells #[.slice E1 n e1, .slice E2 rn e2, .slice E3 pn e3, .slice E4 hn e4] 28)
        have DZ := Blk.new w6 28 #[.slice E1 n e1, .slice E2 rn e2, .slice E3 pn e3, .slice E4 hn e4]
        have DY6 := (DY.below hb6 DY.lt).alloc (.cells #[.slice E1 n e1, .slice E2 rn e2, .slice E3 pn e3, .slice E4 hn e4] 28)
        have hR26 := (((hR2.below hb6).more hb6.size).below hbn6).more hbn6.size
        have hR36 := (hS3.below hbn6).reads
        obtain ⟨a1, u1, hE2, had1, hu1, cu1⟩ := hR36.r.num (show O < rn by omega)
        have hu1v : u1 = Z := by
          have h1 : (T2.r.set O (Z : Int))[O]? = some u1 := hu1
          rw [List.getElem?_set_self hO] at h1
          exact (Option.some.inj h1).symm
        obtain ⟨a2, u2, hB2, had2, hu2, cu2⟩ := hR26.r.num (show k < rn by omega)
        have hu2v : u2 = Z := Option.some.inj (hu2.symm.trans HR2.out)
        subst hE2 hu1v hB2 hu2v
        have hOr : O < rn := by omega
        clear hu1 hu2 y0 y1 y2 y3 hR36 hS3 HU hb6 hbn6 DY hR2 hO
        obtain ⟨y0, y1, y2, y3⟩ := DY6.four
        obtain ⟨q0, q1, q2, q3⟩ := DZ.four
        go_upto_region 10 with fail
        go_cut [90] from 26 to 157 (fun s90 wc => s90 = .bool false ∧ Below (w6.alloc (.cells #[.slice E1 n e1, .slice (some a1) rn e2, .slice E3 pn e3, .slice E4 hn e4] 28)).heap.size (w6.alloc (.cells #[.slice E1 n e1, .slice (some a1) rn e2, .slice E3 pn e3, .slice E4 hn e4] 28)) wc)
        case first =>
          go_region
          all_goals
            go_wp2_with fail
            go_meet
            exact ⟨rfl, by first | exact Below.refl _ _ | exact (Below.refl _ _).drew⟩
        case rest =>
          obtain ⟨rfl, hbc⟩ := hcut
          have hb08 := below_step hb07 hbc
          have DY8 := DY6.below hbc DY6.lt
          have hR28 := (hR26.below hbc).more hbc.size
          clear hbc hb07 DY6 hR26 y0 y1 y2 y3 q0 q1 q2 q3 DZ cu1 cu2
          obtain ⟨y0, y1, y2, y3⟩ := DY8.four
          go_wp2_with fail
          refine (HShut.out _ hR28).mono ?_
          rintro e w6 ⟨hb6, F1, f1, F2, f2, F3, f3, F4, f4, rfl, hU⟩
          have hbu := (below_step hb08 hb6).alloc (below_step hb08 hb6).size (.cells #[.slice F1 n f1, .slice F2 rn f2, .slice F3 pn f3, .slice F4 hn f4] 28)
          have DU := Blk.new w6 28 #[.slice F1 n f1, .slice F2 rn f2, .slice F3 pn f3, .slice F4 hn f4]
          have hRU := (hU.below (below_new w6 (.cells #[.slice F1 n f1, .slice F2 rn f2, .slice F3 pn f3, .slice F4 hn f4] 28))).reads
          have hKU := hU.known HWF4.out
          have HO2 := Lib.hid (HOpen2.out F1 f1 F2 f2 F3 f3 F4 f4 _ hRU hKU)
          have HU1 := Lib.hid (fun w hR => HUse2.out F1 f1 F2 f2 F3 f3 F4 f4 w hR hKU)
          obtain ⟨u0, u1, u2, u3⟩ := DU.four
          clear y0 y1 y2 y3 hU
          go_wp2_with fail
          refine HO2.out.mono ?_
          rintro e w7 ⟨hb7, G1, m1, g1, G2, m2, g2, G3, m3, g3, G4, m4, g4, nm2, E2, E3, rfl, hE2, hE3⟩
          have hbv := (below_step hbu hb7).alloc (below_step hbu hb7).size (.cells #[.slice G1 m1 g1, .slice G2 m2 g2, .slice G3 m3 g3, .slice G4 m4 g4] 28)
          have DU7 := (DU.below hb7 DU.lt).alloc (.cells #[.slice G1 m1 g1, .slice G2 m2 g2, .slice G3 m3 g3, .slice G4 m4 g4] 28)
          have DV := Blk.new w7 28 #[.slice G1 m1 g1, .slice G2 m2 g2, .slice G3 m3 g3, .slice G4 m4 g4]
          have hbn7 := below_new w7 (.cells #[.slice G1 m1 g1, .slice G2 m2 g2, .slice G3 m3 g3, .slice G4 m4 g4] 28)
          have hRU7 := ((hRU.below hb7).more hb7.size).below hbn7
          have HE2 := Lib.hid hE2
          have HE3 := Lib.hid hE3
          clear u0 u1 u2 u3 hE2 hE3
          obtain ⟨u0, u1, u2, u3⟩ := DU7.four
          go_wp2_with fail
          refine (HU1.out _ (hRU7.more (by simp))).mono ?_
          rintro e w8 ⟨hb8, rfl⟩
          have hbw := (below_step hbv hb8).alloc (below_step hbv hb8).size (.cells #[.slice none 0 0, .slice none 0 0, .slice none 0 0, .slice none 0 0] 28)
          have DV8 := (DV.below hb8 DV.lt).alloc (.cells #[.slice none 0 0, .slice none 0 0, .slice none 0 0, .slice none 0 0] 28)
          have hb78 := (below_step hbn7 hb8).alloc (below_step hbn7 hb8).size (.cells #[.slice none 0 0, .slice none 0 0, .slice none 0 0, .slice none 0 0] 28)
          have HU3 := Lib.hid (HE2.out _ hb78)
          clear u0 u1 u2 u3
          obtain ⟨u0, u1, u2, u3⟩ := DV8.four
          clear HE2 HU1 HO2
          go_wp2_with fail
          refine HU3.out.mono ?_
          rintro e w9 ⟨hb9, rfl⟩
          have hbx := (below_step hbw hb9).alloc (below_step hbw hb9).size (.cells #[.slice none 0 0, .slice none 0 0, .slice none 0 0, .slice none 0 0] 28)
          clear HU3 u0 u1 u2 u3
          rcases HE3.out with rfl | ⟨rfl, hne, rfl⟩
          · clear HE3
            go_wp2_with fail
            go_ret
            exact ⟨by first | rfl | simp, hbx⟩
          · have gne : (nm2 != nm) = true := by simpa using hne
            clear hne HE3
            go_wp2_with fail
            go_ret
            exact ⟨by first | rfl | simp, hbx⟩
      · have h5 : slotTE T2 i2a = 5 := by
          unfold slotTE at hsl ⊢
          rw [if_neg (by rw [stE_ok.2 hOK2]; decide)] at hsl ⊢
          split at hsl
          · rename_i h; rw [if_pos h]
          · exact absurd rfl hsl
        have hout : i2a < 0 ∨ (rn : Int) ≤ i2a := by
          unfold slotTE at h5
          rw [if_neg (by rw [stE_ok.2 hOK2]; decide)] at h5
          split at h5
          · omega
          · cases h5
        have g1 : decide (rn ≤ k) = false := decide_eq_false (by omega)
        have HUC := Lib.hid (fun w hR => HUB.out w hR hsl)
        rw [h5] at HUC
        clear hsl HUB HU h5
        go_wp2_with fail
        refine (HUC.out _ hR2).mono ?_
        rintro e w6 ⟨hb6, rfl⟩
        have hb07 := (below_step hb05 hb6).alloc (below_step hb05 hb6).size (.cells #[.slice none 0 0, .slice none 0 0, .slice none 0 0, .slice none 0 0] 28)
        have hbn6 := below_new w6 (.cells #[.slice none 0 0, .slice none 0 0, .slice none 0 0, .slice none 0 0] 28)
        have DY6 := (DY.below hb6 DY.lt).alloc (.cells #[.slice none 0 0, .slice none 0 0, .slice none 0 0, .slice none 0 0] 28)
        have hR26 := (((hR2.below hb6).more hb6.size).below hbn6).more hbn6.size
        clear y0 y1 y2 y3 hb6 hbn6 DY hR2 HUC
        obtain ⟨y0, y1, y2, y3⟩ := DY6.four
        go_upto_region 10 with fail
        go_cut [90] from 26 to 157 (fun s90 wc => s90 = .bool false ∧ Below (w6.alloc (.cells #[.slice none 0 0, .slice none 0 0, .slice none 0 0, .slice none 0 0] 28)).heap.size (w6.alloc (.cells #[.slice none 0 0, .slice none 0 0, .slice none 0 0, .slice none 0 0] 28)) wc)
        case first =>
          go_region
          all_goals
            go_wp2_with fail
            go_meet
            exact ⟨rfl, by first | exact Below.refl _ _ | exact (Below.refl _ _).drew⟩
        case rest =>
          obtain ⟨rfl, hbc⟩ := hcut
          have hb08 := below_step hb07 hbc
          have DY8 := DY6.below hbc DY6.lt
          have hR28 := (hR26.below hbc).more hbc.size
          clear hbc hb07 DY6 hR26 y0 y1 y2 y3
          obtain ⟨y0, y1, y2, y3⟩ := DY8.four
          by_cases hneg : i2a < 0
          · have g5 : decide (0 ≤ i2a) = false := decide_eq_false (by omega)
            clear hneg hout
            skip
            go_wp2_with fail
            refine (HShut.out _ hR28).mono ?_
            rintro e w6 ⟨hb6, F1, f1, F2, f2, F3, f3, F4, f4, rfl, hU⟩
            have hbu := (below_step hb08 hb6).alloc (below_step hb08 hb6).size (.cells #[.slice F1 n f1, .slice F2 rn f2, .slice F3 pn f3, .slice F4 hn f4] 28)
            have DU := Blk.new w6 28 #[.slice F1 n f1, .slice F2 rn f2, .slice F3 pn f3, .slice F4 hn f4]
            have hRU := (hU.below (below_new w6 (.cells #[.slice F1 n f1, .slice F2 rn f2, .slice F3 pn f3, .slice F4 hn f4] 28))).reads
            have hKU := hU.known HWF4.out
            have HO2 := Lib.hid (HOpen2.out F1 f1 F2 f2 F3 f3 F4 f4 _ hRU hKU)
            have HU1 := Lib.hid (fun w hR => HUse2.out F1 f1 F2 f2 F3 f3 F4 f4 w hR hKU)
            obtain ⟨u0, u1, u2, u3⟩ := DU.four
            clear y0 y1 y2 y3 hU
            go_wp2_with fail
            refine HO2.out.mono ?_
            rintro e w7 ⟨hb7, G1, m1, g1, G2, m2, g2, G3, m3, g3, G4, m4, g4, nm2, E2, E3, rfl, hE2, hE3⟩
            have hbv := (below_step hbu hb7).alloc (below_step hbu hb7).size (.cells #[.slice G1 m1 g1, .slice G2 m2 g2, .slice G3 m3 g3, .slice G4 m4 g4] 28)
            have DU7 := (DU.below hb7 DU.lt).alloc (.cells #[.slice G1 m1 g1, .slice G2 m2 g2, .slice G3 m3 g3, .slice G4 m4 g4] 28)
            have DV := Blk.new w7 28 #[.slice G1 m1 g1, .slice G2 m2 g2, .slice G3 m3 g3, .slice G4 m4 g4]
            have hbn7 := below_new w7 (.cells #[.slice G1 m1 g1, .slice G2 m2 g2, .slice G3 m3 g3, .slice G4 m4 g4] 28)
            have hRU7 := ((hRU.below hb7).more hb7.size).below hbn7
            have HE2 := Lib.hid hE2
            have HE3 := Lib.hid hE3
            clear u0 u1 u2 u3 hE2 hE3
            obtain ⟨u0, u1, u2, u3⟩ := DU7.four
            go_wp2_with fail
            refine (HU1.out _ (hRU7.more (by simp))).mono ?_
            rintro e w8 ⟨hb8, rfl⟩
            have hbw := (below_step hbv hb8).alloc (below_step hbv hb8).size (.cells #[.slice none 0 0, .slice none 0 0, .slice none 0 0, .slice none 0 0] 28)
            have DV8 := (DV.below hb8 DV.lt).alloc (.cells #[.slice none 0 0, .slice none 0 0, .slice none 0 0, .slice none 0 0] 28)
            have hb78 := (below_step hbn7 hb8).alloc (below_step hbn7 hb8).size (.cells #[.slice none 0 0, .slice none 0 0, .slice none 0 0, .slice none 0 0] 28)
            have HU3 := Lib.hid (HE2.out _ hb78)
            clear u0 u1 u2 u3
            obtain ⟨u0, u1, u2, u3⟩ := DV8.four
            clear HE2 HU1 HO2
            go_wp2_with fail
            refine HU3.out.mono ?_
            rintro e w9 ⟨hb9, rfl⟩
            have hbx := (below_step hbw hb9).alloc (below_step hbw hb9).size (.cells #[.slice none 0 0, .slice none 0 0, .slice none 0 0, .slice none 0 0] 28)
            clear HU3 u0 u1 u2 u3
            rcases HE3.out with rfl | ⟨rfl, hne, rfl⟩
            · clear HE3
              go_wp2_with fail
              go_ret
              exact ⟨by first | rfl | simp, hbx⟩
            · have gne : (nm2 != nm) = true := by simpa using hne
              clear hne HE3
              go_wp2_with fail
              go_ret
              exact ⟨by first | rfl | simp, hbx⟩
          · obtain ⟨O, rfl⟩ := Int.eq_ofNat_of_zero_le (show 0 ≤ i2a by omega)
            have g6 : decide (O < rn) = false := decide_eq_false (by omega)
            clear hneg hout
            skip
            go_wp2_with fail
            refine (HShut.out _ hR28).mono ?_
            rintro e w6 ⟨hb6, F1, f1, F2, f2, F3, f3, F4, f4, rfl, hU⟩
            have hbu := (below_step hb08 hb6).alloc (below_step hb08 hb6).size (.cells #[.slice F1 n f1, .slice F2 rn f2, .slice F3 pn f3, .slice F4 hn f4] 28)
            have DU := Blk.new w6 28 #[.slice F1 n f1, .slice F2 rn f2, .slice F3 pn f3, .slice F4 hn f4]
            have hRU := (hU.below (below_new w6 (.cells #[.slice F1 n f1, .slice F2 rn f2, .slice F3 pn f3, .slice F4 hn f4] 28))).reads
            have hKU := hU.known HWF4.out
            have HO2 := Lib.hid (HOpen2.out F1 f1 F2 f2 F3 f3 F4 f4 _ hRU hKU)
            have HU1 := Lib.hid (fun w hR => HUse2.out F1 f1 F2 f2 F3 f3 F4 f4 w hR hKU)
            obtain ⟨u0, u1, u2, u3⟩ := DU.four
            clear y0 y1 y2 y3 hU
            go_wp2_with fail
            refine HO2.out.mono ?_
            rintro e w7 ⟨hb7, G1, m1, g1, G2, m2, g2, G3, m3, g3, G4, m4, g4, nm2, E2, E3, rfl, hE2, hE3⟩
            have hbv := (below_step hbu hb7).alloc (below_step hbu hb7).size (.cells #[.slice G1 m1 g1, .slice G2 m2 g2, .slice G3 m3 g3, .slice G4 m4 g4] 28)
            have DU7 := (DU.below hb7 DU.lt).alloc (.cells #[.slice G1 m1 g1, .slice G2 m2 g2, .slice G3 m3 g3, .slice G4 m4 g4] 28)
            have DV := Blk.new w7 28 #[.slice G1 m1 g1, .slice G2 m2 g2, .slice G3 m3 g3, .slice G4 m4 g4]
            have hbn7 := below_new w7 (.cells #[.slice G1 m1 g1, .slice G2 m2 g2, .slice G3 m3 g3, .slice G4 m4 g4] 28)
            have hRU7 := ((hRU.below hb7).more hb7.size).below hbn7
            have HE2 := Lib.hid hE2
            have HE3 := Lib.hid hE3
            clear u0 u1 u2 u3 hE2 hE3
            obtain ⟨u0, u1, u2, u3⟩ := DU7.four
            go_wp2_with fail
            refine (HU1.out _ (hRU7.more (by simp))).mono ?_
            rintro e w8 ⟨hb8, rfl⟩
            have hbw := (below_step hbv hb8).alloc (below_step hbv hb8).size (.cells #[.slice none 0 0, .slice none 0 0, .slice none 0 0, .slice none 0 0] 28)
            have DV8 := (DV.below hb8 DV.lt).alloc (.cells #[.slice none 0 0, .slice none 0 0, .slice none 0 0, .slice none 0 0] 28)
            have hb78 := (below_step hbn7 hb8).alloc (below_step hbn7 hb8).size (.cells #[.slice none 0 0, .slice none 0 0, .slice none 0 0, .slice none 0 0] 28)
            have HU3 := Lib.hid (HE2.out _ hb78)
            clear u0 u1 u2 u3
            obtain ⟨u0, u1, u2, u3⟩ := DV8.four
            clear HE2 HU1 HO2
            go_wp2_with fail
            refine HU3.out.mono ?_
            rintro e w9 ⟨hb9, rfl⟩
            have hbx := (below_step hbw hb9).alloc (below_step hbw hb9).size (.cells #[.slice none 0 0, .slice none 0 0, .slice none 0 0, .slice none 0 0] 28)
            clear HU3 u0 u1 u2 u3
            rcases HE3.out with rfl | ⟨rfl, hne, rfl⟩
            · clear HE3
              go_wp2_with fail
              go_ret
              exact ⟨by first | rfl | simp, hbx⟩
            · have gne : (nm2 != nm) = true := by simpa using hne
              clear hne HE3
              go_wp2_with fail
              go_ret
              exact ⟨by first | rfl | simp, hbx⟩
    · -- no slot is free
      have HOp := Lib.hid (fun w hR => openFn_full A n c RA rn rc PA pn pc HA hn hc S k X s i w hR hK hOK hx hO (by rw [hE7]; decide))
      rw [hE7] at HOp
      go_enter Tryz.func4, Tryz.ntmps4
      go_wp2_with fail
      refine (HH.out _).mono ?_
      rintro e w1 ⟨rfl, hb2⟩
      have hb02 := below_step hb1 hb2
      have DS2 := DS.below hb2 DS.lt
      obtain ⟨s0, s1, s2, s3⟩ := DS2.four
      clear HH
      go_wp2_with fail
      refine (HOp.out _ ((hR.below hb02).more hb02.size)).mono ?_
      rintro e w2 ⟨hb3, rfl⟩
      have hb03 := (below_step hb02 hb3).alloc (below_step hb02 hb3).size (.cells #[.slice none 0 0, .slice none 0 0, .slice none 0 0, .slice none 0 0] 28)
      have DX := Blk.new w2 28 #[.slice none 0 0, .slice none 0 0, .slice none 0 0, .slice none 0 0]
      clear s0 s1 s2 s3
      obtain ⟨x0, x1, x2, x3⟩ := DX.four
      go_wp2_with fail
      go_ret
      exact ⟨by first | rfl | simp, hb03⟩
  · have HOp := Lib.hid (fun w hR => openFn_bad A n c RA rn rc PA pn pc HA hn hc S i1 w hR hK hobj)
    have g1 : (objE S i1 != 0) = true := by simpa using hobj
    generalize objE S i1 = F at *
    go_enter Tryz.func4, Tryz.ntmps4
    go_wp2_with fail
    refine (HH.out _).mono ?_
    rintro e w1 ⟨rfl, hb2⟩
    have hb02 := below_step hb1 hb2
    have DS2 := DS.below hb2 DS.lt
    obtain ⟨s0, s1, s2, s3⟩ := DS2.four
    clear HH
    go_wp2_with fail
    refine (HOp.out _ ((hR.below hb02).more hb02.size)).mono ?_
    rintro e w2 ⟨hb3, rfl⟩
    have hb03 := (below_step hb02 hb3).alloc (below_step hb02 hb3).size (.cells #[.slice none 0 0, .slice none 0 0, .slice none 0 0, .slice none 0 0] 28)
    have DX := Blk.new w2 28 #[.slice none 0 0, .slice none 0 0, .slice none 0 0, .slice none 0 0]
    clear s0 s1 s2 s3
    obtain ⟨x0, x1, x2, x3⟩ := DX.four
    go_wp2_with fail
    go_ret
    exact ⟨by first | rfl | simp, hb03⟩

namespace StoreNames
open Go.ChangeShapes Go.WideShapes Go.ChangeAt Go.RowKit
theorem own : ownKnob Tryz.prog.godebug = none := by kernel_rfl
theorem laidOut : laidOutB Tryz.prog = true := by kernel_rfl

set_option maxRecDepth 100000 in
theorem lifted (os : Os) (started : os.Started) (H : Type) (enc : TypeId × Value → H) :
    ReturnsInHanded {} Tryz.checked os 4 .any (Rows.storeNamesSpec.pre6 enc Tryz.prog Tryz.f4 Rows.storeNamesRow.domain false) (Rows.storeNamesSpec.post enc Tryz.prog Tryz.f4 false true false false) := by
  refine returnsInHanded_of_change (C := Tryz.checked) own started (by as_aux_lemma => kernel_rfl) Tryz.func4
    (ChangeSpec.witness6 (enc := enc) (C := Tryz.checked) false ⟨#[], #[.agg #[.slice none 0 0, .slice none 0 0, .slice none 0 0, .slice none 0 0], .int .i64 0, .int .i64 0], []⟩ 8 (by as_aux_lemma => kernel_rfl) (by as_aux_lemma => kernel_rfl) (by as_aux_lemma => kernel_rfl) (by as_aux_lemma => kernel_rfl)) ?_
  intro W base args ds gs before hval0 hW hcnd _
  have hval : ∀ (j : Nat) t v, Tryz.f4.params[j]? = some t → args[j]? = some v → Value.okWide Tryz.prog W .any base t v := hval0
  have hW' := hW
  obtain ⟨p, q, hA0, hV, rfl, hfz, hnd⟩ := hW
  have hA : DataW.TrodAll enc Tryz.prog W 0 (fun _ => true) true Tryz.f4.params.toList args.toList ds p := hA0
  rw [Tryz.params4] at hA hval
  obtain ⟨v0, vs0, d0, ds0, p0, q0, hargs, rfl, rfl, h0, hA⟩ := trodAll_cons hA
  obtain ⟨v1, vs1, d1, ds1, p1, q1, rfl, rfl, rfl, h1, hA⟩ := trodAll_cons hA
  obtain ⟨v2, vs2, d2, ds2, p2, q2, rfl, rfl, rfl, h2, hA⟩ := trodAll_cons hA
  obtain ⟨rfl, rfl, rfl⟩ := trodAll_nil hA
  obtain rfl : args = #[v0, v1, v2] := by cases args; simp_all
  obtain ⟨A0, n0, c0, RA0, rn0, rc0, PA0, pn0, pc0, HA0, hn0, hc0, S0, rfl, hR0, hK0⟩ := open_store (hval 0 _ v0 rfl rfl) (fun x hx => hW'.lt x (by simp [hx])) h0
  obtain ⟨i1, rfl, rfl, rfl, w1⟩ := open_int Tryz.underlying3 (hval 1 _ v1 rfl rfl) h1
  obtain ⟨i2, rfl, rfl, rfl, w2⟩ := open_int Tryz.underlying3 (hval 2 _ v2 rfl rfl) h2
  refine (storeNames_any A0 n0 c0 RA0 rn0 rc0 PA0 pn0 pc0 HA0 hn0 hc0 S0 i1 i2 W hR0 hK0 w1 w2).mono fun e W' ⟨he, hb⟩ => ?_
  subst he
  exact ⟨_, rfl, law_post laidOut Tryz.underlying4 rfl (by as_aux_lemma => kernel_rfl) rfl rfl hW' hb⟩

set_option maxHeartbeats 10000000 in
theorem closed : joinedFacts Tryz.prog 4 Tryz.f4 Rows.storeNamesSpec Rows.storeNamesRow = true := by
  unfold joinedFacts
  simp only [Bool.and_eq_true]
  repeat' apply And.intro
  all_goals as_aux_lemma => kernel_rfl

set_option maxHeartbeats 1000000 in
theorem proved : Rows.StoreNamesSaid :=
  OpenClaim.holds_of_wide 4 Tryz.f4 rfl rfl rfl rfl rfl rfl rfl ⟨rfl, rfl, rfl, rfl, rfl⟩ rfl rfl rfl rfl rfl (by as_aux_lemma => kernel_rfl) Tryz.func4 closed
    (of_decide_eq_true (by as_aux_lemma => kernel_rfl)) (by unfold Func.isWrapper; first | (rw [if_pos (by decide +kernel)]; kernel_rfl) | (rw [if_neg (by decide +kernel)]; exact ⟨rfl, rfl⟩))
    (fun os started H enc _ => lifted os started H enc)
end StoreNames
end Go.Proofs.YtbhbgdlnfobjaaaGreat
