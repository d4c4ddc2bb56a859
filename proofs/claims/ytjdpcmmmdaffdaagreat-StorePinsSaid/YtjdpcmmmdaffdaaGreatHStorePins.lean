/-
  StorePins answers true for every store and all numbers, and changes no argument: a pinned object stays at its word and can be read there, after any number of collections. No condition.
-/
import Derived.Test.YtjdpcmmmdaffdaaGreatG11
import Derived.Test.YtjdpcmmmdaffdaaGreatG13
import Derived.Test.YtjdpcmmmdaffdaaGreatG16
namespace Go.Proofs.YtjdpcmmmdaffdaaGreat
open Go.RowKit

theorem noUnpin (X : Int) (j : Nat) : ¬ UnpinOk ⟨[], [], [], []⟩ X j := fun h => by
  have := h.2.2
  simp [hasAt] at this
set_option maxRecDepth 100000 in
set_option maxHeartbeats 8000000 in
theorem storePins_any (A : Option Addr) (n c : Nat) (RA : Option Addr) (rn rc : Nat) (PA : Option Addr) (pn pc : Nat) (HA : Option Addr) (hn hc : Nat) (S : St) (i1 i2 : Int) (w : World) (hR : StR w w.heap.size A n RA rn PA pn HA hn S) (hK : StK n c rn pn hn S) (_ : (Lit.int .i64 i1).wf = true) (_ : (Lit.int .i64 i2).wf = true) :
    Calls Tryz.prog 4 #[.agg #[.slice A n c, .slice RA rn rc, .slice PA pn pc, .slice HA hn hc], .int .i64 i1, .int .i64 i2] w fun e w' => e = .returned (.bool true) ∧ Below w.heap.size w w' := by
  have HH := Lib.hid stores_true
  have hb1 := below_new w (.cells #[.slice A n c, .slice RA rn rc, .slice PA pn pc, .slice HA hn hc] 28)
  have DS := Blk.new w 28 #[.slice A n c, .slice RA rn rc, .slice PA pn pc, .slice HA hn hc]
  by_cases hobj : objE S i1 = 0
  · obtain ⟨hOK, k, X, s, i, rfl, hx, hO, -, hXn, -⟩ := root_obj hobj
    have hXb := root_at (List.mem_of_getElem? hx) (by omega)
    obtain ⟨v1, v2, v3, v4⟩ := hands_len hOK
    obtain ⟨z1, z2, z3, z4⟩ := hR.lens
    have HSZ : Hid (n ≤ 256 ∧ rn ≤ 32 ∧ pn ≤ 16 ∧ hn ≤ 16) := by show _ ∧ _; omega
    have HPin := Lib.hid (fun w hR => pinFn_obj A n c RA rn rc PA pn pc HA hn hc S k X s i w hR hK hOK hx hO)
    have HF := Lib.hid (And.intro hOK (And.intro hx (And.intro hO (And.intro hXb hobj))))
    have HKK := Lib.hid hK
    clear hOK hx hO hXb hobj hK
    go_enter Tryz.func4, Tryz.ntmps4
    go_wp2_with fail
    refine (HH.out _).mono ?_
    rintro e w1 ⟨rfl, hb2⟩
    have hb02 := below_step hb1 hb2
    have DS2 := DS.below hb2 DS.lt
    obtain ⟨s0, s1, s2, s3⟩ := DS2.four
    clear HH
    go_wp2_with fail
    refine (HPin.out _ ((hR.below hb02).more hb02.size)).mono ?_
    rintro e w2 ⟨hb3, ⟨j, hPO, A1, c1, A2, c2, A3, m, c3, A4, c4, rfl, hO1⟩ | ⟨-, hne, rfl⟩⟩
    · obtain ⟨hOK, hx, hO, hXb, hobj⟩ := HF.out
      have hOK1 := pin_law hOK hXb hPO
      have hth := there_of hOK hXb
      have hmem : (⟨X, countP S.p X + 1⟩ : Rn) ∈ moreP S.p X j (countP S.p X + 1) := (moreP_mem hPO.1 hOK.pins.rise _).2 (.inl rfl)
      have hb03 := (below_step hb02 hb3).alloc (below_step hb02 hb3).size (.cells #[.slice A1 n c1, .slice A2 rn c2, .slice A3 m c3, .slice A4 hn c4] 28)
      have DX := Blk.new w2 28 #[.slice A1 n c1, .slice A2 rn c2, .slice A3 m c3, .slice A4 hn c4]
      have DS4 := (DS2.below hb3 DS2.lt).alloc (.cells #[.slice A1 n c1, .slice A2 rn c2, .slice A3 m c3, .slice A4 hn c4] 28)
      have hR1 := (hO1.below (below_new w2 (.cells #[.slice A1 n c1, .slice A2 rn c2, .slice A3 m c3, .slice A4 hn c4] 28))).reads
      have hRs := (hR.below hb03).more hb03.size
      have hK1 := hO1.known HKK.out.wf
      have hm16 : m ≤ 16 := by have := hOK1.pins.len; have := hR1.lens.2.2.1; omega
      have hx1 : (⟨S.a, S.r, moreP S.p X j (countP S.p X + 1), S.l⟩ : St).r[k]? = some (X : Int) := hx
      have hO1' : ObjAt (⟨S.a, S.r, moreP S.p X j (countP S.p X + 1), S.l⟩ : St) X s i := hO.same rfl hOK1
      obtain ⟨hU1, hU1'⟩ := unpin_more (T := ⟨S.a, S.r, moreP S.p X j (countP S.p X + 1), S.l⟩) hOK.pins hPO.1 hOK1.pins rfl hth
      -- Unpin of the store that was pinned
      have HUn3 : Hid (∀ w : World, StR w w.heap.size A1 n A2 rn A3 m A4 hn ⟨S.a, S.r, moreP S.p X j (countP S.p X + 1), S.l⟩ → Calls Tryz.prog 15 #[.agg #[.slice A1 n c1, .slice A2 rn c2, .slice A3 m c3, .slice A4 hn c4], .int .i64 X] w fun e wi => Below w.heap.size w wi ∧ ∃ (I1 : Option Addr) (h1 : Nat) (I2 : Option Addr) (h2 : Nat) (I3 : Option Addr) (h3 : Nat) (I4 : Option Addr) (h4 : Nat), e = .returned (.tuple #[.agg #[.slice I1 n h1, .slice I2 rn h2, .slice I3 pn h3, .slice I4 hn h4], .int .i64 0]) ∧ StR wi wi.heap.size I1 n I2 rn I3 pn I4 hn S) := by
        intro w hR
        refine (unpinFn_ok A1 n c1 A2 rn c2 A3 m c3 A4 hn c4 _ X w hR hK1 hOK1).mono ?_
        rintro e wi ⟨hb, ⟨j', hU, I1, h1, I2, h2, I3, m', h3, I4, h4, rfl, hS⟩ | ⟨hno, -⟩⟩
        · rw [hU1' j' hU] at hS
          obtain rfl : m' = pn := by have := hS.reads.lens.2.2.1; simp only at this; omega
          exact ⟨hb, I1, h1, I2, h2, I3, h3, I4, h4, rfl, hS.reads⟩
        · exact absurd hU1 (hno j)
      have HCo := Lib.hid (collectFn_any A1 n c1 A2 rn c2 A3 m c3 A4 hn c4 _ _ hR1 hK1)
      rw [stE_ok.2 hOK1] at HCo
      have HF1 := Lib.hid (And.intro hOK1 (And.intro hx1 (And.intro hO1' hmem)))
      clear s0 s1 s2 s3 hO1 HPin hOK hx hO hOK1 hx1 hO1' hmem hU1 hU1' hK1 hb3
      obtain ⟨x0, x1, x2, x3⟩ := DX.four
      go_wp2_with fail
      refine HCo.out.mono ?_
      rintro e w4 ⟨hb4, ⟨-, T2, fr, L, Y, now, B1, d1, B2, d2, B3, d3, B4, d4, hC, rfl, hO2⟩ | ⟨h0, -⟩⟩
      rotate_left 1
      · exact absurd rfl h0
      obtain ⟨hOK, hx, hO, -, -⟩ := HF.out
      obtain ⟨hOK1, hx1, hO1', hmem⟩ := HF1.out
      have hφ : posL L Y X = X := hC.pinned hmem
      have hOK2 := hC.ok hOK1
      have hr2 := (hC.root hOK1 hx1 (by omega)).1
      obtain ⟨s2, i2', hOb2, e1, e2, -, e4⟩ := hC.obj hOK1 (root_at (List.mem_of_getElem? hx1) (by omega)) hO1'
      rw [hφ] at hr2 hOb2
      have hXb2 := root_at (List.mem_of_getElem? hr2) (by omega)
      have hwf2 := hC.wf HKK.out.wf
      have hK2 := hO2.known hwf2
      have hp2 := hC.p
      have hth2 := there_of hOK2 hXb2
      have hXp : (X : Int) ∈ pinsL T2.p := by rw [hp2]; exact List.mem_map.2 ⟨_, hmem, rfl⟩
      obtain ⟨-, hU2'⟩ := unpin_more (T := T2) hOK.pins hPO.1 hOK1.pins hp2 hth2
      have hU2 : ∃ j', UnpinOk T2 X j' := by
        obtain ⟨j', q1, q2⟩ := place_ex ⟨_, by rw [hp2]; exact hmem, rfl⟩ hOK2.pins
        exact ⟨j', findE_zero.2 ⟨hOK2.pins, hth2⟩, q1, q2⟩
      have HPin2 : Hid (∀ w : World, StR w w.heap.size B1 n B2 rn B3 m B4 hn T2 → Calls Tryz.prog 11 #[.agg #[.slice B1 n d1, .slice B2 rn d2, .slice B3 m d3, .slice B4 hn d4], .int .i64 k] w fun e we => Below w.heap.size w we ∧ ∃ (E1 : Option Addr) (x1 e1 : Nat) (E2 : Option Addr) (x2 e2 : Nat) (E3 : Option Addr) (x3 e3 : Nat) (E4 : Option Addr) (x4 e4 : Nat) (tt g : Int), e = .returned (.tuple #[.agg #[.slice E1 x1 e1, .slice E2 x2 e2, .slice E3 x3 e3, .slice E4 x4 e4], .int .i64 tt, .int .i64 g]) ∧ Hid (∀ w8, Below we.heap.size we w8 → Calls Tryz.prog 15 #[.agg #[.slice E1 x1 e1, .slice E2 x2 e2, .slice E3 x3 e3, .slice E4 x4 e4], .int .i64 X] w8 fun e wf => Below w8.heap.size w8 wf ∧ ∃ (F1 : Option Addr) (y1 f1 : Nat) (F2 : Option Addr) (y2 f2 : Nat) (F3 : Option Addr) (y3 f3 : Nat) (F4 : Option Addr) (y4 f4 : Nat) (l : Int), e = .returned (.tuple #[.agg #[.slice F1 y1 f1, .slice F2 y2 f2, .slice F3 y3 f3, .slice F4 y4 f4], .int .i64 l]) ∧ Hid (∀ w10, Below wf.heap.size wf w10 → Calls Tryz.prog 15 #[.agg #[.slice F1 y1 f1, .slice F2 y2 f2, .slice F3 y3 f3, .slice F4 y4 f4], .int .i64 X] w10 fun e wg => Below w10.heap.size w10 wg ∧ ∃ (G1 : Option Addr) (z1 g1 : Nat) (G2 : Option Addr) (z2 g2 : Nat) (G3 : Option Addr) (z3 g3 : Nat) (G4 : Option Addr) (z4 g4 : Nat) (M : Int), e = .returned (.tuple #[.agg #[.slice G1 z1 g1, .slice G2 z2 g2, .slice G3 z3 g3, .slice G4 z4 g4], .int .i64 M]) ∧ Hid ((g = 0 ∧ tt = X ∧ l = 0 ∧ M = 0 ∧ z1 = n ∧ z2 = rn ∧ z3 = pn ∧ z4 = hn ∧ StR wg wg.heap.size G1 n G2 rn G3 pn G4 hn ⟨T2.a, T2.r, S.p, T2.l⟩) ∨ (g = 7 ∧ l ≠ 0))))) := by
        intro w hR
        refine (pinFn_obj B1 n d1 B2 rn d2 B3 m d3 B4 hn d4 T2 k X s2 i2' w hR hK2 hOK2 hr2 hOb2).mono ?_
        rintro e we ⟨hb, ⟨j2, hP2, E1, e1, E2, e2, E3, m3, e3, E4, e4, rfl, hS3⟩ | ⟨hno, hne, rfl⟩⟩
        · have hOK3 := pin_law hOK2 hXb2 hP2
          obtain ⟨hU3, hU3'⟩ := unpin_more (T := ⟨T2.a, T2.r, moreP T2.p X j2 (countP T2.p X + 1), T2.l⟩) hOK2.pins hP2.1 hOK3.pins rfl hth2
          refine ⟨hb, E1, n, e1, E2, rn, e2, E3, m3, e3, E4, hn, e4, _, _, rfl, fun w8 hb8 => ?_⟩
          refine (unpinFn_ok E1 n e1 E2 rn e2 E3 m3 e3 E4 hn e4 _ X w8 ((hS3.reads.below hb8).more hb8.size) (hS3.known hwf2) hOK3).mono ?_
          rintro e wf ⟨hb9, ⟨j', hU, F1, f1, F2, f2, F3, m4, f3, F4, f4, rfl, hS4⟩ | ⟨hno, -⟩⟩
          rotate_left 1
          · exact absurd hU3 (hno j2)
          rw [hU3' j' hU] at hS4
          refine ⟨hb9, F1, n, f1, F2, rn, f2, F3, m4, f3, F4, hn, f4, _, rfl, fun w10 hb10 => ?_⟩
          refine (unpinFn_ok F1 n f1 F2 rn f2 F3 m4 f3 F4 hn f4 T2 X w10 ((hS4.reads.below hb10).more hb10.size) (hS4.known hwf2) hOK2).mono ?_
          rintro e wg ⟨hb11, ⟨j3, hU, G1, g1, G2, g2, G3, m5, g3, G4, g4, rfl, hS5⟩ | ⟨hno, -⟩⟩
          rotate_left 1
          · obtain ⟨j', h'⟩ := hU2
            exact absurd h' (hno j')
          rw [hU2' j3 hU] at hS5
          obtain rfl : m5 = pn := by have := hS5.reads.lens.2.2.1; simp only at this; omega
          exact ⟨hb11, G1, n, g1, G2, rn, g2, G3, m5, g3, G4, hn, g4, _, rfl, .inl ⟨rfl, rfl, rfl, rfl, rfl, rfl, rfl, rfl, hS5.reads⟩⟩
        · have h7 : addE T2.p X = 7 := by unfold addE; rw [if_neg (by rw [findE_zero.2 ⟨hOK2.pins, hth2⟩]; decide)]
          refine ⟨hb, none, 0, 0, none, 0, 0, none, 0, 0, none, 0, 0, _, _, rfl, fun w8 hb8 => ?_⟩
          refine (unpinFn_ok none 0 0 none 0 0 none 0 0 none 0 0 _ X w8 (noneS_reads w8) noneS_known noneS_ok).mono ?_
          rintro e wf ⟨hb9, ⟨j', hU, -⟩ | ⟨-, hne2, rfl⟩⟩
          · exact absurd hU (noUnpin _ _)
          refine ⟨hb9, none, 0, 0, none, 0, 0, none, 0, 0, none, 0, 0, _, rfl, fun w10 hb10 => ?_⟩
          refine (unpinFn_ok none 0 0 none 0 0 none 0 0 none 0 0 _ X w10 (noneS_reads w10) noneS_known noneS_ok).mono ?_
          rintro e wg ⟨hb11, ⟨j', hU, -⟩ | ⟨-, hne3, rfl⟩⟩
          · exact absurd hU (noUnpin _ _)
          exact ⟨hb11, none, 0, 0, none, 0, 0, none, 0, 0, none, 0, 0, _, rfl, .inr ⟨h7, hne2⟩⟩
      -- Get and Peek tell the same
      obtain ⟨gv, gE, HGet, HPeek⟩ : ∃ (gv : Nat) (gE : Int), Hid (∀ w : World, StR w w.heap.size A n RA rn PA pn HA hn S → Calls Tryz.prog 13 #[.agg #[.slice A n c, .slice RA rn rc, .slice PA pn pc, .slice HA hn hc], .int .i64 k, .int .i64 i2] w fun e w' => Below w.heap.size w w' ∧ e = .returned (.tuple #[.int .u64 gv, .int .i64 gE])) ∧
          Hid (∀ w : World, StR w w.heap.size B1 n B2 rn B3 m B4 hn T2 → Calls Tryz.prog 14 #[.agg #[.slice B1 n d1, .slice B2 rn d2, .slice B3 m d3, .slice B4 hn d4], .int .i64 X, .int .i64 i2] w fun e w' => Below w.heap.size w w' ∧ e = .returned (.tuple #[.int .u64 gv, .int .i64 gE])) := by
        by_cases hrg : 0 ≤ i2 ∧ i2 < s.b
        · obtain ⟨K, rfl⟩ := Int.eq_ofNat_of_zero_le hrg.1
          have hfit := hO.ok.fits
          have hr0 := hO.ok.r0
          rw [hO.loc] at hfit
          unfold Spot.long at hfit
          have hlt : X + 1 + s.r.toNat + K < S.a.length := by omega
          have hg : S.a[X + 1 + s.r.toNat + K]? = some S.a[X + 1 + s.r.toNat + K] := List.getElem?_eq_getElem hlt
          have hw0 := wf_words HKK.out.wf _ (List.mem_of_getElem? hg)
          generalize S.a[X + 1 + s.r.toNat + K] = u at hg hw0
          obtain ⟨gv, rfl⟩ := Int.eq_ofNat_of_zero_le hw0.1
          have hbv : (bodyOf T2.a s2)[K]? = some (gv : Int) := by
            rw [e4]
            show (bodyOf S.a s)[K]? = _
            rw [body_ix hrg.2, hO.loc]
            exact hg
          exact ⟨gv, 0, fun w hR => get_ok A n c RA rn rc PA pn pc HA hn hc S k X K gv s i w hR HKK.out hOK hx hO hrg.2 hg, fun w hR => peek_ok B1 n d1 B2 rn d2 B3 m d3 B4 hn d4 T2 X K s2 i2' gv w hR hK2 hOK2 hXp hOb2 ⟨by omega, by omega⟩ (by rw [Int.toNat_natCast]; exact hbv)⟩
        · have hbE : bodyE S k i2 = 4 := by
            unfold bodyE
            rw [if_neg (by rw [objE_of hOK hx (by omega)]; decide), spS_at hx hO, if_pos (by omega)]
          refine ⟨0, 4, fun w hR => ?_, fun w hR => peek_range B1 n d1 B2 rn d2 B3 m d3 B4 hn d4 T2 X i2 s2 i2' w hR hK2 hOK2 hXp hOb2 (by omega)⟩
          have := get_bad A n c RA rn rc PA pn pc HA hn hc S k i2 w hR HKK.out (by rw [hbE]; decide)
          rw [hbE] at this
          exact this
      obtain ⟨y1, y2, y3, y4⟩ := hands_len hOK2
      obtain ⟨u1, u2, u3, u4⟩ := hO2.reads.lens
      have hb05 := (below_step hb03 hb4).alloc (below_step hb03 hb4).size (.cells #[.slice B1 n d1, .slice B2 rn d2, .slice B3 m d3, .slice B4 hn d4] 28)
      have hbn4 := below_new w4 (.cells #[.slice B1 n d1, .slice B2 rn d2, .slice B3 m d3, .slice B4 hn d4] 28)
      have DY := Blk.new w4 28 #[.slice B1 n d1, .slice B2 rn d2, .slice B3 m d3, .slice B4 hn d4]
      have DX6 := (DX.below hb4 DX.lt).alloc (.cells #[.slice B1 n d1, .slice B2 rn d2, .slice B3 m d3, .slice B4 hn d4] 28)
      have DS6 := (DS4.below hb4 DS4.lt).alloc (.cells #[.slice B1 n d1, .slice B2 rn d2, .slice B3 m d3, .slice B4 hn d4] 28)
      have hR2 := (hO2.below hbn4).reads
      have hR16 := (((hR1.below hb4).more hb4.size).below hbn4).more hbn4.size
      have hRs6 := (((hRs.below hb4).more hb4.size).below hbn4).more hbn4.size
      clear HCo hφ hOK2 hr2 hOb2 hXb2 hwf2 hK2 hp2 hth2 hXp hU2' hU2 hC hO2 hOK hx hO hOK1 hx1 hO1' hmem HF1 x0 x1 x2 x3 hb4 hbn4 hR1 hRs DX DS4 DS2 hR hPO e1 e2 e4
      obtain ⟨y0, y1', y2', y3'⟩ := DY.four
      go_wp2_with fail
      refine (HPin2.out _ hR2).mono ?_
      rintro e w5 ⟨hb5, E1, x1, e1, E2, x2, e2, E3, x3, e3, E4, x4, e4, tt, g, rfl, HUn1⟩
      have hbn5 := below_new w5 (.cells #[.slice E1 x1 e1, .slice E2 x2 e2, .slice E3 x3 e3, .slice E4 x4 e4] 28)
      have hb06 := (below_step hb05 hb5).alloc (below_step hb05 hb5).size (.cells #[.slice E1 x1 e1, .slice E2 x2 e2, .slice E3 x3 e3, .slice E4 x4 e4] 28)
      have DZ := Blk.new w5 28 #[.slice E1 x1 e1, .slice E2 x2 e2, .slice E3 x3 e3, .slice E4 x4 e4]
      have DY7 := (DY.below hb5 DY.lt).alloc (.cells #[.slice E1 x1 e1, .slice E2 x2 e2, .slice E3 x3 e3, .slice E4 x4 e4] 28)
      have DX7 := (DX6.below hb5 DX6.lt).alloc (.cells #[.slice E1 x1 e1, .slice E2 x2 e2, .slice E3 x3 e3, .slice E4 x4 e4] 28)
      have DS7 := (DS6.below hb5 DS6.lt).alloc (.cells #[.slice E1 x1 e1, .slice E2 x2 e2, .slice E3 x3 e3, .slice E4 x4 e4] 28)
      have hR27 := (((hR2.below hb5).more hb5.size).below hbn5).more hbn5.size
      have hR17 := (((hR16.below hb5).more hb5.size).below hbn5).more hbn5.size
      have hRs7 := (((hRs6.below hb5).more hb5.size).below hbn5).more hbn5.size
      clear y0 y1' y2' y3' HPin2 hR2 hR16 hRs6 DY DX6 DS6
      obtain ⟨s0, s1, s2, s3⟩ := DS7.four
      go_wp2_with fail
      refine (HGet.out _ hRs7).mono ?_
      rintro e w6 ⟨hb6, rfl⟩
      have hbA6 := below_step hb06 hb6
      have DS_6 := (DS7.below hb6 DS7.lt)
      have DX_6 := (DX7.below hb6 DX7.lt)
      have DY_6 := (DY7.below hb6 DY7.lt)
      have DZ_6 := (DZ.below hb6 DZ.lt)
      have hRs_6 := (hRs7.below hb6).more hb6.size
      have hR1_6 := (hR17.below hb6).more hb6.size
      have hR2_6 := (hR27.below hb6).more hb6.size
      clear s0 s1 s2 s3 DS7 DX7 DY7 DZ hRs7 hR17 hR27
      obtain ⟨s0, s1, s2, s3⟩ := DY_6.four
      go_wp2_with fail
      refine (HPeek.out _ hR2_6).mono ?_
      rintro e w7 ⟨hb7, rfl⟩
      have hbA7 := below_step hbA6 hb7
      have DS_7 := (DS_6.below hb7 DS_6.lt)
      have DX_7 := (DX_6.below hb7 DX_6.lt)
      have DY_7 := (DY_6.below hb7 DY_6.lt)
      have DZ_7 := (DZ_6.below hb7 DZ_6.lt)
      have hRs_7 := (hRs_6.below hb7).more hb7.size
      have hR1_7 := (hR1_6.below hb7).more hb7.size
      have hR2_7 := (hR2_6.below hb7).more hb7.size
      clear s0 s1 s2 s3 DS_6 DX_6 DY_6 DZ_6 hRs_6 hR1_6 hR2_6
      have HQ1 := Lib.hid (HUn1.out _ ((((below_new w5 (.cells #[.slice E1 x1 e1, .slice E2 x2 e2, .slice E3 x3 e3, .slice E4 x4 e4] 28)).trans (hb6.mono (by simp))).trans (hb7.mono (by have := hb6.size; simp at this; omega)))))
      obtain ⟨s0, s1, s2, s3⟩ := DZ_7.four
      go_wp2_with fail
      refine (HQ1.out).mono ?_
      rintro e w8 ⟨hb8, F1, y1, f1, F2, y2, f2, F3, y3, f3, F4, y4, f4, l, rfl, HUn2⟩
      have hbn8 := below_new w8 (.cells #[.slice F1 y1 f1, .slice F2 y2 f2, .slice F3 y3 f3, .slice F4 y4 f4] 28)
      have hbA8 := (below_step hbA7 hb8).alloc (below_step hbA7 hb8).size (.cells #[.slice F1 y1 f1, .slice F2 y2 f2, .slice F3 y3 f3, .slice F4 y4 f4] 28)
      have DS_8 := (DS_7.below hb8 DS_7.lt).alloc (.cells #[.slice F1 y1 f1, .slice F2 y2 f2, .slice F3 y3 f3, .slice F4 y4 f4] 28)
      have DX_8 := (DX_7.below hb8 DX_7.lt).alloc (.cells #[.slice F1 y1 f1, .slice F2 y2 f2, .slice F3 y3 f3, .slice F4 y4 f4] 28)
      have DY_8 := (DY_7.below hb8 DY_7.lt).alloc (.cells #[.slice F1 y1 f1, .slice F2 y2 f2, .slice F3 y3 f3, .slice F4 y4 f4] 28)
      have DZ_8 := (DZ_7.below hb8 DZ_7.lt).alloc (.cells #[.slice F1 y1 f1, .slice F2 y2 f2, .slice F3 y3 f3, .slice F4 y4 f4] 28)
      have hRs_8 := (((hRs_7.below hb8).more hb8.size).below hbn8).more hbn8.size
      have hR1_8 := (((hR1_7.below hb8).more hb8.size).below hbn8).more hbn8.size
      have hR2_8 := (((hR2_7.below hb8).more hb8.size).below hbn8).more hbn8.size
      have DU_8 := Blk.new w8 28 #[.slice F1 y1 f1, .slice F2 y2 f2, .slice F3 y3 f3, .slice F4 y4 f4]
      clear s0 s1 s2 s3 DS_7 DX_7 DY_7 DZ_7 hRs_7 hR1_7 hR2_7
      have HQ2 := Lib.hid (HUn2.out _ (below_new w8 (.cells #[.slice F1 y1 f1, .slice F2 y2 f2, .slice F3 y3 f3, .slice F4 y4 f4] 28)))
      obtain ⟨s0, s1, s2, s3⟩ := DU_8.four
      go_wp2_with fail
      refine (HQ2.out).mono ?_
      rintro e w9 ⟨hb9, G1, z1, g1, G2, z2, g2, G3, z3, g3, G4, z4, g4, M, rfl, HFin⟩
      have hbn9 := below_new w9 (.cells #[.slice G1 z1 g1, .slice G2 z2 g2, .slice G3 z3 g3, .slice G4 z4 g4] 28)
      have hbA9 := (below_step hbA8 hb9).alloc (below_step hbA8 hb9).size (.cells #[.slice G1 z1 g1, .slice G2 z2 g2, .slice G3 z3 g3, .slice G4 z4 g4] 28)
      have DS_9 := (DS_8.below hb9 DS_8.lt).alloc (.cells #[.slice G1 z1 g1, .slice G2 z2 g2, .slice G3 z3 g3, .slice G4 z4 g4] 28)
      have DX_9 := (DX_8.below hb9 DX_8.lt).alloc (.cells #[.slice G1 z1 g1, .slice G2 z2 g2, .slice G3 z3 g3, .slice G4 z4 g4] 28)
      have DY_9 := (DY_8.below hb9 DY_8.lt).alloc (.cells #[.slice G1 z1 g1, .slice G2 z2 g2, .slice G3 z3 g3, .slice G4 z4 g4] 28)
      have DZ_9 := (DZ_8.below hb9 DZ_8.lt).alloc (.cells #[.slice G1 z1 g1, .slice G2 z2 g2, .slice G3 z3 g3, .slice G4 z4 g4] 28)
      have DU_9 := (DU_8.below hb9 DU_8.lt).alloc (.cells #[.slice G1 z1 g1, .slice G2 z2 g2, .slice G3 z3 g3, .slice G4 z4 g4] 28)
      have hRs_9 := (((hRs_8.below hb9).more hb9.size).below hbn9).more hbn9.size
      have hR1_9 := (((hR1_8.below hb9).more hb9.size).below hbn9).more hbn9.size
      have hR2_9 := (((hR2_8.below hb9).more hb9.size).below hbn9).more hbn9.size
      have DV_9 := Blk.new w9 28 #[.slice G1 z1 g1, .slice G2 z2 g2, .slice G3 z3 g3, .slice G4 z4 g4]
      clear s0 s1 s2 s3 DS_8 DX_8 DY_8 DZ_8 DU_8 hRs_8 hR1_8 hR2_8
      obtain ⟨s0, s1, s2, s3⟩ := DX_9.four
      go_wp2_with fail
      refine (HUn3.out _ hR1_9).mono ?_
      rintro e w10 ⟨hb10, I1, h1, I2, h2, I3, h3, I4, h4, rfl, hRI⟩
      have hbn10 := below_new w10 (.cells #[.slice I1 n h1, .slice I2 rn h2, .slice I3 pn h3, .slice I4 hn h4] 28)
      have hbA10 := (below_step hbA9 hb10).alloc (below_step hbA9 hb10).size (.cells #[.slice I1 n h1, .slice I2 rn h2, .slice I3 pn h3, .slice I4 hn h4] 28)
      have DS_10 := (DS_9.below hb10 DS_9.lt).alloc (.cells #[.slice I1 n h1, .slice I2 rn h2, .slice I3 pn h3, .slice I4 hn h4] 28)
      have DX_10 := (DX_9.below hb10 DX_9.lt).alloc (.cells #[.slice I1 n h1, .slice I2 rn h2, .slice I3 pn h3, .slice I4 hn h4] 28)
      have DY_10 := (DY_9.below hb10 DY_9.lt).alloc (.cells #[.slice I1 n h1, .slice I2 rn h2, .slice I3 pn h3, .slice I4 hn h4] 28)
      have DZ_10 := (DZ_9.below hb10 DZ_9.lt).alloc (.cells #[.slice I1 n h1, .slice I2 rn h2, .slice I3 pn h3, .slice I4 hn h4] 28)
      have DU_10 := (DU_9.below hb10 DU_9.lt).alloc (.cells #[.slice I1 n h1, .slice I2 rn h2, .slice I3 pn h3, .slice I4 hn h4] 28)
      have DV_10 := (DV_9.below hb10 DV_9.lt).alloc (.cells #[.slice I1 n h1, .slice I2 rn h2, .slice I3 pn h3, .slice I4 hn h4] 28)
      have hRs_10 := (((hRs_9.below hb10).more hb10.size).below hbn10).more hbn10.size
      have hR1_10 := (((hR1_9.below hb10).more hb10.size).below hbn10).more hbn10.size
      have hR2_10 := (((hR2_9.below hb10).more hb10.size).below hbn10).more hbn10.size
      have DW_10 := Blk.new w10 28 #[.slice I1 n h1, .slice I2 rn h2, .slice I3 pn h3, .slice I4 hn h4]
      clear s0 s1 s2 s3 DS_9 DX_9 DY_9 DZ_9 DU_9 DV_9 hRs_9 hR1_9 hR2_9
      have hRI10 := (hRI.below hbn10).more hbn10.size
      obtain ⟨sz1, sz2, sz3, sz4⟩ := HSZ.out
      have hW := below_new w10 (.cells #[.slice I1 n h1, .slice I2 rn h2, .slice I3 pn h3, .slice I4 hn h4] 28)
      obtain ⟨W0, hW0⟩ : ∃ W0, W0 = w10.alloc (.cells #[.slice I1 n h1, .slice I2 rn h2, .slice I3 pn h3, .slice I4 hn h4] 28) := ⟨_, rfl⟩
      have HW0 := Lib.hid hW0
      rw [← hW0] at hRI10 DS_10 DY_10 DV_10 DW_10 hRs_10 hR2_10 hbA10 hbn10
      clear hW0 hW HQ1 HQ2 HUn3 HKK HF hRI DX_10 DZ_10 DU_10
      rcases HFin.out with ⟨rfl, rfl, rfl, rfl, q1, q2, q3, q4, hRG⟩ | ⟨rfl, hl⟩
      · have hRGx := ((((hRG.below hbn9).more hbn9.size).below hb10).more hb10.size).below (below_new w10 (.cells #[.slice I1 n h1, .slice I2 rn h2, .slice I3 pn h3, .slice I4 hn h4] 28))
        rw [← HW0.out] at hRGx
        have hRG0 := hRGx.more (B' := W0.heap.size) (by rw [HW0.out]; simp)
        have q1 := q1.symm
        have q2 := q2.symm
        have q3 := q3.symm
        have q4 := q4.symm
        subst q1 q2 q3 q4
        have HSm1 := Lib.hid (fun w hR hR' => sameStore_true G1 n g1 G2 rn g2 G3 pn g3 G4 hn g4 B1 d1 B2 d2 PA pc B4 d4 ⟨T2.a, T2.r, S.p, T2.l⟩ w hR hR' (by omega) (by omega) (by omega) (by omega))
        have HSm2 := Lib.hid (fun w hR hR' => sameStore_true I1 n h1 I2 rn h2 I3 pn h3 I4 hn h4 A c RA rc PA pc HA hc S w hR hR' (by omega) (by omega) (by omega) (by omega))
        have HWp := Lib.hid (fun w => withPins_any B1 n d1 B2 rn d2 B3 m d3 B4 hn d4 PA pn pc w)
        have hx0 := reads_new W0 [.int .i64 0, .int .i64 0, .int .i64 0, .int .i64 0] 32 4 1 rfl
        have hx0d : Reads (W0.alloc (.cells #[.int .i64 0, .int .i64 0, .int .i64 0, .int .i64 0] 32)).drew (W0.heap.size + 1) 1 (some ⟨W0.heap.size, 0, none⟩) 4 (([0, 0, 0, 0] : List Int).map (.int .i64)) := hx0
        have HG := Lib.hid (good_of (some ⟨W0.heap.size, 0, none⟩) 4 4 (W0.heap.size + 1) [0, 0, 0, 0] true _ (by decide) hx0d (by decide))
        have hRT : StR W0 W0.heap.size B1 n B2 rn PA pn B4 hn ⟨T2.a, T2.r, S.p, T2.l⟩ := ⟨hR2_10.a, hR2_10.r, hRs_10.p, hR2_10.l⟩
        clear HFin hRGx hRG
        go_upto_region 13 with fail
        rw [← HW0.out]
        go_cut [111] from 26 to 130 (fun s111 wc => s111 = .bool false ∧ Below W0.heap.size W0 wc)
        case first =>
          have hb := (Below.refl W0.heap.size W0).drew
          have DS := DS_10.drew
          have DY := DY_10.drew
          have DV := DV_10.drew
          have DW := DW_10.drew
          obtain ⟨s0, s1, s2, s3⟩ := DS.four
          obtain ⟨y0, y1, y2, y3⟩ := DY.four
          obtain ⟨v0, v1, v2, v3⟩ := DV.four
          obtain ⟨w0, w1', w2', w3'⟩ := DW.four
          obtain ⟨sa0, sa1, sa2, sa3⟩ := (DS_10.alloc (.cells #[.int .i64 0, .int .i64 0, .int .i64 0, .int .i64 0] 32)).drew.four
          obtain ⟨ya0, ya1, ya2, ya3⟩ := (DY_10.alloc (.cells #[.int .i64 0, .int .i64 0, .int .i64 0, .int .i64 0] 32)).drew.four
          obtain ⟨va0, va1, va2, va3⟩ := (DV_10.alloc (.cells #[.int .i64 0, .int .i64 0, .int .i64 0, .int .i64 0] 32)).drew.four
          obtain ⟨wa0, wa1, wa2, wa3⟩ := (DW_10.alloc (.cells #[.int .i64 0, .int .i64 0, .int .i64 0, .int .i64 0] 32)).drew.four
          go_region_held3 (fun w' => (w'.cell? ⟨w.heap.size, 0, none⟩ = some (.slice A n c) ∧ w'.cell? ⟨w.heap.size, 1, none⟩ = some (.slice RA rn rc) ∧ w'.cell? ⟨w.heap.size, 2, none⟩ = some (.slice PA pn pc) ∧ w'.cell? ⟨w.heap.size, 3, none⟩ = some (.slice HA hn hc)) ∧ (w'.cell? ⟨w4.heap.size, 0, none⟩ = some (.slice B1 n d1) ∧ w'.cell? ⟨w4.heap.size, 1, none⟩ = some (.slice B2 rn d2) ∧ w'.cell? ⟨w4.heap.size, 2, none⟩ = some (.slice B3 m d3) ∧ w'.cell? ⟨w4.heap.size, 3, none⟩ = some (.slice B4 hn d4)) ∧ (w'.cell? ⟨w9.heap.size, 0, none⟩ = some (.slice G1 n g1) ∧ w'.cell? ⟨w9.heap.size, 1, none⟩ = some (.slice G2 rn g2) ∧ w'.cell? ⟨w9.heap.size, 2, none⟩ = some (.slice G3 pn g3) ∧ w'.cell? ⟨w9.heap.size, 3, none⟩ = some (.slice G4 hn g4)) ∧ w'.cell? ⟨w10.heap.size, 0, none⟩ = some (.slice I1 n h1) ∧ w'.cell? ⟨w10.heap.size, 1, none⟩ = some (.slice I2 rn h2) ∧ w'.cell? ⟨w10.heap.size, 2, none⟩ = some (.slice I3 pn h3) ∧ w'.cell? ⟨w10.heap.size, 3, none⟩ = some (.slice I4 hn h4)) (first | exact ⟨⟨sa0, sa1, sa2, sa3⟩, ⟨ya0, ya1, ya2, ya3⟩, ⟨va0, va1, va2, va3⟩, wa0, wa1, wa2, wa3⟩ | exact ⟨⟨s0, s1, s2, s3⟩, ⟨y0, y1, y2, y3⟩, ⟨v0, v1, v2, v3⟩, w0, w1', w2', w3'⟩ | go_keep)
            (first
              | (go_at_call 16; (with_reducible refine HG.out.mono ?_); rintro e wG ⟨rfl, rfl⟩; have hb := hb.alloc hb.size (.cells #[.int .i64 0, .int .i64 0, .int .i64 0, .int .i64 0] 32); have DS := DS.alloc (.cells #[.int .i64 0, .int .i64 0, .int .i64 0, .int .i64 0] 32); have DY := DY.alloc (.cells #[.int .i64 0, .int .i64 0, .int .i64 0, .int .i64 0] 32); have DV := DV.alloc (.cells #[.int .i64 0, .int .i64 0, .int .i64 0, .int .i64 0] 32); have DW := DW.alloc (.cells #[.int .i64 0, .int .i64 0, .int .i64 0, .int .i64 0] 32); obtain ⟨s0, s1, s2, s3⟩ := DS.four; obtain ⟨y0, y1, y2, y3⟩ := DY.four; obtain ⟨v0, v1, v2, v3⟩ := DV.four; obtain ⟨w0, w1', w2', w3'⟩ := DW.four)
              | (go_at_call 18; (with_reducible refine (HWp.out _).mono ?_); rintro e wP ⟨hbP, rfl⟩; have DS := DS.below hbP DS.lt; have DY := DY.below hbP DY.lt; have DV := DV.below hbP DV.lt; have DW := DW.below hbP DW.lt; have hb := hb.trans (hbP.mono hb.size); obtain ⟨s0, s1, s2, s3⟩ := DS.four; obtain ⟨y0, y1, y2, y3⟩ := DY.four; obtain ⟨v0, v1, v2, v3⟩ := DV.four; obtain ⟨w0, w1', w2', w3'⟩ := DW.four)
              | (go_at_call 17; (with_reducible refine (HSm1.out _ ((hRG0.below hb).more hb.size) ((hRT.below hb).more hb.size)).mono ?_); rintro e wP ⟨rfl, hbP⟩; have DS := DS.below hbP DS.lt; have DY := DY.below hbP DY.lt; have DV := DV.below hbP DV.lt; have DW := DW.below hbP DW.lt; have hb := hb.trans (hbP.mono hb.size); obtain ⟨s0, s1, s2, s3⟩ := DS.four; obtain ⟨y0, y1, y2, y3⟩ := DY.four; obtain ⟨v0, v1, v2, v3⟩ := DV.four; obtain ⟨w0, w1', w2', w3'⟩ := DW.four)
              | (go_at_call 17; (with_reducible refine (HSm2.out _ ((hRI10.below hb).more hb.size) ((hRs_10.below hb).more hb.size)).mono ?_); rintro e wP ⟨rfl, hbP⟩; have DS := DS.below hbP DS.lt; have DY := DY.below hbP DY.lt; have DV := DV.below hbP DV.lt; have DW := DW.below hbP DW.lt; have hb := hb.trans (hbP.mono hb.size); obtain ⟨s0, s1, s2, s3⟩ := DS.four; obtain ⟨y0, y1, y2, y3⟩ := DY.four; obtain ⟨v0, v1, v2, v3⟩ := DV.four; obtain ⟨w0, w1', w2', w3'⟩ := DW.four))
          all_goals
            go_wp2_with fail
            go_meet
            exact ⟨rfl, hb⟩
        case rest =>
          obtain ⟨rfl, hbc⟩ := hcut
          have hbz := below_step hbA10 hbc
          go_wp2_with fail
          go_ret
          exact ⟨by first | rfl | simp, hbz⟩
      · have hx0 := reads_new W0 [.int .i64 0, .int .i64 l, .int .i64 M, .int .i64 0] 32 4 1 rfl
        have hx0d : Reads (W0.alloc (.cells #[.int .i64 0, .int .i64 l, .int .i64 M, .int .i64 0] 32)).drew (W0.heap.size + 1) 1 (some ⟨W0.heap.size, 0, none⟩) 4 (([0, l, M, 0] : List Int).map (.int .i64)) := hx0
        have HG := Lib.hid (good_of (some ⟨W0.heap.size, 0, none⟩) 4 4 (W0.heap.size + 1) [0, l, M, 0] false _ (by simp [hl]) hx0d (by decide))
        clear HFin hl
        go_upto_region 13 with fail
        rw [← HW0.out]
        go_cut [111] from 26 to 130 (fun s111 wc => s111 = .bool true ∧ Below W0.heap.size W0 wc)
        case first =>
          have hbb := (Below.refl W0.heap.size W0).alloc (Nat.le_refl _) (.cells #[.int .i64 0, .int .i64 l, .int .i64 M, .int .i64 0] 32)
          refine wp_region_held_drew (S := fun _ => True) (by kernel_rfl) trivial (fun hHeld => ?_)
          refine wpAnyH_take (i := 0) (v := .int .i64 0) (List.getElem?_toArray.trans rfl) (by kernel_rfl) (by kernel_rfl) (by kernel_rfl) (fun _ _ _ h => h) (Or.inl ⟨by rfl, fun w _ => by go_simp⟩) hHeld ?_
          try simp only [Act.put, List.setIfInBounds_toArray, List.set_cons_zero, List.set_cons_succ]
          refine wpAnyH_take (i := 1) (v := .int .i64 l) (List.getElem?_toArray.trans rfl) (by kernel_rfl) (by kernel_rfl) (by kernel_rfl) (fun _ _ _ h => h) (Or.inl ⟨by rfl, fun w _ => by go_simp⟩) hHeld ?_
          try simp only [Act.put, List.setIfInBounds_toArray, List.set_cons_zero, List.set_cons_succ]
          refine wpAnyH_take (i := 2) (v := .int .i64 M) (List.getElem?_toArray.trans rfl) (by kernel_rfl) (by kernel_rfl) (by kernel_rfl) (fun _ _ _ h => h) (Or.inl ⟨by rfl, fun w _ => by go_simp⟩) hHeld ?_
          try simp only [Act.put, List.setIfInBounds_toArray, List.set_cons_zero, List.set_cons_succ]
          refine wpAnyH_take (i := 3) (v := .int .i64 0) (List.getElem?_toArray.trans rfl) (by kernel_rfl) (by kernel_rfl) (by kernel_rfl) (fun _ _ _ h => h) (Or.inl ⟨by rfl, fun w _ => by go_simp⟩) hHeld ?_
          try simp only [Act.put, List.setIfInBounds_toArray, List.set_cons_zero, List.set_cons_succ]
          refine wpAnyH_ready (rs := [4]) (by kernel_rfl) (by simp) (AllReadyH.cons (List.getElem?_toArray.trans rfl) (fun K hK => ?_) AllReadyH.nil)
          go_simp
          refine hK.out _ _ trivial (fun hHeld => ?_)
          clear hK K
          try simp only [Act.put, List.setIfInBounds_toArray, List.set_cons_zero, List.set_cons_succ]
          refine wpAnyH_ready (rs := [5]) (by kernel_rfl) (by simp) (AllReadyH.cons (List.getElem?_toArray.trans rfl) (fun K hK => ?_) AllReadyH.nil)
          go_simp
          go_at_call 16
          refine HG.out.mono ?_
          rintro e wG ⟨rfl, rfl⟩
          refine hK.out _ _ trivial (fun hHeld => ?_)
          clear hK K
          try simp only [Act.put, List.setIfInBounds_toArray, List.set_cons_zero, List.set_cons_succ]
          refine wpAnyH_take (i := 6) (v := .bool true) (List.getElem?_toArray.trans rfl) (by kernel_rfl) (by kernel_rfl) (by kernel_rfl) (fun _ _ _ h => h) (Or.inl ⟨by rfl, fun w _ => by go_simp⟩) hHeld ?_
          try simp only [Act.put, List.setIfInBounds_toArray, List.set_cons_zero, List.set_cons_succ]
          refine wpAnyH_take (i := 7) (v := .bool true) (List.getElem?_toArray.trans rfl) (by kernel_rfl) (by kernel_rfl) (by kernel_rfl) (fun _ _ _ h => h) (Or.inl ⟨by rfl, fun w _ => by go_simp⟩) hHeld ?_
          try simp only [Act.put, List.setIfInBounds_toArray, List.set_cons_zero, List.set_cons_succ]
          refine wpAnyH_take (i := 8) (v := undef) (List.getElem?_toArray.trans rfl) (by kernel_rfl) (by kernel_rfl) (by kernel_rfl) (fun _ _ _ h => h) (Or.inr ⟨by rfl, rfl⟩) hHeld ?_
          try simp only [Act.put, List.setIfInBounds_toArray, List.set_cons_zero, List.set_cons_succ]
          refine wpAnyH_take (i := 9) (v := undef) (List.getElem?_toArray.trans rfl) (by kernel_rfl) (by kernel_rfl) (by kernel_rfl) (fun _ _ _ h => h) (Or.inr ⟨by rfl, rfl⟩) hHeld ?_
          try simp only [Act.put, List.setIfInBounds_toArray, List.set_cons_zero, List.set_cons_succ]
          refine wpAnyH_take (i := 10) (v := undef) (List.getElem?_toArray.trans rfl) (by kernel_rfl) (by kernel_rfl) (by kernel_rfl) (fun _ _ _ h => h) (Or.inr ⟨by rfl, rfl⟩) hHeld ?_
          try simp only [Act.put, List.setIfInBounds_toArray, List.set_cons_zero, List.set_cons_succ]
          refine wpAnyH_take (i := 11) (v := undef) (List.getElem?_toArray.trans rfl) (by kernel_rfl) (by kernel_rfl) (by kernel_rfl) (fun _ _ _ h => h) (Or.inr ⟨by rfl, rfl⟩) hHeld ?_
          try simp only [Act.put, List.setIfInBounds_toArray, List.set_cons_zero, List.set_cons_succ]
          refine wpAnyH_take (i := 12) (v := undef) (List.getElem?_toArray.trans rfl) (by kernel_rfl) (by kernel_rfl) (by kernel_rfl) (fun _ _ _ h => h) (Or.inr ⟨by rfl, rfl⟩) hHeld ?_
          try simp only [Act.put, List.setIfInBounds_toArray, List.set_cons_zero, List.set_cons_succ]
          refine wpAnyH_take (i := 13) (v := undef) (List.getElem?_toArray.trans rfl) (by kernel_rfl) (by kernel_rfl) (by kernel_rfl) (fun _ _ _ h => h) (Or.inr ⟨by rfl, rfl⟩) hHeld ?_
          try simp only [Act.put, List.setIfInBounds_toArray, List.set_cons_zero, List.set_cons_succ]
          refine wpAnyH_take (i := 14) (v := undef) (List.getElem?_toArray.trans rfl) (by kernel_rfl) (by kernel_rfl) (by kernel_rfl) (fun _ _ _ h => h) (Or.inr ⟨by rfl, rfl⟩) hHeld ?_
          try simp only [Act.put, List.setIfInBounds_toArray, List.set_cons_zero, List.set_cons_succ]
          refine wpAnyH_take (i := 15) (v := .bool true) (List.getElem?_toArray.trans rfl) (by kernel_rfl) (by kernel_rfl) (by kernel_rfl) (fun _ _ _ h => h) (Or.inl ⟨by rfl, fun w _ => by go_simp⟩) hHeld ?_
          try simp only [Act.put, List.setIfInBounds_toArray, List.set_cons_zero, List.set_cons_succ]
          refine wpAnyH_take (i := 16) (v := .bool true) (List.getElem?_toArray.trans rfl) (by kernel_rfl) (by kernel_rfl) (by kernel_rfl) (fun _ _ _ h => h) (Or.inl ⟨by rfl, fun w _ => by go_simp⟩) hHeld ?_
          try simp only [Act.put, List.setIfInBounds_toArray, List.set_cons_zero, List.set_cons_succ]
          refine wpAnyH_take (i := 17) (v := undef) (List.getElem?_toArray.trans rfl) (by kernel_rfl) (by kernel_rfl) (by kernel_rfl) (fun _ _ _ h => h) (Or.inr ⟨by rfl, rfl⟩) hHeld ?_
          try simp only [Act.put, List.setIfInBounds_toArray, List.set_cons_zero, List.set_cons_succ]
          refine wpAnyH_take (i := 18) (v := undef) (List.getElem?_toArray.trans rfl) (by kernel_rfl) (by kernel_rfl) (by kernel_rfl) (fun _ _ _ h => h) (Or.inr ⟨by rfl, rfl⟩) hHeld ?_
          try simp only [Act.put, List.setIfInBounds_toArray, List.set_cons_zero, List.set_cons_succ]
          refine wpAnyH_take (i := 19) (v := undef) (List.getElem?_toArray.trans rfl) (by kernel_rfl) (by kernel_rfl) (by kernel_rfl) (fun _ _ _ h => h) (Or.inr ⟨by rfl, rfl⟩) hHeld ?_
          try simp only [Act.put, List.setIfInBounds_toArray, List.set_cons_zero, List.set_cons_succ]
          refine wpAnyH_take (i := 20) (v := undef) (List.getElem?_toArray.trans rfl) (by kernel_rfl) (by kernel_rfl) (by kernel_rfl) (fun _ _ _ h => h) (Or.inr ⟨by rfl, rfl⟩) hHeld ?_
          try simp only [Act.put, List.setIfInBounds_toArray, List.set_cons_zero, List.set_cons_succ]
          refine wpAnyH_take (i := 21) (v := .bool true) (List.getElem?_toArray.trans rfl) (by kernel_rfl) (by kernel_rfl) (by kernel_rfl) (fun _ _ _ h => h) (Or.inl ⟨by rfl, fun w _ => by go_simp⟩) hHeld ?_
          try simp only [Act.put, List.setIfInBounds_toArray, List.set_cons_zero, List.set_cons_succ]
          refine wpAnyH_done (by kernel_rfl) ?_ _
          go_wp2_with fail
          go_meet
          exact ⟨rfl, by first | exact hbb | exact hbb.drew⟩
        case rest =>
          obtain ⟨rfl, hbc⟩ := hcut
          have hbz := below_step hbA10 hbc
          go_wp2_with fail
          go_ret
          exact ⟨by first | rfl | simp, hbz⟩
    · -- no more pins
      have g1 : (addE S.p X != 0) = true := by simpa using hne
      have hb03 := (below_step hb02 hb3).alloc (below_step hb02 hb3).size (.cells #[.slice none 0 0, .slice none 0 0, .slice none 0 0, .slice none 0 0] 28)
      have DX := Blk.new w2 28 #[.slice none 0 0, .slice none 0 0, .slice none 0 0, .slice none 0 0]
      generalize addE S.p X = F at *
      clear s0 s1 s2 s3 hne
      obtain ⟨x0, x1, x2, x3⟩ := DX.four
      go_wp2_with fail
      go_ret
      exact ⟨by first | rfl | simp, hb03⟩
  · have HOp := Lib.hid (fun w hR => pinFn_bad A n c RA rn rc PA pn pc HA hn hc S i1 w hR hK hobj)
    have g1 : (objE S i1 != 0) = true := by simpa using hobj
    generalize objE S i1 = F at *
    go_enter Tryz.func4, Tryz.ntmps4
    go_wp2_with fail
    refine (HH.out _).mono ?_
    rintro e w1 ⟨rfl, hb2⟩
    have hb02 := below_step hb1 hb2
    have DS2 := DS.below hb2 DS.lt
    obtain ⟨s0, s1, s2, s3⟩ := DS2.four
    clear HH
    go_wp2_with fail
    refine (HOp.out _ ((hR.below hb02).more hb02.size)).mono ?_
    rintro e w2 ⟨hb3, rfl⟩
    have hb03 := (below_step hb02 hb3).alloc (below_step hb02 hb3).size (.cells #[.slice none 0 0, .slice none 0 0, .slice none 0 0, .slice none 0 0] 28)
    have DX := Blk.new w2 28 #[.slice none 0 0, .slice none 0 0, .slice none 0 0, .slice none 0 0]
    clear s0 s1 s2 s3
    obtain ⟨x0, x1, x2, x3⟩ := DX.four
    go_wp2_with fail
    go_ret
    exact ⟨by first | rfl | simp, hb03⟩

namespace StorePins
open Go.ChangeShapes Go.WideShapes Go.ChangeAt Go.RowKit
theorem own : ownKnob Tryz.prog.godebug = none := by kernel_rfl
theorem laidOut : laidOutB Tryz.prog = true := by kernel_rfl

set_option maxRecDepth 100000 in
theorem lifted (os : Os) (started : os.Started) (H : Type) (enc : TypeId × Value → H) :
    ReturnsInHanded {} Tryz.checked os 4 .any (Rows.storePinsSpec.pre6 enc Tryz.prog Tryz.f4 Rows.storePinsRow.domain false) (Rows.storePinsSpec.post enc Tryz.prog Tryz.f4 false true false false) := by
  refine returnsInHanded_of_change (C := Tryz.checked) own started (by as_aux_lemma => kernel_rfl) Tryz.func4
    (ChangeSpec.witness6 (enc := enc) (C := Tryz.checked) false ⟨#[], #[.agg #[.slice none 0 0, .slice none 0 0, .slice none 0 0, .slice none 0 0], .int .i64 0, .int .i64 0], []⟩ 8 (by as_aux_lemma => kernel_rfl) (by as_aux_lemma => kernel_rfl) (by as_aux_lemma => kernel_rfl) (by as_aux_lemma => kernel_rfl)) ?_
  intro W base args ds gs before hval0 hW hcnd _
  have hval : ∀ (j : Nat) t v, Tryz.f4.params[j]? = some t → args[j]? = some v → Value.okWide Tryz.prog W .any base t v := hval0
  have hW' := hW
  obtain ⟨p, q, hA0, hV, rfl, hfz, hnd⟩ := hW
  have hA : DataW.TrodAll enc Tryz.prog W 0 (fun _ => true) true Tryz.f4.params.toList args.toList ds p := hA0
  rw [Tryz.params4] at hA hval
  obtain ⟨v0, vs0, d0, ds0, p0, q0, hargs, rfl, rfl, h0, hA⟩ := trodAll_cons hA
  obtain ⟨v1, vs1, d1, ds1, p1, q1, rfl, rfl, rfl, h1, hA⟩ := trodAll_cons hA
  obtain ⟨v2, vs2, d2, ds2, p2, q2, rfl, rfl, rfl, h2, hA⟩ := trodAll_cons hA
  obtain ⟨rfl, rfl, rfl⟩ := trodAll_nil hA
  obtain rfl : args = #[v0, v1, v2] := by cases args; simp_all
  obtain ⟨A0, n0, c0, RA0, rn0, rc0, PA0, pn0, pc0, HA0, hn0, hc0, S0, rfl, hR0, hK0⟩ := open_store (hval 0 _ v0 rfl rfl) (fun x hx => hW'.lt x (by simp [hx])) h0
  obtain ⟨i1, rfl, rfl, rfl, w1⟩ := open_int Tryz.underlying3 (hval 1 _ v1 rfl rfl) h1
  obtain ⟨i2, rfl, rfl, rfl, w2⟩ := open_int Tryz.underlying3 (hval 2 _ v2 rfl rfl) h2
  refine (storePins_any A0 n0 c0 RA0 rn0 rc0 PA0 pn0 pc0 HA0 hn0 hc0 S0 i1 i2 W hR0 hK0 w1 w2).mono fun e W' ⟨he, hb⟩ => ?_
  subst he
  exact ⟨_, rfl, law_post laidOut Tryz.underlying4 rfl (by as_aux_lemma => kernel_rfl) rfl rfl hW' hb⟩

set_option maxHeartbeats 10000000 in
theorem closed : joinedFacts Tryz.prog 4 Tryz.f4 Rows.storePinsSpec Rows.storePinsRow = true := by
  unfold joinedFacts
  simp only [Bool.and_eq_true]
  repeat' apply And.intro
  all_goals as_aux_lemma => kernel_rfl

set_option maxHeartbeats 1000000 in
theorem proved : Rows.StorePinsSaid :=
  OpenClaim.holds_of_wide 4 Tryz.f4 rfl rfl rfl rfl rfl rfl rfl ⟨rfl, rfl, rfl, rfl, rfl⟩ rfl rfl rfl rfl rfl (by as_aux_lemma => kernel_rfl) Tryz.func4 closed
    (of_decide_eq_true (by as_aux_lemma => kernel_rfl)) (by unfold Func.isWrapper; first | (rw [if_pos (by decide +kernel)]; kernel_rfl) | (rw [if_neg (by decide +kernel)]; exact ⟨rfl, rfl⟩))
    (fun os started H enc _ => lifted os started H enc)
end StorePins
end Go.Proofs.YtjdpcmmmdaffdaaGreat
