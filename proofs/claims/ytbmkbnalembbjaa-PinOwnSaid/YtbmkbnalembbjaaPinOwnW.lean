/-
  PinOwn: pins and hands that are handed in stay as they were, and what is told shares nothing with them: the walk.
-/
import Derived.Test.YtbmkbnalembbjaaPinOwnT
import Derived.Test.YtbmkbnalembbjaaPinOwnC
import Derived.Test.YtbmkbnalembbjaaTwoClones
import Derived.Test.YtbmkbnalembbjaaCloneB
import Derived.Test.YtbmkbnalembbjaaPinTurns
import Derived.Deep.CutRange
namespace Go.Proofs.Ytbmkbnalembbjaa
open Go.RowKit

theorem k_isI {v : Value} (h : isI 1 v) : ∃ x, v = .int .i64 x := h
set_option maxRecDepth 100000 in
set_option maxHeartbeats 4000000 in
theorem pinOwn_walk (A : Option Addr) (n c : Nat) (ps : List Rn) (H : Option Addr) (hn hc : Nat) (sl : List Slot) (x nm : Int) (w : World) (hr : Reads w w.heap.size 2 A n (runsC ps)) (hh : Reads w w.heap.size 3 H hn (slotsC sl))
    (h1 : n * 16 ≤ 140737488355328) (h2 : hn * 24 ≤ 140737488355328) (v0 : 0 ≤ nm) (v1 : nm < 18446744073709551616) :
    Calls Try.prog 4 #[.slice A n c, .slice H hn hc, .int .i64 x, .int .u64 nm] w fun e w' => e = .returned (.bool true) ∧ Below w.heap.size w w' := by
  have hb0 := (below_new w (.cells #[.slice A n c] 25)).alloc (by simp) (.cells #[.slice H hn hc] 27)
  have DP := (Blk.new w 25 #[.slice A n c]).alloc (.cells #[.slice H hn hc] 27)
  have DH := Blk.new (w.alloc (.cells #[.slice A n c] 25)) 27 #[.slice H hn hc]
  simp only [World.size_alloc] at DH
  have C1 := Lib.hid (fun W (h : Below w.heap.size w W) => clone_pinB A n c _ (runsC ps) W (hr.below h) h.size (runsC_one ps) h1)
  have C2 := Lib.hid (fun W (h : Below w.heap.size w W) => clone_slotsB H hn hc _ (slotsC sl) W (hh.below h) h.size (slotsC_one sl) h2)
  have HAd := Lib.hid (fun W (h : Below w.heap.size w W) => add_full A n c ps x W ((hr.below h).more h.size) (by omega))
  have HDr := Lib.hid (fun W (h : Below w.heap.size w W) => drop_full A n c ps x W ((hr.below h).more h.size) (by omega))
  have HOp := Lib.hid (fun W (h : Below w.heap.size w W) => open_full H hn hc sl x W ((hh.below h).more h.size))
  have HCl := Lib.hid (fun W (h : Below w.heap.size w W) => close_full H hn hc sl nm W ((hh.below h).more h.size) v0 v1)
  go_enter Try.func4, Try.ntmps4
  go_wp2_with fail
  refine (pins_true _).mono ?_
  rintro e w1 ⟨rfl, hb1⟩
  have hb01 := below_step hb0 hb1
  have DP1 := DP.below hb1 DP.lt
  have DH1 := DH.below hb1 (by simp)
  clear hb0 hb1 DP DH
  go_upto_region 3 with fail
  go_cut [9, 10] from 32 to 35 (fun s9 s10 wc => Below w1.heap.size w1 wc ∧ ∃ p1 p2 A1 d1 A2 d2, s9 = .pointer (some ⟨p1, 0, none⟩) ∧ s10 = .pointer (some ⟨p2, 0, none⟩) ∧ w1.heap.size ≤ p1 ∧ w1.heap.size ≤ p2 ∧ Blk wc p1 25 #[.slice A1 n d1] ∧ Blk wc p2 27 #[.slice A2 hn d2] ∧ wc.ownsRow w1.heap.size 47 2 (.slice A1 n d1) n (runsC ps) ∧ wc.ownsRow w1.heap.size 50 3 (.slice A2 hn d2) hn (slotsC sl))
  case first =>
    refine wp_region_any rfl ?_
    refine wpAny_inv3 (I := (fun s0 l s W => ∃ v32 v33 v34 v35 v9 v10 : Value, s = ((((((s0.put (some 32) v32).put (some 33) v33).put (some 34) v34).put (some 35) v35).put (some 9) v9).put (some 10) v10) ∧ R2 w1 A n c H hn hc (runsC ps) (slotsC sl) l v32 v33 v34 v35 v9 v10 W)) _ _ ?hend ?hstep ?start
    case start => exact ⟨_, _, _, _, _, _, puts6 _ 32 33 34 35 9 10, R2.start (Below.refl _ w1).drew⟩
    case hend =>
      intro l s W hI hsz hrd
      obtain ⟨v32, v33, v34, v35, v9, v10, rfl, hT⟩ := hI
      have had := all_done hsz hrd (by rfl)
      obtain ⟨A1, d1, rfl, o1⟩ := hT.d1 (had 1 (by decide))
      obtain ⟨A2, d2, rfl, o2⟩ := hT.d3 (had 3 (by decide))
      obtain ⟨u1, ⟨p1, rfl, l1, B1⟩, k1⟩ := hT.d4 (had 4 (by decide))
      obtain ⟨u2, ⟨p2, rfl, l2, B2⟩, k2⟩ := hT.d5 (had 5 (by decide))
      obtain rfl := k1 (had 6 (by decide))
      obtain rfl := k2 (had 7 (by decide))
      have hbT := hT.bw
      clear hT had hsz hrd
      go_simp
      go_wp2_with fail
      go_meet
      exact ⟨hbT, p1, p2, A1, d1, A2, d2, rfl, rfl, l1, l2, B1, B2, o1, o2⟩
    case hstep =>
      intro l s W i o hI hcl hil hu ho haf
      obtain ⟨v32, v33, v34, v35, v9, v10, rfl, hT⟩ := hI
      have hi8 : i < 8 := by rw [← hT.sz]; exact hil
      have hbW := below_step hb01 hT.bw
      have DPW := DP1.below hT.bw DP1.lt
      have DHW := DH1.below hT.bw DH1.lt
      have s0 := DPW.cell 0
      have s1 := DHW.cell 0
      simp only [List.getElem?_toArray, List.getElem?_cons_zero] at s0 s1
      have hi : i = 0 ∨ i = 1 ∨ i = 2 ∨ i = 3 ∨ i = 4 ∨ i = 5 ∨ i = 6 ∨ i = 7 := by omega
      rcases hi with rfl | rfl | rfl | rfl | rfl | rfl | rfl | rfl
      · have hop := ho
        clear haf hop ho hcl
        refine wpOp_list rfl ?_
        go_wp2_with fail
        refine onto_normal ⟨.slice A n c, v33, v34, v35, v9, v10, by go_simp, hT.s0 hu (Below.refl _ _) rfl⟩
      · have hop := ho
        obtain rfl := hT.d0 (pre_dn ho haf 0 rfl)
        clear haf hop ho hcl
        refine wpOp_list rfl ?_
        go_wp2_with (go_at_call 14; (with_reducible refine (C1.out _ hbW).mono ?_); rintro e W2 ⟨A1, d1, rfl, ho1, hb2⟩)
        refine onto_normal ⟨_, .slice A1 n d1, v34, v35, v9, v10, by go_simp, hT.s1 hu hb2 ⟨A1, d1, rfl, own_mono ho1 hT.bw.size⟩⟩
      · have hop := ho
        clear haf hop ho hcl
        refine wpOp_list rfl ?_
        go_wp2_with fail
        refine onto_normal ⟨v32, v33, .slice H hn hc, v35, v9, v10, by go_simp, hT.s2 hu (Below.refl _ _) rfl⟩
      · have hop := ho
        obtain rfl := hT.d2 (pre_dn ho haf 2 rfl)
        clear haf hop ho hcl
        refine wpOp_list rfl ?_
        go_wp2_with (go_at_call 15; (with_reducible refine (C2.out _ hbW).mono ?_); rintro e W2 ⟨A1, d1, rfl, ho1, hb2⟩)
        refine onto_normal ⟨v32, v33, _, .slice A1 hn d1, v9, v10, by go_simp, hT.s3 hu hb2 ⟨A1, d1, rfl, own_mono ho1 hT.bw.size⟩⟩
      · have hop := ho
        clear haf hop ho hcl
        refine wpOp_list rfl ?_
        go_wp2_with fail
        refine onto_normal ⟨v32, v33, v34, v35, .pointer (some ⟨W.heap.size, 0, none⟩), v10, by go_simp, hT.s4 hu (below_new W _) ⟨.slice none 0 0, W.heap.size, rfl, hT.bw.size, Blk.new W 25 _⟩⟩
      · have hop := ho
        clear haf hop ho hcl
        refine wpOp_list rfl ?_
        go_wp2_with fail
        refine onto_normal ⟨v32, v33, v34, v35, v9, .pointer (some ⟨W.heap.size, 0, none⟩), by go_simp, hT.s5 hu (below_new W _) ⟨.slice none 0 0, W.heap.size, rfl, hT.bw.size, Blk.new W 27 _⟩⟩
      · have hop := ho
        have h4' : Dn l 4 := pre_dn ho haf 4 rfl
        have h5' : Dn l 5 := pre_dn ho haf 5 rfl
        have h3' : Dn l 3 := pre_dn ho haf 3 rfl
        have h1' : Dn l 1 := hcl.dn h3' 1 rfl
        have h2' : Dn l 2 := hcl.dn h3' 2 rfl
        have h0' : Dn l 0 := hcl.dn h1' 0 rfl
        have hall : ∀ j, j < 6 → Dn l j := fun j hj => by
          have hj2 : j = 0 ∨ j = 1 ∨ j = 2 ∨ j = 3 ∨ j = 4 ∨ j = 5 := by omega
          rcases hj2 with rfl | rfl | rfl | rfl | rfl | rfl
          all_goals assumption
        obtain ⟨A1, d1, rfl, -⟩ := hT.d1 h1'
        obtain ⟨u, ⟨p, rfl, hp, hB⟩, -⟩ := hT.d4 h4'
        have hf := hB.frozen 0
        have hc0 := hB.cell 0
        simp only [List.getElem?_toArray, List.getElem?_cons_zero] at hc0
        have hR2 := hT.s6 hall rfl
        clear haf hop ho hcl hall
        refine wpOp_list rfl ?_
        go_wp2_with fail
        refine onto_normal ⟨_, _, _, _, _, _, ?_, hR2⟩
        go_simp
      · have hop := ho
        have h6' : Dn l 6 := pre_dn ho haf 6 rfl
        have h4' : Dn l 4 := hcl.dn h6' 4 rfl
        have h5' : Dn l 5 := hcl.dn h6' 5 rfl
        have h3' : Dn l 3 := hcl.dn h6' 3 rfl
        have h1' : Dn l 1 := hcl.dn h3' 1 rfl
        have h2' : Dn l 2 := hcl.dn h3' 2 rfl
        have h0' : Dn l 0 := hcl.dn h1' 0 rfl
        have hall : ∀ j, j < 6 → Dn l j := fun j hj => by
          have hj2 : j = 0 ∨ j = 1 ∨ j = 2 ∨ j = 3 ∨ j = 4 ∨ j = 5 := by omega
          rcases hj2 with rfl | rfl | rfl | rfl | rfl | rfl
          all_goals assumption
        obtain ⟨A1, d1, rfl, -⟩ := hT.d3 h3'
        obtain ⟨u, ⟨p, rfl, hp, hB⟩, -⟩ := hT.d5 h5'
        have hf := hB.frozen 0
        have hc0 := hB.cell 0
        simp only [List.getElem?_toArray, List.getElem?_cons_zero] at hc0
        have hR2 := hT.s7 hall rfl
        clear haf hop ho hcl hall
        refine wpOp_list rfl ?_
        go_wp2_with fail
        refine onto_normal ⟨_, _, _, _, _, _, ?_, hR2⟩
        go_simp
  case rest =>
    obtain ⟨hbc, p1, p2, A1, d1, A2, d2, rfl, rfl, l1, l2, B1, B2, o1, o2⟩ := hcut
    have hb02 := below_step hb01 hbc
    have DP2 := DP1.below hbc DP1.lt
    have DH2 := DH1.below hbc DH1.lt
    obtain ⟨w2, hw2⟩ : ∃ w2, w2 = wc := ⟨wc, rfl⟩
    subst hw2
    have hcf := fun (w : World) => (plain_of (fn := Try.f16) Try.func16 (by kernel_rfl) (by kernel_rfl)) #[.pointer (some ⟨w.heap.size, 0, none⟩)] w
    have HCs := Lib.hid (fun W (h : Below w2.heap.size w2 W) => pinOwnC_any w.heap.size p1 (w.heap.size + 1) p2 A n c ps A1 d1 H hn hc sl A2 d2 W (DP2.below h DP2.lt) (B1.below h B1.lt) (DH2.below h DH2.lt) (B2.below h B2.lt)
      ((hr.below (below_step hb02 h)).more (below_step hb02 h).size) (Reads.of_own (own_below o1 h)) ((hh.below (below_step hb02 h)).more (below_step hb02 h).size) (Reads.of_own (own_below o2 h)) (by omega) (by omega))
    have hqc := fun (w9 : World) => (plain_of (fn := Try.f16) Try.func16 (by kernel_rfl) (by kernel_rfl)) #[.pointer (some ⟨w.heap.size, 0, none⟩), .pointer (some ⟨p1, 0, none⟩), .pointer (some ⟨w.heap.size + 1, 0, none⟩), .pointer (some ⟨p2, 0, none⟩)] w9
    clear hcf o1 o2 B1 B2 C1 C2 l1 l2
    have HDP := Lib.hid (fun W (h : Below w2.heap.size w2 W) => (DP2.below h DP2.lt).cell 0)
    have HDH := Lib.hid (fun W (h : Below w2.heap.size w2 W) => (DH2.below h DH2.lt).cell 0)
    have s0 := HDP.out w2 (Below.refl _ _)
    have s1 := HDH.out w2 (Below.refl _ _)
    simp only [List.getElem?_toArray, List.getElem?_cons_zero] at s0 s1
    clear DP1 DH1 DP2 DH2 hr hh
    go_wp2_with fail
    refine (HAd.out _ hb02).mono ?_
    rintro e w3 ⟨hb3, X1, m1, e1, v1', r1', rfl, F1⟩
    have hb03 := below_step hb02 hb3
    have h23 := hb3
    have s0 := HDP.out w3 h23
    have s1 := HDH.out w3 h23
    simp only [List.getElem?_toArray, List.getElem?_cons_zero] at s0 s1
    go_wp2_with fail
    refine (HDr.out _ hb03).mono ?_
    rintro e w4 ⟨hb4, X2, m2, e2, v2', r2', rfl, F2⟩
    have hb04 := below_step hb03 hb4
    have h24 := below_step h23 hb4
    have F1 := F1.below hb4
    have s0 := HDP.out w4 h24
    have s1 := HDH.out w4 h24
    simp only [List.getElem?_toArray, List.getElem?_cons_zero] at s0 s1
    go_wp2_with fail
    refine (HOp.out _ hb04).mono ?_
    rintro e w5 ⟨hb5, X3, m3, e3, v3', r3', rfl, F3⟩
    have hb05 := below_step hb04 hb5
    have h25 := below_step h24 hb5
    have F1 := F1.below hb5
    have F2 := F2.below hb5
    have s0 := HDP.out w5 h25
    have s1 := HDH.out w5 h25
    simp only [List.getElem?_toArray, List.getElem?_cons_zero] at s0 s1
    go_wp2_with fail
    refine (HCl.out _ hb05).mono ?_
    rintro e w6 ⟨hb6, X4, m4, e4, r4', rfl, F4⟩
    have h26 := below_step h25 hb6
    have F1 := F1.below hb6
    have F2 := F2.below hb6
    have F3 := F3.below hb6
    have HC6 := Lib.hid (HCs.out w6 h26)
    go_wp2_with fail
    refine HC6.out.mono ?_
    rintro e w7 ⟨rfl, hb7⟩
    have h27 := below_step h26 hb7
    have F1 : FullG isI 2 47 w7 w2.heap.size X1 e1 := (FullG.mono F1 (Nat.le_refl _)).below hb7
    have F2 : FullG isI 2 47 w7 w2.heap.size X2 e2 := (FullG.mono F2 h23.size).below hb7
    have F3 : FullG isS 3 50 w7 w2.heap.size X3 e3 := (FullG.mono F3 h24.size).below hb7
    have F4 : FullG isS 3 50 w7 w2.heap.size X4 e4 := (FullG.mono F4 h25.size).below hb7
    have hb27 := h27
    have HB02 := Lib.hid hb02
    clear HAd HDr HOp HCl HDP HDH s0 s1 hb3 hb4 hb5 hb6 hb7 hb03 hb04 hb05 h23 h24 h25 h26 h27 HC6 hb02 hbc hb01 h1 h2 v0 v1
    go_wp2_with fail
    go_loopw [25, 26, 69] (fun _ _ i wr => ∃ j : Nat, j ≤ 2 ∧ i = .int .i64 j ∧ Below w2.heap.size w2 wr ∧ FullG isI 2 47 wr w2.heap.size X1 e1 ∧ FullG isI 2 47 wr w2.heap.size X2 e2 ∧ FullG isS 3 50 wr w2.heap.size X3 e3 ∧ FullG isS 3 50 wr w2.heap.size X4 e4) (fun _ _ i _ => 2 - (intOf i).toNat)
    case atStart => exact ⟨0, by omega, rfl, hb27, F1, F2, F3, F4⟩
    case round =>
      obtain ⟨j, hj, rfl, hb, F1, F2, F3, F4⟩ := hrel
      have hjc : j = 0 ∨ j = 1 ∨ j = 2 := by omega
      rcases hjc with rfl | rfl | rfl
      · clear hj
        have hX : (Instr.index 59 (.agg #[.slice X1 m1 e1, .slice X2 m2 e2]) (.int .i64 0)).run Try.prog wr = .ok (.slice X1 m1 e1) wr := idxG 2 59 25 47 Try.underlying59 Try.underlying25 (size_ofG (by kernel_rfl)) #[.slice X1 m1 e1, .slice X2 m2 e2] 0 (by decide) rfl wr
        have hcap0 := F1.cap
        obtain ⟨wo, hwo⟩ : ∃ x, x = wr := ⟨wr, rfl⟩
        subst hwo
        go_wp2
        go_loopw [26, 78] (fun _ i wr => ∃ ji : Nat, ji ≤ e1 ∧ i = .int .i64 ji ∧ Below w2.heap.size w2 wr ∧ FullG isI 2 47 wr w2.heap.size X1 e1 ∧ FullG isI 2 47 wr w2.heap.size X2 e2 ∧ FullG isS 3 50 wr w2.heap.size X3 e3 ∧ FullG isS 3 50 wr w2.heap.size X4 e4) (fun _ i _ => e1 - (intOf i).toNat)
        case atStart => exact ⟨0, Nat.zero_le _, rfl, hb, F1, F2, F3, F4⟩
        case round =>
          obtain ⟨ji, hj2, rfl, hb, F1, F2, F3, F4⟩ := hrel
          by_cases hlt : ji < e1
          · obtain ⟨g, v, hB, hg, hcell, hok, hfr⟩ := F1.cell (j := ji * 2 + 1) (by omega)
            obtain ⟨y, rfl⟩ : ∃ y, v = .int .i64 y := hok
            subst hB
            have hj3 : ji + 1 ≤ e1 := hlt
            have hbz := hb.setCell (p := ⟨g, ji * 2 + 1, none⟩) hg (.int .i64 (wrap64 (y + 1)))
            have F1z := Lib.hid (F1.put (g := g) (j := ji * 2 + 1) (u := .int .i64 (wrap64 (y + 1))) ⟨_, rfl⟩)
            have F2z := Lib.hid (F2.put (g := g) (j := ji * 2 + 1) (u := .int .i64 (wrap64 (y + 1))) ⟨_, rfl⟩)
            have F3z := Lib.hid (F3.far (g := g) (j := ji * 2 + 1) (u := .int .i64 (wrap64 (y + 1))) F1 (by decide))
            have F4z := Lib.hid (F4.far (g := g) (j := ji * 2 + 1) (u := .int .i64 (wrap64 (y + 1))) F1 (by decide))
            clear F1 F2 F3 F4
            go_wp2
            go_roundw
            case rel => exact ⟨ji + 1, hj3, by go_num, hbz, F1z.out, F2z.out, F3z.out, F4z.out⟩
            case measure => simp [intOf]; omega
          · have g0 : decide (ji < e1) = false := decide_eq_false hlt
            go_wp2
            go_roundw
            case rel => exact ⟨1, by omega, by go_num, hb, F1, F2, F3, F4⟩
            case measure => simp [intOf]; try omega
      · clear hj
        have hX : (Instr.index 59 (.agg #[.slice X1 m1 e1, .slice X2 m2 e2]) (.int .i64 1)).run Try.prog wr = .ok (.slice X2 m2 e2) wr := idxG 2 59 25 47 Try.underlying59 Try.underlying25 (size_ofG (by kernel_rfl)) #[.slice X1 m1 e1, .slice X2 m2 e2] 1 (by decide) rfl wr
        have hcap0 := F2.cap
        obtain ⟨wo, hwo⟩ : ∃ x, x = wr := ⟨wr, rfl⟩
        subst hwo
        go_wp2
        go_loopw [26, 78] (fun _ i wr => ∃ ji : Nat, ji ≤ e2 ∧ i = .int .i64 ji ∧ Below w2.heap.size w2 wr ∧ FullG isI 2 47 wr w2.heap.size X1 e1 ∧ FullG isI 2 47 wr w2.heap.size X2 e2 ∧ FullG isS 3 50 wr w2.heap.size X3 e3 ∧ FullG isS 3 50 wr w2.heap.size X4 e4) (fun _ i _ => e2 - (intOf i).toNat)
        case atStart => exact ⟨0, Nat.zero_le _, rfl, hb, F1, F2, F3, F4⟩
        case round =>
          obtain ⟨ji, hj2, rfl, hb, F1, F2, F3, F4⟩ := hrel
          by_cases hlt : ji < e2
          · obtain ⟨g, v, hB, hg, hcell, hok, hfr⟩ := F2.cell (j := ji * 2 + 1) (by omega)
            obtain ⟨y, rfl⟩ : ∃ y, v = .int .i64 y := hok
            subst hB
            have hj3 : ji + 1 ≤ e2 := hlt
            have hbz := hb.setCell (p := ⟨g, ji * 2 + 1, none⟩) hg (.int .i64 (wrap64 (y + 1)))
            have F1z := Lib.hid (F1.put (g := g) (j := ji * 2 + 1) (u := .int .i64 (wrap64 (y + 1))) ⟨_, rfl⟩)
            have F2z := Lib.hid (F2.put (g := g) (j := ji * 2 + 1) (u := .int .i64 (wrap64 (y + 1))) ⟨_, rfl⟩)
            have F3z := Lib.hid (F3.far (g := g) (j := ji * 2 + 1) (u := .int .i64 (wrap64 (y + 1))) F2 (by decide))
            have F4z := Lib.hid (F4.far (g := g) (j := ji * 2 + 1) (u := .int .i64 (wrap64 (y + 1))) F2 (by decide))
            clear F1 F2 F3 F4
            go_wp2
            go_roundw
            case rel => exact ⟨ji + 1, hj3, by go_num, hbz, F1z.out, F2z.out, F3z.out, F4z.out⟩
            case measure => simp [intOf]; omega
          · have g0 : decide (ji < e2) = false := decide_eq_false hlt
            go_wp2
            go_roundw
            case rel => exact ⟨2, by omega, by go_num, hb, F1, F2, F3, F4⟩
            case measure => simp [intOf]; try omega
      · clear hj
        obtain ⟨w8, hw8⟩ : ∃ x, x = wr := ⟨wr, rfl⟩
        subst hw8
        have hb27 := hb
        go_wp2_with fail
        go_loopw [28, 29, 94] (fun _ _ i wr => ∃ j : Nat, j ≤ 2 ∧ i = .int .i64 j ∧ Below w2.heap.size w2 wr ∧ FullG isI 2 47 wr w2.heap.size X1 e1 ∧ FullG isI 2 47 wr w2.heap.size X2 e2 ∧ FullG isS 3 50 wr w2.heap.size X3 e3 ∧ FullG isS 3 50 wr w2.heap.size X4 e4) (fun _ _ i _ => 2 - (intOf i).toNat)
        case atStart => exact ⟨0, by omega, rfl, hb27, F1, F2, F3, F4⟩
        case round =>
          obtain ⟨j, hj, rfl, hb, F1, F2, F3, F4⟩ := hrel
          have hjc : j = 0 ∨ j = 1 ∨ j = 2 := by omega
          rcases hjc with rfl | rfl | rfl
          · clear hj
            have hX : (Instr.index 60 (.agg #[.slice X3 m3 e3, .slice X4 m4 e4]) (.int .i64 0)).run Try.prog wr = .ok (.slice X3 m3 e3) wr := idxG 2 60 27 50 Try.underlying60 Try.underlying27 (size_ofG (by kernel_rfl)) #[.slice X3 m3 e3, .slice X4 m4 e4] 0 (by decide) rfl wr
            have hcap0 := F3.cap
            obtain ⟨wo, hwo⟩ : ∃ x, x = wr := ⟨wr, rfl⟩
            subst hwo
            go_wp2
            go_loopw [29, 103] (fun _ i wr => ∃ ji : Nat, ji ≤ e3 ∧ i = .int .i64 ji ∧ Below w2.heap.size w2 wr ∧ FullG isI 2 47 wr w2.heap.size X1 e1 ∧ FullG isI 2 47 wr w2.heap.size X2 e2 ∧ FullG isS 3 50 wr w2.heap.size X3 e3 ∧ FullG isS 3 50 wr w2.heap.size X4 e4) (fun _ i _ => e3 - (intOf i).toNat)
            case atStart => exact ⟨0, Nat.zero_le _, rfl, hb, F1, F2, F3, F4⟩
            case round =>
              obtain ⟨ji, hj2, rfl, hb, F1, F2, F3, F4⟩ := hrel
              by_cases hlt : ji < e3
              · obtain ⟨g, v, hB, hg, hcell, hok, hfr⟩ := F3.cell (j := ji * 3) (by omega)
                obtain ⟨y, rfl⟩ : ∃ y, v = .int .i64 y := hok (by omega)
                subst hB
                have hj3 : ji + 1 ≤ e3 := hlt
                have hbz := hb.setCell (p := ⟨g, ji * 3, none⟩) hg (.int .i64 (wrap64 (y + 1)))
                have F1z := Lib.hid (F1.far (g := g) (j := ji * 3) (u := .int .i64 (wrap64 (y + 1))) F3 (by decide))
                have F2z := Lib.hid (F2.far (g := g) (j := ji * 3) (u := .int .i64 (wrap64 (y + 1))) F3 (by decide))
                have F3z := Lib.hid (F3.put (g := g) (j := ji * 3) (u := .int .i64 (wrap64 (y + 1))) (fun _ => ⟨_, rfl⟩))
                have F4z := Lib.hid (F4.put (g := g) (j := ji * 3) (u := .int .i64 (wrap64 (y + 1))) (fun _ => ⟨_, rfl⟩))
                clear F1 F2 F3 F4
                go_wp2
                go_roundw
                case rel => exact ⟨ji + 1, hj3, by go_num, hbz, F1z.out, F2z.out, F3z.out, F4z.out⟩
                case measure => simp [intOf]; omega
              · have g0 : decide (ji < e3) = false := decide_eq_false hlt
                go_wp2
                go_roundw
                case rel => exact ⟨1, by omega, by go_num, hb, F1, F2, F3, F4⟩
                case measure => simp [intOf]; try omega
          · clear hj
            have hX : (Instr.index 60 (.agg #[.slice X3 m3 e3, .slice X4 m4 e4]) (.int .i64 1)).run Try.prog wr = .ok (.slice X4 m4 e4) wr := idxG 2 60 27 50 Try.underlying60 Try.underlying27 (size_ofG (by kernel_rfl)) #[.slice X3 m3 e3, .slice X4 m4 e4] 1 (by decide) rfl wr
            have hcap0 := F4.cap
            obtain ⟨wo, hwo⟩ : ∃ x, x = wr := ⟨wr, rfl⟩
            subst hwo
            go_wp2
            go_loopw [29, 103] (fun _ i wr => ∃ ji : Nat, ji ≤ e4 ∧ i = .int .i64 ji ∧ Below w2.heap.size w2 wr ∧ FullG isI 2 47 wr w2.heap.size X1 e1 ∧ FullG isI 2 47 wr w2.heap.size X2 e2 ∧ FullG isS 3 50 wr w2.heap.size X3 e3 ∧ FullG isS 3 50 wr w2.heap.size X4 e4) (fun _ i _ => e4 - (intOf i).toNat)
            case atStart => exact ⟨0, Nat.zero_le _, rfl, hb, F1, F2, F3, F4⟩
            case round =>
              obtain ⟨ji, hj2, rfl, hb, F1, F2, F3, F4⟩ := hrel
              by_cases hlt : ji < e4
              · obtain ⟨g, v, hB, hg, hcell, hok, hfr⟩ := F4.cell (j := ji * 3) (by omega)
                obtain ⟨y, rfl⟩ : ∃ y, v = .int .i64 y := hok (by omega)
                subst hB
                have hj3 : ji + 1 ≤ e4 := hlt
                have hbz := hb.setCell (p := ⟨g, ji * 3, none⟩) hg (.int .i64 (wrap64 (y + 1)))
                have F1z := Lib.hid (F1.far (g := g) (j := ji * 3) (u := .int .i64 (wrap64 (y + 1))) F4 (by decide))
                have F2z := Lib.hid (F2.far (g := g) (j := ji * 3) (u := .int .i64 (wrap64 (y + 1))) F4 (by decide))
                have F3z := Lib.hid (F3.put (g := g) (j := ji * 3) (u := .int .i64 (wrap64 (y + 1))) (fun _ => ⟨_, rfl⟩))
                have F4z := Lib.hid (F4.put (g := g) (j := ji * 3) (u := .int .i64 (wrap64 (y + 1))) (fun _ => ⟨_, rfl⟩))
                clear F1 F2 F3 F4
                go_wp2
                go_roundw
                case rel => exact ⟨ji + 1, hj3, by go_num, hbz, F1z.out, F2z.out, F3z.out, F4z.out⟩
                case measure => simp [intOf]; omega
              · have g0 : decide (ji < e4) = false := decide_eq_false hlt
                go_wp2
                go_roundw
                case rel => exact ⟨2, by omega, by go_num, hb, F1, F2, F3, F4⟩
                case measure => simp [intOf]; try omega
          · clear hj
            have HC9 := Lib.hid (HCs.out wr hb)
            have HB9 := Lib.hid (below_step HB02.out hb)
            go_wp2_with fail
            refine HC9.out.mono ?_
            rintro e w9 ⟨rfl, hb9⟩
            go_wp2
            go_ret
            exact ⟨by first | rfl | simp, below_step HB9.out hb9⟩
end Go.Proofs.Ytbmkbnalembbjaa
