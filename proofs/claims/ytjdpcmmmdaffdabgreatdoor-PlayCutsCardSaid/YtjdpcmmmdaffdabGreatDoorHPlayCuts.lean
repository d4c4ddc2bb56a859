/-
  PlayCuts answers true for every store, list of deeds and number, and changes no argument: playing operations in two parts is the same as playing them at once. The table of forms lies as its initialiser lays it (tied on the card).
-/
import Derived.Test.YtjdpcmmmdaffdabGreatDoorG12
import Derived.Test.YtjdpcmmmdaffdabGreatDoorG21
import Derived.Test.YtjdpcmmmdaffdabGreatDoorG22
namespace Go.Proofs.YtjdpcmmmdaffdabGreatDoor
open Go.RowKit


set_option maxRecDepth 100000 in
set_option maxHeartbeats 4000000 in
theorem playCuts_bad (A : Option Addr) (n c : Nat) (RA : Option Addr) (rn rc : Nat) (PA : Option Addr) (pn pc : Nat) (HA : Option Addr) (hn hc : Nat) (S : St) (OA : Option Addr) (on oc : Nat) (l : List OpV) (k : Int) (w : World) (hR : StR w w.heap.size A n RA rn PA pn HA hn S) (hK : StK n c rn pn hn S) (hr : Reads w w.heap.size 5 OA on (opsC l)) (hnc : on ≤ oc) (hoc : oc ≤ maxLen) (hv : ∀ o ∈ l, (Lit.int .u64 o.v).wf = true) (hT : FTab w) (hE : playE S on ≠ 0) :
    Calls Tryz.prog 4 #[.agg #[.slice A n c, .slice RA rn rc, .slice PA pn pc, .slice HA hn hc], .slice OA on oc, .int .i64 k] w fun e w' => e = .returned (.bool true) ∧ Below w.heap.size w w' := by
  have HP := Lib.hid (fun w hR => play_bad A n c RA rn rc PA pn pc HA hn hc S OA on oc w hR hK hE)
  have g1 : (playE S on != 0) = true := by simpa using hE
  generalize playE S on = F at *
  have HH := Lib.hid (fun w hT => plays_true w hT)
  have HT := Lib.hid hT
  have hb1 := below_new w (.cells #[.slice A n c, .slice RA rn rc, .slice PA pn pc, .slice HA hn hc] 28)
  have DS := Blk.new w 28 #[.slice A n c, .slice RA rn rc, .slice PA pn pc, .slice HA hn hc]
  clear hE hT hK hv hoc hnc hr
  go_enter Tryz.func4, Tryz.ntmps4
  go_wp2_with fail
  refine (HH.out _ (HT.out.below hb1)).mono ?_
  rintro e w1 ⟨rfl, hb2⟩
  have hb02 := below_step hb1 hb2
  have DS2 := DS.below hb2 DS.lt
  obtain ⟨s0, s1, s2, s3⟩ := DS2.four
  go_wp2_with fail
  refine (HP.out _ ((hR.below hb02).more hb02.size)).mono ?_
  rintro e w2 ⟨hb3, rfl⟩
  have hb03 := (below_step hb02 hb3).alloc (below_step hb02 hb3).size (.cells #[.slice none 0 0, .slice none 0 0, .slice none 0 0, .slice none 0 0] 28)
  clear s0 s1 s2 s3
  go_wp2_with fail
  go_ret
  exact ⟨by first | rfl | simp, hb03⟩

set_option maxRecDepth 100000 in
set_option maxHeartbeats 8000000 in
theorem playCuts_end (A : Option Addr) (n c : Nat) (RA : Option Addr) (rn rc : Nat) (PA : Option Addr) (pn pc : Nat) (HA : Option Addr) (hn hc : Nat) (S : St) (OA : Option Addr) (k : Nat) (l : List OpV) (w : World) (hR : StR w w.heap.size A n RA rn PA pn HA hn S) (hK : StK n c rn pn hn S) (hr : Reads w w.heap.size 5 OA k (opsC l)) (hnc : k ≤ k) (hoc : k ≤ maxLen) (hv : ∀ o ∈ l, (Lit.int .u64 o.v).wf = true) (hT : FTab w) (hE : playE S k = 0) :
    Calls Tryz.prog 4 #[.agg #[.slice A n c, .slice RA rn rc, .slice PA pn pc, .slice HA hn hc], .slice OA k k, .int .i64 k] w fun e w' => e = .returned (.bool true) ∧ Below w.heap.size w w' := by
  obtain ⟨hOK, hn2⟩ := playE_zero hE
  have hll : l.length = k := by have := hr.1; rw [opsC_length] at this; omega
  have HP := Lib.hid (fun w hR hr hT => play_ok A n c RA rn rc PA pn pc HA hn hc S OA k k l w hR hK hOK hn2 hr hv hT)
  have hr6 := hr.frontK (m := k) (by omega)
  rw [opsC_take l k (by omega)] at hr6
  have HP6 := Lib.hid (fun w hR hr hT => play_ok A n c RA rn rc PA pn pc HA hn hc S OA k k (l.take k) w hR hK hOK (by omega) hr (fun o ho => hv o (List.mem_of_mem_take ho)) hT)
  have hG : StGood (playS S (l.take k)) := playS_good _ ⟨hOK, hK.wf⟩ (fun o ho => hv o (List.mem_of_mem_take ho))
  have hr7 := hr.cut (k := k) (cap := k) (by omega) hnc
  rw [opsC_drop l k (by omega)] at hr7
  rw [if_pos rfl, Nat.sub_self] at hr7
  have HRR : Hid (k + 0 = k ∧ 0 ≤ 200) := by show _ ∧ _; omega
  have HP7 := fun (C1 : Option Addr) (m1 e1 : Nat) (C2 : Option Addr) (m2 e2 : Nat) (C3 : Option Addr) (m3 e3 : Nat) (C4 : Option Addr) (m4 e4 : Nat) (base : Nat) (wc : World) (hO : StO wc base C1 m1 e1 C2 m2 e2 C3 m3 e3 C4 m4 e4 (playS S (l.take k))) (w : World) hR hr hT => play_ok C1 m1 e1 C2 m2 e2 C3 m3 e3 C4 m4 e4 (playS S (l.take k)) OA 0 0 (l.drop k) w hR (hG.known hO) hG.ok (by omega) hr (fun o ho => hv o (List.mem_of_mem_drop ho)) hT
  have HP7 := Lib.hid HP7
  have HSP : Hid (playS (playS S (l.take k)) (l.drop k) = playS S l ∧ toldsC (playT S (l.take k)) ++ toldsC (playT (playS S (l.take k)) (l.drop k)) = toldsC (playT S l)) := by
    show _ ∧ _
    rw [← playS_app, List.take_append_drop, ← toldsC_app, ← playT_app, List.take_append_drop]
    exact ⟨rfl, rfl⟩
  have HRF := Lib.hid hr
  have HXL := Lib.hid (playS_good l ⟨hOK, hK.wf⟩ hv).ok.lens
  have g2 : decide ((k : Int) < 0) = false := decide_eq_false (by omega)
  have HN2 := Lib.hid hn2
  have g3 : decide ((k : Int) < (k : Int)) = false := decide_eq_false (by omega)
  have g3' : decide (k < k) = false := decide_eq_false (by omega)
  have HH := Lib.hid (fun w hT => plays_true w hT)
  have HT := Lib.hid hT
  have hb1 := below_new w (.cells #[.slice A n c, .slice RA rn rc, .slice PA pn pc, .slice HA hn hc] 28)
  have DS := Blk.new w 28 #[.slice A n c, .slice RA rn rc, .slice PA pn pc, .slice HA hn hc]
  clear hE hT hK hv hoc hr hOK hG hll hn2
  go_enter Tryz.func4, Tryz.ntmps4
  go_wp2_with fail
  refine (HH.out _ (HT.out.below hb1)).mono ?_
  rintro e w1 ⟨rfl, hb2⟩
  have hb02 := below_step hb1 hb2
  have DS2 := DS.below hb2 DS.lt
  obtain ⟨s0, s1, s2, s3⟩ := DS2.four
  clear DS
  go_wp2_with fail
  refine (HP.out _ ((hR.below hb02).more hb02.size) ((HRF.out.below hb02).more hb02.size) (HT.out.below hb02)).mono ?_
  rintro e w2 ⟨hb3, B1, n1, d1, B2, n2, d2, B3, n3, d3, B4, n4, d4, T, tc, rfl, hOx, hTx⟩
  have hb03 := below_step hb02 hb3
  have hb04 := hb03.alloc hb03.size (.cells #[.slice B1 n1 d1, .slice B2 n2 d2, .slice B3 n3 d3, .slice B4 n4 d4] 28)
  have DX := Blk.new w2 28 #[.slice B1 n1 d1, .slice B2 n2 d2, .slice B3 n3 d3, .slice B4 n4 d4]
  have DS := (DS2.below hb3 DS2.lt).alloc (.cells #[.slice B1 n1 d1, .slice B2 n2 d2, .slice B3 n3 d3, .slice B4 n4 d4] 28)
  have hRx := (hOx.alloc (.cells #[.slice B1 n1 d1, .slice B2 n2 d2, .slice B3 n3 d3, .slice B4 n4 d4] 28)).reads
  have hrx := Reads.of_own (hTx.alloc (.cells #[.slice B1 n1 d1, .slice B2 n2 d2, .slice B3 n3 d3, .slice B4 n4 d4] 28))
  have hR1 := (hR.below hb04).more hb04.size
  have hrO6 := (hr6.below hb04).more hb04.size
  have hrO7 := (hr7.below hb04).more hb04.size
  have HT := Lib.hid (HT.out.below hb04)
  obtain ⟨W, hW⟩ : ∃ W, W = w2.alloc (.cells #[.slice B1 n1 d1, .slice B2 n2 d2, .slice B3 n3 d3, .slice B4 n4 d4] 28) := ⟨_, rfl⟩
  rw [← hW] at DX DS hRx hrx hR1 hrO6 hrO7 HT hb04
  have HW := Lib.hid hW
  obtain ⟨x0, hx0⟩ : ∃ q, q = w2.heap.size := ⟨_, rfl⟩
  rw [← hx0] at DX
  have HX0 := Lib.hid hx0
  clear s0 s1 s2 s3 DS2 hb02 hb03 hb2 hb3 hb1 hW hx0 hOx hTx hr6 hr7 HP HH
  have hrO := hrO6
  go_upto_region 6 with fail
  rw [← HW.out, ← HX0.out]
  go_cut [10, 11, 12] from 16 to 72 (fun s10 s11 s12 wc => ∃ (g : Nat) (C1 : Option Addr) (m1 e1 : Nat) (C2 : Option Addr) (m2 e2 : Nat) (C3 : Option Addr) (m3 e3 : Nat) (C4 : Option Addr) (m4 e4 : Nat) (U : Option Addr) (uc : Nat), s10 = .pointer (some ⟨g, 0, none⟩) ∧ s11 = .slice U k uc ∧ s12 = .int .i64 0 ∧ W.heap.size ≤ g ∧ Blk wc g 28 #[.slice C1 m1 e1, .slice C2 m2 e2, .slice C3 m3 e3, .slice C4 m4 e4] ∧
    StO wc W.heap.size C1 m1 e1 C2 m2 e2 C3 m3 e3 C4 m4 e4 (playS S (l.take k)) ∧ wc.ownsRow W.heap.size 38 2 (.slice U k uc) k (toldsC (playT S (l.take k))) ∧ Below W.heap.size W wc)
  case first =>
    have hb := (Below.refl W.heap.size W).drew
    obtain ⟨h0, h1, h2, h3⟩ := DS.four
    have DS := DS.drew
    obtain ⟨s0, s1, s2, s3⟩ := DS.four
    have hbz := (below_new W (.cells #[.slice none 0 0, .slice none 0 0, .slice none 0 0, .slice none 0 0] 28)).drew
    have DSz := DS.alloc (.cells #[.slice none 0 0, .slice none 0 0, .slice none 0 0, .slice none 0 0] 28)
    have DOz := (Blk.new W 28 #[.slice none 0 0, .slice none 0 0, .slice none 0 0, .slice none 0 0]).drew
    have ne1 : W.heap.size ≠ w.heap.size := by have h : w.heap.size < W.heap.size := DS.lt; omega
    go_region_held3 (fun w' => w'.cell? ⟨w.heap.size, 0, none⟩ = some (.slice A n c) ∧ w'.cell? ⟨w.heap.size, 1, none⟩ = some (.slice RA rn rc) ∧ w'.cell? ⟨w.heap.size, 2, none⟩ = some (.slice PA pn pc) ∧ w'.cell? ⟨w.heap.size, 3, none⟩ = some (.slice HA hn hc)) (go_keep)
      (first
        | (go_at_call 7; (with_reducible refine (HP6.out _ ((hR1.below hb).more hb.size) ((hrO.below hb).more hb.size) (HT.out.below hb)).mono ?_); rintro e wA ⟨hbA, C1, m1, e1, C2, m2, e2, C3, m3, e3, C4, m4, e4, U, uc, rfl, hoA, htA⟩; have DS := DS.below hbA DS.lt; obtain ⟨s0, s1, s2, s3⟩ := DS.four)
        | (go_at_call 7; (with_reducible refine (HP6.out _ ((hR1.below hbz).more hbz.size) ((hrO.below hbz).more hbz.size) (HT.out.below hbz)).mono ?_); rintro e wA ⟨hbA, C1, m1, e1, C2, m2, e2, C3, m3, e3, C4, m4, e4, U, uc, rfl, hoA, htA⟩; have DS := DSz.below hbA DSz.lt; obtain ⟨s0, s1, s2, s3⟩ := DS.four; have DO := DOz.below hbA DOz.lt; obtain ⟨x0, x1, x2, x3⟩ := DO.four; obtain ⟨f0, f1, f2, f3⟩ := DO.four_frozen))
    all_goals
      go_wp2_with fail
      go_meet
    · exact ⟨_, C1, m1, e1, C2, m2, e2, C3, m3, e3, C4, m4, e4, U, uc, rfl, rfl, rfl, hbA.size, Blk.new wA _ _, (hoA.mono hb.size).alloc _, (own_mono htA hb.size).alloc _, (hb.trans hbA).alloc (hb.trans hbA).size _⟩
    · have hq := hbz.trans (hbA.mono hbz.size)
      exact ⟨_, C1, m1, e1, C2, m2, e2, C3, m3, e3, C4, m4, e4, U, uc, rfl, rfl, rfl, Nat.le_refl _, (((DO.set_ 0 _).set_ 1 _).set_ 2 _).set_ 3 _, (hoA.mono hbz.size).store DO _ _ _ _, own_block4 (own_mono htA hbz.size) DO (by decide) _ _ _ _, below_block4 hq (Nat.le_refl _) _ _ _ _⟩
  case rest =>
    obtain ⟨g, C1, m1, e1, C2, m2, e2, C3, m3, e3, C4, m4, e4, U, uc, rfl, rfl, rfl, hg, DC, hOu, hTu, hbc⟩ := hcut
    have hb05 := below_step hb04 hbc
    have DX5 := DX.below hbc DX.lt
    have hRx5 := (hRx.below hbc).more hbc.size
    have hrx5 := (hrx.below hbc).more hbc.size
    have hR2 := hOu.reads
    have hru := Reads.of_own hTu
    have hrO := (hrO7.below hbc).more hbc.size
    have HT := Lib.hid (HT.out.below hbc)
    have HP7 := Lib.hid (HP7.out C1 m1 e1 C2 m2 e2 C3 m3 e3 C4 m4 e4 _ _ hOu)
    clear DX hRx hrx hR1 hrO6 hrO7 DS HP6 hOu hTu
    obtain ⟨V, hV⟩ : ∃ V, V = wc := ⟨_, rfl⟩
    subst hV
    go_upto_region 7 with fail
    go_cut [13, 14, 15] from 16 to 72 (fun s10 s11 s12 wc => ∃ (g : Nat) (D1 : Option Addr) (q1 y1 : Nat) (D2 : Option Addr) (q2 y2 : Nat) (D3 : Option Addr) (q3 y3 : Nat) (D4 : Option Addr) (q4 y4 : Nat) (X : Option Addr) (xc : Nat), s10 = .pointer (some ⟨g, 0, none⟩) ∧ s11 = .slice X 0 xc ∧ s12 = .int .i64 0 ∧ V.heap.size ≤ g ∧ Blk wc g 28 #[.slice D1 q1 y1, .slice D2 q2 y2, .slice D3 q3 y3, .slice D4 q4 y4] ∧
      StO wc V.heap.size D1 q1 y1 D2 q2 y2 D3 q3 y3 D4 q4 y4 (playS (playS S (l.take k)) (l.drop k)) ∧ wc.ownsRow V.heap.size 38 2 (.slice X 0 xc) 0 (toldsC (playT (playS S (l.take k)) (l.drop k))) ∧ Below V.heap.size V wc)
    case first =>
      have hb := (Below.refl V.heap.size V).drew
      obtain ⟨h0, h1, h2, h3⟩ := DC.four
      have DC := DC.drew
      obtain ⟨s0, s1, s2, s3⟩ := DC.four
      have hbz := (below_new V (.cells #[.slice none 0 0, .slice none 0 0, .slice none 0 0, .slice none 0 0] 28)).drew
      have DSz := DC.alloc (.cells #[.slice none 0 0, .slice none 0 0, .slice none 0 0, .slice none 0 0] 28)
      have DOz := (Blk.new V 28 #[.slice none 0 0, .slice none 0 0, .slice none 0 0, .slice none 0 0]).drew
      have ne1 : V.heap.size ≠ g := by have h : g < V.heap.size := DC.lt; omega
      go_region_held3 (fun w' => w'.cell? ⟨g, 0, none⟩ = some (.slice C1 m1 e1) ∧ w'.cell? ⟨g, 1, none⟩ = some (.slice C2 m2 e2) ∧ w'.cell? ⟨g, 2, none⟩ = some (.slice C3 m3 e3) ∧ w'.cell? ⟨g, 3, none⟩ = some (.slice C4 m4 e4)) (go_keep)
        (first
          | (go_at_call 7; (with_reducible refine (HP7.out _ ((hR2.below hb).more hb.size) ((hrO.below hb).more hb.size) (HT.out.below hb)).mono ?_); rintro e wA ⟨hbA, D1, q1, y1, D2, q2, y2, D3, q3, y3, D4, q4, y4, X, xc, rfl, hoA, htA⟩; have DC := DC.below hbA DC.lt; obtain ⟨s0, s1, s2, s3⟩ := DC.four)
          | (go_at_call 7; (with_reducible refine (HP7.out _ ((hR2.below hbz).more hbz.size) ((hrO.below hbz).more hbz.size) (HT.out.below hbz)).mono ?_); rintro e wA ⟨hbA, D1, q1, y1, D2, q2, y2, D3, q3, y3, D4, q4, y4, X, xc, rfl, hoA, htA⟩; have DC := DSz.below hbA DSz.lt; obtain ⟨s0, s1, s2, s3⟩ := DC.four; have DO := DOz.below hbA DOz.lt; obtain ⟨x0, x1, x2, x3⟩ := DO.four; obtain ⟨f0, f1, f2, f3⟩ := DO.four_frozen))
      all_goals
        go_wp2_with fail
        go_meet
      · exact ⟨_, D1, q1, y1, D2, q2, y2, D3, q3, y3, D4, q4, y4, X, xc, rfl, rfl, rfl, hbA.size, Blk.new wA _ _, (hoA.mono hb.size).alloc _, (own_mono htA hb.size).alloc _, (hb.trans hbA).alloc (hb.trans hbA).size _⟩
      · have hq := hbz.trans (hbA.mono hbz.size)
        exact ⟨_, D1, q1, y1, D2, q2, y2, D3, q3, y3, D4, q4, y4, X, xc, rfl, rfl, rfl, Nat.le_refl _, (((DO.set_ 0 _).set_ 1 _).set_ 2 _).set_ 3 _, (hoA.mono hbz.size).store DO _ _ _ _, own_block4 (own_mono htA hbz.size) DO (by decide) _ _ _ _, below_block4 hq (Nat.le_refl _) _ _ _ _⟩
    case rest =>
      obtain ⟨g2, D1, q1, y1, D2, q2, y2, D3, q3, y3, D4, q4, y4, X, xc, rfl, rfl, rfl, hg2, DD, hOv, hTv, hbd⟩ := hcut
      have hb06 := below_step hb05 hbd
      have DX6 := DX5.below hbd DX5.lt
      have hRx6 := (hRx5.below hbd).more hbd.size
      have hrx6 := (hrx5.below hbd).more hbd.size
      have hru6 := (hru.below hbd).more hbd.size
      have hRz := hOv.reads
      have hrv := Reads.of_own hTv
      rw [HSP.out.1] at hRz
      obtain ⟨t1, t2, t3, t4⟩ := hRx6.lens
      obtain ⟨u1, u2, u3, u4⟩ := hRz.lens
      obtain ⟨v1, v2, v3, v4, -⟩ := HXL.out
      obtain rfl : q1 = n1 := by omega
      obtain rfl : q2 = n2 := by omega
      obtain rfl : q3 = n3 := by omega
      obtain rfl : q4 = n4 := by omega
      have HSS := Lib.hid (fun w hR hR' => sameSt_true B1 q1 d1 B2 q2 d2 B3 q3 d3 B4 q4 d4 D1 y1 D2 y2 D3 y3 D4 y4 (playS S l) w hR hR' (by omega) (by omega) (by omega) (by omega))
      have hx0 := reads_new wc [.int .i64 0, .int .i64 0] 32 2 1 rfl
      have hbn := below_new wc (.cells #[.int .i64 0, .int .i64 0] 32)
      have HG := Lib.hid (good_of (some ⟨wc.heap.size, 0, none⟩) 2 2 _ [0, 0] true _ (by decide) (by simpa using hx0) (by decide))
      have hb07 := below_step hb06 hbn
      have hRx7 := (hRx6.below hbn).more hbn.size
      have hRz7 := (hRz.below hbn).more hbn.size
      have hrx7 := (hrx6.below hbn).more hbn.size
      have hru7 := (hru6.below hbn).more hbn.size
      have hrv7 := (hrv.below hbn).more hbn.size
      have DX7 := DX6.alloc (.cells #[.int .i64 0, .int .i64 0] 32)
      have DD7 := DD.alloc (.cells #[.int .i64 0, .int .i64 0] 32)
      have h2k : k ≤ 400 := by have := HN2.out; omega
      have h2r : 0 ≤ 400 := by have := HRR.out; omega
      have HCc := fun (Av : Option Addr) (w : World) hv h1 h2 => concat2_told U k uc (toldsC (playT S (l.take k))) X 0 xc (toldsC (playT (playS S (l.take k)) (l.drop k))) Av 2 w hv h1 h2 (toldsC_one _) (toldsC_one _) h2k h2r
      rw [HRR.out.1, HSP.out.2] at HCc
      have HCc := Lib.hid HCc
      have h9 : k ≤ 1000000000000000000 := by have := HN2.out; omega
      have HEq := Lib.hid (fun A2 c2 B B2 w r r2 => equal_told T A2 k tc c2 B B2 (playT S l) w r r2 h9)
      clear t1 t2 t3 t4 u1 u2 u3 u4 v1 v2 v3 v4 hx0 hRx6 hRz hrx6 hru6 hrv DX6 DD hOv hTv hRx5 hrx5 hR2 hru hrO DX5 DC HP7 hb05 hbc hg h9
      obtain ⟨a0, a1, a2, a3⟩ := DX7.four
      obtain ⟨z0, z1, z2, z3⟩ := DD7.four
      go_wp2_with fail
      refine HG.out.mono ?_
      rintro e w8 ⟨rfl, rfl⟩
      go_wp2_with fail
      refine (HSS.out _ hRx7 hRz7).mono ?_
      rintro e w9 ⟨rfl, hb9⟩
      have hb09 := below_step hb07 hb9
      have hvn := reads_new w9 [.slice U k uc, .slice X 0 xc] 31 2 1 rfl
      have hbm := below_new w9 (.cells #[.slice U k uc, .slice X 0 xc] 31)
      have hb10 := below_step hb09 hbm
      have hrx9 := ((hrx7.below hb9).more hb9.size |>.below hbm).more hbm.size
      have hru9 := ((hru7.below hb9).more hb9.size |>.below hbm).more hbm.size
      have hrv9 := ((hrv7.below hb9).more hb9.size |>.below hbm).more hbm.size
      clear a0 a1 a2 a3 z0 z1 z2 z3 DX7 DD7 hRx7 hRz7 hrx7 hru7 hrv7 HG HSS
      go_wp2_with fail
      refine (HCc.out _ _ (by rw [World.size_alloc]; exact hvn) hru9 hrv9).mono ?_
      rintro e w10 ⟨A', c', rfl, hOc, hb10'⟩
      have hb11 := below_step hb10 hb10'
      have hrx10 := hrx9.below hb10'
      go_wp2_with fail
      refine Calls.mono (HEq.out _ _ _ _ _ hrx10 (Reads.of_own hOc)) ?_
      rintro e w11 ⟨rfl, q, rfl⟩
      go_wp2_with fail
      go_ret
      exact ⟨by first | rfl | simp, below_drewN hb11 q⟩

set_option maxRecDepth 100000 in
set_option maxHeartbeats 8000000 in
theorem playCuts_mid (A : Option Addr) (n c : Nat) (RA : Option Addr) (rn rc : Nat) (PA : Option Addr) (pn pc : Nat) (HA : Option Addr) (hn hc : Nat) (S : St) (ad : Addr) (on oc k : Nat) (l : List OpV) (w : World) (hR : StR w w.heap.size A n RA rn PA pn HA hn S) (hK : StK n c rn pn hn S) (hr : Reads w w.heap.size 5 (some ad) on (opsC l)) (hnc : on ≤ oc) (hoc : oc ≤ maxLen) (hv : ∀ o ∈ l, (Lit.int .u64 o.v).wf = true) (hT : FTab w) (hE : playE S on = 0) (hk : k ≤ on) (hok : ¬ oc = k) :
    Calls Tryz.prog 4 #[.agg #[.slice A n c, .slice RA rn rc, .slice PA pn pc, .slice HA hn hc], .slice (some ad) on oc, .int .i64 k] w fun e w' => e = .returned (.bool true) ∧ Below w.heap.size w w' := by
  obtain ⟨hOK, hn2⟩ := playE_zero hE
  have hll : l.length = on := by have := hr.1; rw [opsC_length] at this; omega
  have HP := Lib.hid (fun w hR hr hT => play_ok A n c RA rn rc PA pn pc HA hn hc S (some ad) on oc l w hR hK hOK hn2 hr hv hT)
  have hr6 := hr.frontK (m := k) (by omega)
  rw [opsC_take l k (by omega)] at hr6
  have HP6 := Lib.hid (fun w hR hr hT => play_ok A n c RA rn rc PA pn pc HA hn hc S (some ad) k oc (l.take k) w hR hK hOK (by omega) hr (fun o ho => hv o (List.mem_of_mem_take ho)) hT)
  have hG : StGood (playS S (l.take k)) := playS_good _ ⟨hOK, hK.wf⟩ (fun o ho => hv o (List.mem_of_mem_take ho))
  have hr7 := hr.cut (k := k) (cap := oc) (by omega) hnc
  rw [opsC_drop l k (by omega)] at hr7
  rw [if_neg hok, Option.map_some] at hr7
  have HRR : Hid (k + (on - k) = on ∧ (on - k) ≤ 200) := by show _ ∧ _; omega
  have HP7 := fun (C1 : Option Addr) (m1 e1 : Nat) (C2 : Option Addr) (m2 e2 : Nat) (C3 : Option Addr) (m3 e3 : Nat) (C4 : Option Addr) (m4 e4 : Nat) (base : Nat) (wc : World) (hO : StO wc base C1 m1 e1 C2 m2 e2 C3 m3 e3 C4 m4 e4 (playS S (l.take k))) (w : World) hR hr hT => play_ok C1 m1 e1 C2 m2 e2 C3 m3 e3 C4 m4 e4 (playS S (l.take k)) (some (ad.add (k * 5))) (on - k) (oc - k) (l.drop k) w hR (hG.known hO) hG.ok (by omega) hr (fun o ho => hv o (List.mem_of_mem_drop ho)) hT
  have HP7 := Lib.hid HP7
  have HSP : Hid (playS (playS S (l.take k)) (l.drop k) = playS S l ∧ toldsC (playT S (l.take k)) ++ toldsC (playT (playS S (l.take k)) (l.drop k)) = toldsC (playT S l)) := by
    show _ ∧ _
    rw [← playS_app, List.take_append_drop, ← toldsC_app, ← playT_app, List.take_append_drop]
    exact ⟨rfl, rfl⟩
  have HRF := Lib.hid hr
  have HXL := Lib.hid (playS_good l ⟨hOK, hK.wf⟩ hv).ok.lens
  have g2 : decide ((k : Int) < 0) = false := decide_eq_false (by omega)
  have HN2 := Lib.hid hn2
  have g3 : decide ((on : Int) < (k : Int)) = false := decide_eq_false (by omega)
  have g3' : decide (on < k) = false := decide_eq_false (by omega)
  have b1 : k ≤ oc := by omega
  have b2 : k ≤ on := hk
  have b3 : on ≤ oc := hnc
  have HH := Lib.hid (fun w hT => plays_true w hT)
  have HT := Lib.hid hT
  have hb1 := below_new w (.cells #[.slice A n c, .slice RA rn rc, .slice PA pn pc, .slice HA hn hc] 28)
  have DS := Blk.new w 28 #[.slice A n c, .slice RA rn rc, .slice PA pn pc, .slice HA hn hc]
  clear hE hT hK hv hoc hr hOK hG hll hn2
  go_enter Tryz.func4, Tryz.ntmps4
  go_wp2_with fail
  refine (HH.out _ (HT.out.below hb1)).mono ?_
  rintro e w1 ⟨rfl, hb2⟩
  have hb02 := below_step hb1 hb2
  have DS2 := DS.below hb2 DS.lt
  obtain ⟨s0, s1, s2, s3⟩ := DS2.four
  clear DS
  go_wp2_with fail
  refine (HP.out _ ((hR.below hb02).more hb02.size) ((HRF.out.below hb02).more hb02.size) (HT.out.below hb02)).mono ?_
  rintro e w2 ⟨hb3, B1, n1, d1, B2, n2, d2, B3, n3, d3, B4, n4, d4, T, tc, rfl, hOx, hTx⟩
  have hb03 := below_step hb02 hb3
  have hb04 := hb03.alloc hb03.size (.cells #[.slice B1 n1 d1, .slice B2 n2 d2, .slice B3 n3 d3, .slice B4 n4 d4] 28)
  have DX := Blk.new w2 28 #[.slice B1 n1 d1, .slice B2 n2 d2, .slice B3 n3 d3, .slice B4 n4 d4]
  have DS := (DS2.below hb3 DS2.lt).alloc (.cells #[.slice B1 n1 d1, .slice B2 n2 d2, .slice B3 n3 d3, .slice B4 n4 d4] 28)
  have hRx := (hOx.alloc (.cells #[.slice B1 n1 d1, .slice B2 n2 d2, .slice B3 n3 d3, .slice B4 n4 d4] 28)).reads
  have hrx := Reads.of_own (hTx.alloc (.cells #[.slice B1 n1 d1, .slice B2 n2 d2, .slice B3 n3 d3, .slice B4 n4 d4] 28))
  have hR1 := (hR.below hb04).more hb04.size
  have hrO6 := (hr6.below hb04).more hb04.size
  have hrO7 := (hr7.below hb04).more hb04.size
  have HT := Lib.hid (HT.out.below hb04)
  obtain ⟨W, hW⟩ : ∃ W, W = w2.alloc (.cells #[.slice B1 n1 d1, .slice B2 n2 d2, .slice B3 n3 d3, .slice B4 n4 d4] 28) := ⟨_, rfl⟩
  rw [← hW] at DX DS hRx hrx hR1 hrO6 hrO7 HT hb04
  have HW := Lib.hid hW
  obtain ⟨x0, hx0⟩ : ∃ q, q = w2.heap.size := ⟨_, rfl⟩
  rw [← hx0] at DX
  have HX0 := Lib.hid hx0
  clear s0 s1 s2 s3 DS2 hb02 hb03 hb2 hb3 hb1 hW hx0 hOx hTx hr6 hr7 HP HH
  have hrO := hrO6
  go_upto_region 6 with fail
  rw [← HW.out, ← HX0.out]
  go_cut [10, 11, 12] from 16 to 72 (fun s10 s11 s12 wc => ∃ (g : Nat) (C1 : Option Addr) (m1 e1 : Nat) (C2 : Option Addr) (m2 e2 : Nat) (C3 : Option Addr) (m3 e3 : Nat) (C4 : Option Addr) (m4 e4 : Nat) (U : Option Addr) (uc : Nat), s10 = .pointer (some ⟨g, 0, none⟩) ∧ s11 = .slice U k uc ∧ s12 = .int .i64 0 ∧ W.heap.size ≤ g ∧ Blk wc g 28 #[.slice C1 m1 e1, .slice C2 m2 e2, .slice C3 m3 e3, .slice C4 m4 e4] ∧
    StO wc W.heap.size C1 m1 e1 C2 m2 e2 C3 m3 e3 C4 m4 e4 (playS S (l.take k)) ∧ wc.ownsRow W.heap.size 38 2 (.slice U k uc) k (toldsC (playT S (l.take k))) ∧ Below W.heap.size W wc)
  case first =>
    have hb := (Below.refl W.heap.size W).drew
    obtain ⟨h0, h1, h2, h3⟩ := DS.four
    have DS := DS.drew
    obtain ⟨s0, s1, s2, s3⟩ := DS.four
    have hbz := (below_new W (.cells #[.slice none 0 0, .slice none 0 0, .slice none 0 0, .slice none 0 0] 28)).drew
    have DSz := DS.alloc (.cells #[.slice none 0 0, .slice none 0 0, .slice none 0 0, .slice none 0 0] 28)
    have DOz := (Blk.new W 28 #[.slice none 0 0, .slice none 0 0, .slice none 0 0, .slice none 0 0]).drew
    have ne1 : W.heap.size ≠ w.heap.size := by have h : w.heap.size < W.heap.size := DS.lt; omega
    go_region_held3 (fun w' => w'.cell? ⟨w.heap.size, 0, none⟩ = some (.slice A n c) ∧ w'.cell? ⟨w.heap.size, 1, none⟩ = some (.slice RA rn rc) ∧ w'.cell? ⟨w.heap.size, 2, none⟩ = some (.slice PA pn pc) ∧ w'.cell? ⟨w.heap.size, 3, none⟩ = some (.slice HA hn hc)) (go_keep)
      (first
        | (go_at_call 7; (with_reducible refine (HP6.out _ ((hR1.below hb).more hb.size) ((hrO.below hb).more hb.size) (HT.out.below hb)).mono ?_); rintro e wA ⟨hbA, C1, m1, e1, C2, m2, e2, C3, m3, e3, C4, m4, e4, U, uc, rfl, hoA, htA⟩; have DS := DS.below hbA DS.lt; obtain ⟨s0, s1, s2, s3⟩ := DS.four)
        | (go_at_call 7; (with_reducible refine (HP6.out _ ((hR1.below hbz).more hbz.size) ((hrO.below hbz).more hbz.size) (HT.out.below hbz)).mono ?_); rintro e wA ⟨hbA, C1, m1, e1, C2, m2, e2, C3, m3, e3, C4, m4, e4, U, uc, rfl, hoA, htA⟩; have DS := DSz.below hbA DSz.lt; obtain ⟨s0, s1, s2, s3⟩ := DS.four; have DO := DOz.below hbA DOz.lt; obtain ⟨x0, x1, x2, x3⟩ := DO.four; obtain ⟨f0, f1, f2, f3⟩ := DO.four_frozen))
    all_goals
      go_wp2_with fail
      go_meet
    · exact ⟨_, C1, m1, e1, C2, m2, e2, C3, m3, e3, C4, m4, e4, U, uc, rfl, rfl, rfl, hbA.size, Blk.new wA _ _, (hoA.mono hb.size).alloc _, (own_mono htA hb.size).alloc _, (hb.trans hbA).alloc (hb.trans hbA).size _⟩
    · have hq := hbz.trans (hbA.mono hbz.size)
      exact ⟨_, C1, m1, e1, C2, m2, e2, C3, m3, e3, C4, m4, e4, U, uc, rfl, rfl, rfl, Nat.le_refl _, (((DO.set_ 0 _).set_ 1 _).set_ 2 _).set_ 3 _, (hoA.mono hbz.size).store DO _ _ _ _, own_block4 (own_mono htA hbz.size) DO (by decide) _ _ _ _, below_block4 hq (Nat.le_refl _) _ _ _ _⟩
  case rest =>
    obtain ⟨g, C1, m1, e1, C2, m2, e2, C3, m3, e3, C4, m4, e4, U, uc, rfl, rfl, rfl, hg, DC, hOu, hTu, hbc⟩ := hcut
    have hb05 := below_step hb04 hbc
    have DX5 := DX.below hbc DX.lt
    have hRx5 := (hRx.below hbc).more hbc.size
    have hrx5 := (hrx.below hbc).more hbc.size
    have hR2 := hOu.reads
    have hru := Reads.of_own hTu
    have hrO := (hrO7.below hbc).more hbc.size
    have HT := Lib.hid (HT.out.below hbc)
    have HP7 := Lib.hid (HP7.out C1 m1 e1 C2 m2 e2 C3 m3 e3 C4 m4 e4 _ _ hOu)
    clear DX hRx hrx hR1 hrO6 hrO7 DS HP6 hOu hTu
    obtain ⟨V, hV⟩ : ∃ V, V = wc := ⟨_, rfl⟩
    subst hV
    go_upto_region 7 with fail
    go_cut [13, 14, 15] from 16 to 72 (fun s10 s11 s12 wc => ∃ (g : Nat) (D1 : Option Addr) (q1 y1 : Nat) (D2 : Option Addr) (q2 y2 : Nat) (D3 : Option Addr) (q3 y3 : Nat) (D4 : Option Addr) (q4 y4 : Nat) (X : Option Addr) (xc : Nat), s10 = .pointer (some ⟨g, 0, none⟩) ∧ s11 = .slice X (on - k) xc ∧ s12 = .int .i64 0 ∧ V.heap.size ≤ g ∧ Blk wc g 28 #[.slice D1 q1 y1, .slice D2 q2 y2, .slice D3 q3 y3, .slice D4 q4 y4] ∧
      StO wc V.heap.size D1 q1 y1 D2 q2 y2 D3 q3 y3 D4 q4 y4 (playS (playS S (l.take k)) (l.drop k)) ∧ wc.ownsRow V.heap.size 38 2 (.slice X (on - k) xc) (on - k) (toldsC (playT (playS S (l.take k)) (l.drop k))) ∧ Below V.heap.size V wc)
    case first =>
      have hb := (Below.refl V.heap.size V).drew
      obtain ⟨h0, h1, h2, h3⟩ := DC.four
      have DC := DC.drew
      obtain ⟨s0, s1, s2, s3⟩ := DC.four
      have hbz := (below_new V (.cells #[.slice none 0 0, .slice none 0 0, .slice none 0 0, .slice none 0 0] 28)).drew
      have DSz := DC.alloc (.cells #[.slice none 0 0, .slice none 0 0, .slice none 0 0, .slice none 0 0] 28)
      have DOz := (Blk.new V 28 #[.slice none 0 0, .slice none 0 0, .slice none 0 0, .slice none 0 0]).drew
      have ne1 : V.heap.size ≠ g := by have h : g < V.heap.size := DC.lt; omega
      go_region_held3 (fun w' => w'.cell? ⟨g, 0, none⟩ = some (.slice C1 m1 e1) ∧ w'.cell? ⟨g, 1, none⟩ = some (.slice C2 m2 e2) ∧ w'.cell? ⟨g, 2, none⟩ = some (.slice C3 m3 e3) ∧ w'.cell? ⟨g, 3, none⟩ = some (.slice C4 m4 e4)) (go_keep)
        (first
          | (go_at_call 7; (with_reducible refine (HP7.out _ ((hR2.below hb).more hb.size) ((hrO.below hb).more hb.size) (HT.out.below hb)).mono ?_); rintro e wA ⟨hbA, D1, q1, y1, D2, q2, y2, D3, q3, y3, D4, q4, y4, X, xc, rfl, hoA, htA⟩; have DC := DC.below hbA DC.lt; obtain ⟨s0, s1, s2, s3⟩ := DC.four)
          | (go_at_call 7; (with_reducible refine (HP7.out _ ((hR2.below hbz).more hbz.size) ((hrO.below hbz).more hbz.size) (HT.out.below hbz)).mono ?_); rintro e wA ⟨hbA, D1, q1, y1, D2, q2, y2, D3, q3, y3, D4, q4, y4, X, xc, rfl, hoA, htA⟩; have DC := DSz.below hbA DSz.lt; obtain ⟨s0, s1, s2, s3⟩ := DC.four; have DO := DOz.below hbA DOz.lt; obtain ⟨x0, x1, x2, x3⟩ := DO.four; obtain ⟨f0, f1, f2, f3⟩ := DO.four_frozen))
      all_goals
        go_wp2_with fail
        go_meet
      · exact ⟨_, D1, q1, y1, D2, q2, y2, D3, q3, y3, D4, q4, y4, X, xc, rfl, rfl, rfl, hbA.size, Blk.new wA _ _, (hoA.mono hb.size).alloc _, (own_mono htA hb.size).alloc _, (hb.trans hbA).alloc (hb.trans hbA).size _⟩
      · have hq := hbz.trans (hbA.mono hbz.size)
        exact ⟨_, D1, q1, y1, D2, q2, y2, D3, q3, y3, D4, q4, y4, X, xc, rfl, rfl, rfl, Nat.le_refl _, (((DO.set_ 0 _).set_ 1 _).set_ 2 _).set_ 3 _, (hoA.mono hbz.size).store DO _ _ _ _, own_block4 (own_mono htA hbz.size) DO (by decide) _ _ _ _, below_block4 hq (Nat.le_refl _) _ _ _ _⟩
    case rest =>
      obtain ⟨g2, D1, q1, y1, D2, q2, y2, D3, q3, y3, D4, q4, y4, X, xc, rfl, rfl, rfl, hg2, DD, hOv, hTv, hbd⟩ := hcut
      have hb06 := below_step hb05 hbd
      have DX6 := DX5.below hbd DX5.lt
      have hRx6 := (hRx5.below hbd).more hbd.size
      have hrx6 := (hrx5.below hbd).more hbd.size
      have hru6 := (hru.below hbd).more hbd.size
      have hRz := hOv.reads
      have hrv := Reads.of_own hTv
      rw [HSP.out.1] at hRz
      obtain ⟨t1, t2, t3, t4⟩ := hRx6.lens
      obtain ⟨u1, u2, u3, u4⟩ := hRz.lens
      obtain ⟨v1, v2, v3, v4, -⟩ := HXL.out
      obtain rfl : q1 = n1 := by omega
      obtain rfl : q2 = n2 := by omega
      obtain rfl : q3 = n3 := by omega
      obtain rfl : q4 = n4 := by omega
      have HSS := Lib.hid (fun w hR hR' => sameSt_true B1 q1 d1 B2 q2 d2 B3 q3 d3 B4 q4 d4 D1 y1 D2 y2 D3 y3 D4 y4 (playS S l) w hR hR' (by omega) (by omega) (by omega) (by omega))
      have hx0 := reads_new wc [.int .i64 0, .int .i64 0] 32 2 1 rfl
      have hbn := below_new wc (.cells #[.int .i64 0, .int .i64 0] 32)
      have HG := Lib.hid (good_of (some ⟨wc.heap.size, 0, none⟩) 2 2 _ [0, 0] true _ (by decide) (by simpa using hx0) (by decide))
      have hb07 := below_step hb06 hbn
      have hRx7 := (hRx6.below hbn).more hbn.size
      have hRz7 := (hRz.below hbn).more hbn.size
      have hrx7 := (hrx6.below hbn).more hbn.size
      have hru7 := (hru6.below hbn).more hbn.size
      have hrv7 := (hrv.below hbn).more hbn.size
      have DX7 := DX6.alloc (.cells #[.int .i64 0, .int .i64 0] 32)
      have DD7 := DD.alloc (.cells #[.int .i64 0, .int .i64 0] 32)
      have h2k : k ≤ 400 := by have := HN2.out; omega
      have h2r : (on - k) ≤ 400 := by have := HRR.out; omega
      have HCc := fun (Av : Option Addr) (w : World) hv h1 h2 => concat2_told U k uc (toldsC (playT S (l.take k))) X (on - k) xc (toldsC (playT (playS S (l.take k)) (l.drop k))) Av 2 w hv h1 h2 (toldsC_one _) (toldsC_one _) h2k h2r
      rw [HRR.out.1, HSP.out.2] at HCc
      have HCc := Lib.hid HCc
      have h9 : on ≤ 1000000000000000000 := by have := HN2.out; omega
      have HEq := Lib.hid (fun A2 c2 B B2 w r r2 => equal_told T A2 on tc c2 B B2 (playT S l) w r r2 h9)
      clear t1 t2 t3 t4 u1 u2 u3 u4 v1 v2 v3 v4 hx0 hRx6 hRz hrx6 hru6 hrv DX6 DD hOv hTv hRx5 hrx5 hR2 hru hrO DX5 DC HP7 hb05 hbc hg h9
      obtain ⟨a0, a1, a2, a3⟩ := DX7.four
      obtain ⟨z0, z1, z2, z3⟩ := DD7.four
      go_wp2_with fail
      refine HG.out.mono ?_
      rintro e w8 ⟨rfl, rfl⟩
      go_wp2_with fail
      refine (HSS.out _ hRx7 hRz7).mono ?_
      rintro e w9 ⟨rfl, hb9⟩
      have hb09 := below_step hb07 hb9
      have hvn := reads_new w9 [.slice U k uc, .slice X (on - k) xc] 31 2 1 rfl
      have hbm := below_new w9 (.cells #[.slice U k uc, .slice X (on - k) xc] 31)
      have hb10 := below_step hb09 hbm
      have hrx9 := ((hrx7.below hb9).more hb9.size |>.below hbm).more hbm.size
      have hru9 := ((hru7.below hb9).more hb9.size |>.below hbm).more hbm.size
      have hrv9 := ((hrv7.below hb9).more hb9.size |>.below hbm).more hbm.size
      clear a0 a1 a2 a3 z0 z1 z2 z3 DX7 DD7 hRx7 hRz7 hrx7 hru7 hrv7 HG HSS
      go_wp2_with fail
      refine (HCc.out _ _ (by rw [World.size_alloc]; exact hvn) hru9 hrv9).mono ?_
      rintro e w10 ⟨A', c', rfl, hOc, hb10'⟩
      have hb11 := below_step hb10 hb10'
      have hrx10 := hrx9.below hb10'
      go_wp2_with fail
      refine Calls.mono (HEq.out _ _ _ _ _ hrx10 (Reads.of_own hOc)) ?_
      rintro e w11 ⟨rfl, q, rfl⟩
      go_wp2_with fail
      go_ret
      exact ⟨by first | rfl | simp, below_drewN hb11 q⟩

set_option maxRecDepth 100000 in
set_option maxHeartbeats 4000000 in
theorem playCuts_out (A : Option Addr) (n c : Nat) (RA : Option Addr) (rn rc : Nat) (PA : Option Addr) (pn pc : Nat) (HA : Option Addr) (hn hc : Nat) (S : St) (OA : Option Addr) (on oc : Nat) (l : List OpV) (k : Int) (w : World) (hR : StR w w.heap.size A n RA rn PA pn HA hn S) (hK : StK n c rn pn hn S) (hr : Reads w w.heap.size 5 OA on (opsC l)) (hnc : on ≤ oc) (hoc : oc ≤ maxLen) (hv : ∀ o ∈ l, (Lit.int .u64 o.v).wf = true) (hT : FTab w) (hE : playE S on = 0) (h0 : ¬ (0 ≤ k ∧ k ≤ on)) :
    Calls Tryz.prog 4 #[.agg #[.slice A n c, .slice RA rn rc, .slice PA pn pc, .slice HA hn hc], .slice OA on oc, .int .i64 k] w fun e w' => e = .returned (.bool true) ∧ Below w.heap.size w w' := by
  obtain ⟨hOK, hn2⟩ := playE_zero hE
  have HP := Lib.hid (fun w hR hr hT => play_ok A n c RA rn rc PA pn pc HA hn hc S OA on oc l w hR hK hOK hn2 hr hv hT)
  have HRF := Lib.hid hr
  have HH := Lib.hid (fun w hT => plays_true w hT)
  have HT := Lib.hid hT
  have hb1 := below_new w (.cells #[.slice A n c, .slice RA rn rc, .slice PA pn pc, .slice HA hn hc] 28)
  have DS := Blk.new w 28 #[.slice A n c, .slice RA rn rc, .slice PA pn pc, .slice HA hn hc]
  clear hE hT hK hv hoc hr hOK hn2 hnc
  have h1 : k < 0 ∨ (¬ k < 0 ∧ (on : Int) < k) := by omega
  clear h0
  go_enter Tryz.func4, Tryz.ntmps4
  go_wp2_with fail
  refine (HH.out _ (HT.out.below hb1)).mono ?_
  rintro e w1 ⟨rfl, hb2⟩
  have hb02 := below_step hb1 hb2
  have DS2 := DS.below hb2 DS.lt
  obtain ⟨s0, s1, s2, s3⟩ := DS2.four
  go_wp2_with fail
  refine (HP.out _ ((hR.below hb02).more hb02.size) ((HRF.out.below hb02).more hb02.size) (HT.out.below hb02)).mono ?_
  rintro e w2 ⟨hb3, B1, n1, d1, B2, n2, d2, B3, n3, d3, B4, n4, d4, T, tc, rfl, -, -⟩
  have hb03 := (below_step hb02 hb3).alloc (below_step hb02 hb3).size (.cells #[.slice B1 n1 d1, .slice B2 n2 d2, .slice B3 n3 d3, .slice B4 n4 d4] 28)
  clear s0 s1 s2 s3
  rcases h1 with h1 | ⟨h1, h2⟩
  · have g1 : decide (k < 0) = true := decide_eq_true h1
    clear h1
    go_wp2_with fail
    go_ret
    exact ⟨by first | rfl | simp, hb03⟩
  · obtain ⟨K, rfl⟩ := Int.eq_ofNat_of_zero_le (show 0 ≤ k by omega)
    have g1 : decide ((K : Int) < 0) = false := decide_eq_false (by omega)
    have g2 : decide (on < K) = true := decide_eq_true (by omega)
    have g2' : decide ((on : Int) < (K : Int)) = true := decide_eq_true (by omega)
    clear h1 h2
    go_wp2_with fail
    go_ret
    exact ⟨by first | rfl | simp, hb03⟩

theorem playCuts_any (A : Option Addr) (n c : Nat) (RA : Option Addr) (rn rc : Nat) (PA : Option Addr) (pn pc : Nat) (HA : Option Addr) (hn hc : Nat) (S : St) (OA : Option Addr) (on oc : Nat) (l : List OpV) (k : Int) (w : World) (hR : StR w w.heap.size A n RA rn PA pn HA hn S) (hK : StK n c rn pn hn S) (hr : Reads w w.heap.size 5 OA on (opsC l)) (hnc : on ≤ oc) (hoc : oc ≤ maxLen) (hv : ∀ o ∈ l, (Lit.int .u64 o.v).wf = true) (hz : OA = none → oc = 0) (_ : (Lit.int .i64 k).wf = true) (hT : FTab w) :
    Calls Tryz.prog 4 #[.agg #[.slice A n c, .slice RA rn rc, .slice PA pn pc, .slice HA hn hc], .slice OA on oc, .int .i64 k] w fun e w' => e = .returned (.bool true) ∧ Below w.heap.size w w' := by
  by_cases hE : playE S on = 0
  · by_cases h0 : 0 ≤ k ∧ k ≤ on
    · obtain ⟨K, rfl⟩ := Int.eq_ofNat_of_zero_le h0.1
      by_cases hok : oc = K
      · obtain rfl : on = K := by omega
        subst hok
        exact playCuts_end A n c RA rn rc PA pn pc HA hn hc S OA oc l w hR hK hr hnc hoc hv hT hE
      · rcases OA with _ | ad
        · have := hz rfl
          omega
        · exact playCuts_mid A n c RA rn rc PA pn pc HA hn hc S ad on oc K l w hR hK hr hnc hoc hv hT hE (by omega) hok
    · exact playCuts_out A n c RA rn rc PA pn pc HA hn hc S OA on oc l k w hR hK hr hnc hoc hv hT hE h0
  · exact playCuts_bad A n c RA rn rc PA pn pc HA hn hc S OA on oc l k w hR hK hr hnc hoc hv hT hE

namespace PlayCuts
open Go.ChangeShapes Go.WideShapes Go.ChangeAt Go.RowKit
theorem own : ownKnob Tryz.prog.godebug = none := by kernel_rfl
theorem laidOut : laidOutB Tryz.prog = true := by kernel_rfl

set_option maxRecDepth 100000 in
theorem contract (H : Type) (enc : TypeId × Value → H) (W : World) (base : Nat) (args : Array Value) (ds gs : List (DataW H)) (before : List MemPlace)
    (hval0 : ∀ (j : Nat) t v, Tryz.f4.params[j]? = some t → args[j]? = some v → Value.okWide Tryz.prog W .any base t v)
    (hW : DataW.Whole enc Tryz.prog Tryz.f4.params.toList Rows.playCutsSpec.vars false W args.toList ds gs before) (hL : laidMetH Tryz.prog Rows.playCutsRow.laid W) :
    Calls Tryz.prog 4 args W fun e W' => ∃ v, e = .returned v ∧ Rows.playCutsSpec.post enc Tryz.prog Tryz.f4 false true false false W args v W' := by
  have hval : ∀ (j : Nat) t v, Tryz.f4.params[j]? = some t → args[j]? = some v → Value.okWide Tryz.prog W .any base t v := hval0
  have hT : FTab W := ftab_of hL
  have hW' := hW
  obtain ⟨p, q, hA0, hV, rfl, hfz, hnd⟩ := hW
  have hA : DataW.TrodAll enc Tryz.prog W 0 (fun _ => true) true Tryz.f4.params.toList args.toList ds p := hA0
  rw [Tryz.params4] at hA hval
  obtain ⟨v0, vs0, d0, ds0, p0, q0, hargs, rfl, rfl, h0, hA⟩ := trodAll_cons hA
  obtain ⟨v1, vs1, d1, ds1, p1, q1, rfl, rfl, rfl, h1, hA⟩ := trodAll_cons hA
  obtain ⟨v2, vs2, d2, ds2, p2, q2, rfl, rfl, rfl, h2, hA⟩ := trodAll_cons hA
  obtain ⟨rfl, rfl, rfl⟩ := trodAll_nil hA
  obtain rfl : args = #[v0, v1, v2] := by cases args; simp_all
  obtain ⟨A0, n0, c0, RA0, rn0, rc0, PA0, pn0, pc0, HA0, hn0, hc0, S0, rfl, hR0, hK0⟩ := open_store (hval 0 _ v0 rfl rfl) (fun x hx => hW'.lt x (by simp [hx])) h0
  obtain ⟨A1, n1, c1, l1, rfl, hnc1, hc1, hr1, hv1, hz1⟩ := open_ops (hval 1 _ v1 rfl rfl) (fun x hx => hW'.lt x (by simp [hx])) h1
  obtain ⟨i2, rfl, rfl, rfl, w2⟩ := open_int Tryz.underlying3 (hval 2 _ v2 rfl rfl) h2
  refine (playCuts_any A0 n0 c0 RA0 rn0 rc0 PA0 pn0 pc0 HA0 hn0 hc0 S0 A1 n1 c1 l1 i2 W hR0 hK0 hr1 hnc1 hc1 hv1 hz1 w2 hT).mono fun e W' ⟨he, hb⟩ => ?_
  subst he
  exact ⟨_, rfl, law_post laidOut Tryz.underlying4 rfl (by as_aux_lemma => kernel_rfl) rfl rfl hW' hb⟩

theorem laid_met (os : Os) : laidMet Tryz.prog Rows.playCutsRow.laid ((fLaidWorld os).forCall (fun _ _ => 0) ⟨#[], #[.agg #[.slice none 0 0, .slice none 0 0, .slice none 0 0, .slice none 0 0], .slice none 0 0, .int .i64 0], []⟩).memory :=
  laidMet_of_run' 8 (by as_aux_lemma => kernel_rfl) (by as_aux_lemma => kernel_rfl)
theorem reads (os : Os) {H : Type} (enc : TypeId × Value → H) : ∃ places, DataW.whole enc Tryz.prog ((fLaidWorld os).forCall (fun _ _ => 0) ⟨#[], #[.agg #[.slice none 0 0, .slice none 0 0, .slice none 0 0, .slice none 0 0], .slice none 0 0, .int .i64 0], []⟩).memory Tryz.f4.params.toList Rows.playCutsSpec.vars false #[Value.agg #[Value.slice none 0 0, Value.slice none 0 0, Value.slice none 0 0, Value.slice none 0 0], Value.slice none 0 0, Value.int .i64 0].toList 8 = some ([.agg [.nil, .nil, .nil, .nil], .nil, .lit (.int .i64 0)], [], places) :=
  ⟨[], by as_aux_lemma => kernel_rfl⟩

set_option maxRecDepth 100000 in
theorem lifted (os : Os) (started : os.Started) (H : Type) (enc : TypeId × Value → H) (F : Stop.Interp) :
    ReturnsInHanded {} Tryz.checked os 4 .any ((OpenSpec.ofChange Rows.playCutsSpec).preRow enc Tryz.prog Tryz.f4 Rows.playCutsRow.domain false Rows.playCutsRow.laid) (((OpenSpec.ofChange Rows.playCutsSpec).at F).post enc Tryz.prog Tryz.f4 false true false false) := by
  obtain ⟨places, hx⟩ := reads os enc
  refine returnsInHanded_of_row (C := Tryz.checked) (s := OpenSpec.ofChange Rows.playCutsSpec) own started (by as_aux_lemma => kernel_rfl) Tryz.func4
    (witness_row_at (enc := enc) (C := Tryz.checked) false (fLaidWorld os) #[.agg #[.slice none 0 0, .slice none 0 0, .slice none 0 0, .slice none 0 0], .slice none 0 0, .int .i64 0] rfl (by as_aux_lemma => kernel_rfl) (by as_aux_lemma => kernel_rfl) (by as_aux_lemma => kernel_rfl)
      (OpenSpec.preRow_of_cond 8 hx (by as_aux_lemma => kernel_rfl) (fun k hk => by cases hk) (by as_aux_lemma => kernel_rfl) (laid_met os))) ?_
  intro W base args ds gs before hval hW _ _ _ hL _ _
  exact contract H enc W base args ds gs before hval hW hL

set_option maxHeartbeats 10000000 in
theorem closed : joinedFacts Tryz.prog 4 Tryz.f4 Rows.playCutsSpec Rows.playCutsRow = true := by
  unfold joinedFacts
  simp only [Bool.and_eq_true]
  repeat' apply And.intro
  all_goals as_aux_lemma => kernel_rfl

set_option maxRecDepth 100000 in
set_option maxHeartbeats 1000000 in
theorem said : Rows.PlayCutsSaid :=
  OpenClaim.holds_of_cond 4 Tryz.f4 rfl rfl rfl rfl rfl rfl rfl ⟨rfl, rfl, rfl, rfl, rfl⟩ rfl rfl rfl rfl rfl (by as_aux_lemma => kernel_rfl) Tryz.func4 closed
    (of_decide_eq_true (by as_aux_lemma => kernel_rfl)) (by unfold Func.isWrapper; first | (rw [if_pos (by decide +kernel)]; kernel_rfl) | (rw [if_neg (by decide +kernel)]; exact ⟨rfl, rfl⟩))
    (fun os started H enc _ F => by rw [OpenClaim.pre_eq_preRow]; exact lifted os started H enc F)

set_option maxRecDepth 100000 in
theorem plain (f : FuncId) (fn : Func) (hf : Tryz.pinned.checked.prog.funcNamed "cairnfield/cairnfieldkeep.PlayCuts" = some f) (hfn : Tryz.pinned.checked.prog.funcs[f]? = some fn) :
    false = Tryz.pinned.checked.prog.looks [] ∧ ∀ (j : Nat) t, fn.params[j]? = some t → Tryz.pinned.checked.prog.wantsStandIn t = false := by
  obtain rfl : f = 4 := Option.some.inj ((show Tryz.prog.funcNamed "cairnfield/cairnfieldkeep.PlayCuts" = some 4 by kernel_rfl).symm.trans hf) |>.symm
  obtain rfl : fn = Tryz.f4 := (Option.some.inj (Tryz.func4.symm.trans hfn)).symm
  refine ⟨by kernel_rfl, fun j t ht => ?_⟩
  rw [Tryz.params4] at ht
  have hm := Array.mem_of_getElem? ht
  simp only [List.mem_toArray, List.mem_cons, List.not_mem_nil, or_false] at hm
  repeat' (first | (rcases hm with rfl | hm) | (subst hm))
  all_goals first | exact (show Tryz.prog.wantsStandIn 28 = false by kernel_rfl) | exact (show Tryz.prog.wantsStandIn 29 = false by kernel_rfl) | exact (show Tryz.prog.wantsStandIn 3 = false by kernel_rfl)

set_option maxRecDepth 100000 in
theorem proved : Rows.PlayCutsCardSaid :=
  Claim7.holds_tied_plain_at .later [] _ _ _ _ said (fun _ h => by cases h) (by kernel_rfl) (fun _ h => by cases h) playCuts_row_tie rfl ⟨rfl, rfl⟩ (by kernel_rfl) rfl plain (by kernel_rfl)
end PlayCuts
end Go.Proofs.YtjdpcmmmdaffdabGreatDoor
