/-
  TintBounded: however little room the stack has, the same is marked: the walk.
-/
import Derived.Test.YtbmkbnalembbjaaDoorBoundRun
import Derived.Test.YtbmkbnalembbjaaDoorTintFns
import Derived.Test.YtbmkbnalembbjaaDoorGood
import Derived.Test.YtbmkbnalembbjaaDoorSlices
namespace Go.Proofs.YtbmkbnalembbjaaDoor
open Go.RowKit

set_option maxRecDepth 100000 in
set_option maxHeartbeats 4000000 in
theorem tintBounded_walk (A : Option Addr) (n c : Nat) (a : List Int) (A2 : Option Addr) (n2 c2 : Nat) (f : List Int) (rm : Int) (w : World) (hr : Reads w w.heap.size 1 A n (a.map (.int .u64))) (hnc : n ≤ c) (ha : ∀ x ∈ a, (Lit.int .u64 x).wf = true)
    (hr2 : Reads w w.heap.size 1 A2 n2 (f.map (.int .i64))) (hn2 : n2 ≤ 1000000000000000000) (hx2 : ∀ x ∈ f, (Lit.int .i64 x).wf = true) (hT : Tab w) :
    Calls Tryd.prog 3 #[.slice A n c, .slice A2 n2 c2, .int .i64 rm] w fun e w' => e = .returned (.bool true) ∧ Below w.heap.size w w' := by
  by_cases hE : checkE a = 0
  · have h0 := (checkE_ok.1 hE).1
    have hal : a.length = n := by have := hr.1; simpa using this
    have hn : n ≤ 256 := by have := (parse_ok h0).1; omega
    have HMk := Lib.hid (fun w rm hr hr2 => tmark_ok A n c a A2 n2 c2 f rm w hr hnc ha hr2 hn2 hx2 hE)
    have HRe := Lib.hid (fun w hr hr2 => reach_ok A n c a A2 n2 c2 f w hr hnc ha hr2 hn2 hx2 hE)
    have HWo := Lib.hid (fun L w hr hr2 hL => twords_ok A n c a A2 n2 c2 f L w hr hnc ha hr2 hn2 hx2 hE hL)
    have HBg := Lib.hid (fun w hr => begins_any A n c a w hr ha)
    have H0 := Lib.hid h0
    have HAl := Lib.hid hal
    have HT := Lib.hid hT
    clear hE h0 ha hx2 hal hT
    go_enter Tryd.func3, Tryd.ntmps3
    go_wp2_with fail
    refine (tints_true _).mono ?_
    rintro e w1 ⟨rfl, hb1⟩
    go_wp2_with fail
    refine (HMk.out _ rm ((hr.below hb1).more hb1.size) ((hr2.below hb1).more hb1.size)).mono ?_
    rintro e w2 ⟨hb2, hcs⟩
    have hb02 := below_step hb1 hb2
    rcases hcs with ⟨x, hx, -, rfl⟩ | ⟨hall, room, rfl, hr1, hr3, L, st, Am, cm, m, hL, hok, hM, hMs, hu, hml, rfl, hown⟩
    · have hb3 := below_step hb02 (below_new w2 (.cells #[.slice none 0 0, .int .i64 0, .int .i64 0] 26))
      have e1 : (x != 0) = true := by simpa using hx
      clear hx
      go_wp2
      go_ret
      exact ⟨by first | rfl | simp, hb3⟩
    · obtain ⟨nm, hnm⟩ : ∃ nm, nm = (n + 63) / 64 := ⟨_, rfl⟩
      have hnm2 : nm ≤ 256 := by omega
      rw [← hnm] at hml hown ⊢
      obtain ⟨ps, hps⟩ : ∃ ps, ps = st.passes := ⟨_, rfl⟩
      obtain ⟨dp, hdp⟩ : ∃ dp, dp = st.deep := ⟨_, rfl⟩
      rw [← hps, ← hdp]
      obtain ⟨k, hk⟩ : ∃ k, k = L.length := ⟨_, rfl⟩
      have hk256 : k ≤ 256 := by rw [hk]; exact nodup_bound 256 L hL.once (fun x hx => begsL_bounds H0.out x (hL.begs x hx))
      have hpk : ps ≤ k := by have := hok.past; have := hok.marked; omega
      have hdr : dp ≤ room := by have := hok.deep; omega
      have hMb : ∀ x ∈ st.M, x ∈ begsL (spotsL a) := fun x hx => hL.begs x (hok.sub x hx)
      have hchk := marks_chk H0.out HAl.out hn hnm hml hu hMs hMb
      have hC0 : mstE m n ((0 : Nat) : Int) n = 0 := mstE_of hchk (by omega)
      have hCn : cntV m n ((0 : Nat) : Int) n = (cnt m 0 n : Int) := by unfold cntV; rw [if_pos hC0, Int.toNat_natCast, Int.toNat_natCast]
      have hW := marks_words H0.out hL hM hMs
      rw [HAl.out] at hW
      obtain ⟨X, hX⟩ : ∃ X, X = cnt m 0 n := ⟨_, rfl⟩
      rw [← hX] at hCn hW
      have hD := Blk.new w2 26 #[.slice Am nm cm, .int .i64 ps, .int .i64 dp]
      have hb3 := below_new w2 (.cells #[.slice Am nm cm, .int .i64 ps, .int .i64 dp] 26)
      have hb03 := below_step hb02 hb3
      have hown := own_below hown hb3
      have HL := Lib.hid hL
      have HHas := Lib.hid (fun k hk => mstE_has (k := k) H0.out HAl.out hn hnm hml hu hMs hMb hk)
      have HM := Lib.hid hM
      have HMs := Lib.hid hMs
      have HU := Lib.hid hu
      have HMl := Lib.hid hml
      have HNm := Lib.hid hnm
      have HK := Lib.hid hk
      have HAll := Lib.hid hall
      have HX := Lib.hid hX
      have hbw := below_step hb02 hb3
      clear hL hok hM hMs hu hml hnm hps hdp hMb hchk hall hk hX hb1 hb2 hb3
      go_wp2_with fail
      refine (HRe.out _ ((hr.below hb03).more hb03.size) ((hr2.below hb03).more hb03.size)).mono ?_
      rintro e w4 ⟨hb4, hcs⟩
      obtain ⟨L', A4, c4, hL', rfl, hown4⟩ := hcs.resolve_right (fun h => by
        obtain ⟨⟨x, hx, hx2⟩, -⟩ := h
        exact hx2 (HAll.out x hx))
      obtain rfl : L = L' := HL.out.unique hL'
      rw [← HK.out] at hown4 ⊢
      have hb04 := below_step hb03 hb4
      have hD := hD.below hb4 hD.lt
      have hown := own_below hown hb4
      clear hcs hL' hb4
      go_wp2_with fail
      refine (HWo.out L _ ((hr.below hb04).more hb04.size) ((hr2.below hb04).more hb04.size) HL.out).mono ?_
      rintro e w5 ⟨hb5, rfl⟩
      rw [← hW]
      have hb05 := below_step hb04 hb5
      have hD := hD.below hb5 hD.lt
      have hown := own_below hown hb5
      have hown4 := own_below hown4 hb5
      have d0 := hD.cell 0
      simp only [List.getElem?_toArray, List.getElem?_cons_zero, List.getElem?_cons_succ] at d0
      have HCt := mCount_any Am nm cm _ m n ((0 : Nat) : Int) n w5 (Reads.of_own hown) (by omega) HU.out (HT.out.below hb05)
      rw [hC0, hCn] at HCt
      have HCt := Lib.hid HCt
      clear hb5 hC0 hCn
      go_wp2_with fail
      refine HCt.out.mono ?_
      rintro e w6 ⟨rfl, rfl⟩
      go_wp2_with fail
      refine (HMk.out _ 256 ((hr.below hb05).more hb05.size) ((hr2.below hb05).more hb05.size)).mono ?_
      rintro e w7 ⟨hb7, hcs⟩
      obtain ⟨L2, st2, Am2, cm2, m2, hL2, hok2, hM2, hMs2, hu2, hml2, rfl, hown7⟩ : Marked w6 w7 n a f 256 e := by
        rcases hcs with ⟨x, hx, hno, rfl⟩ | ⟨-, r2, h1, -, -, h2⟩
        · exact absurd ⟨HAll.out, by decide, by decide⟩ hno
        · obtain rfl : 256 = r2 := by omega
          exact h2
      obtain rfl : L = L2 := HL.out.unique hL2
      rw [← HNm.out] at hown7 hml2 ⊢
      obtain ⟨dp2, hdp2⟩ : ∃ dp2, dp2 = st2.deep := ⟨_, rfl⟩
      rw [(hok2.wide (by rw [← HK.out]; omega)).2, ← hdp2]
      have HSm : Hid (m = m2) := HMs.out.unique hMs2 (fun x => (HM.out x).trans (hM2 x).symm) HU.out hu2 (HMl.out.trans hml2.symm)
      have hb07 := below_step hb05 hb7
      have hD2 := Blk.new w7 26 #[.slice Am2 nm cm2, .int .i64 ((0 : Nat) : Int), .int .i64 dp2]
      have hb8 := below_new w7 (.cells #[.slice Am2 nm cm2, .int .i64 ((0 : Nat) : Int), .int .i64 dp2] 26)
      have hb78 := below_step hb7 hb8
      have hb08 := below_step hb07 hb8
      have hD := hD.below hb78 hD.lt
      have hown := own_below hown hb78
      have hown4 := own_below hown4 hb78
      have hown7 := own_below hown7 hb8
      rw [← HSm.out] at hown7
      clear hcs hL2 hok2 hM2 hMs2 hu2 hml2 hb7 hb8 hb78 hb07 hdp2 d0
      go_wp2_with fail
      refine (HBg.out _ ((hr.below hb08).more hb08.size)).mono ?_
      rintro e w9 ⟨hb9, A9, c9, rfl, hown9⟩
      have hb09 := below_step hb08 hb9
      have hD := hD.below hb9 hD.lt
      have hD2 := hD2.below hb9 hD2.lt
      have hown := own_below hown hb9
      have hown4 := own_below hown4 hb9
      have hown7 := own_below hown7 hb9
      obtain ⟨kb, hkb⟩ : ∃ kb, kb = (begsL (spotsL a)).length := ⟨_, rfl⟩
      rw [← hkb] at hown9 ⊢
      have hkb2 : kb ≤ 256 := by rw [hkb]; exact nodup_bound 256 _ ((begs_sorted H0.out).imp (fun h => Int.ne_of_lt h)) (fun x hx => begsL_bounds H0.out x hx)
      have d0 := hD.cell 0
      have d1 := hD.cell 1
      have d2 := hD.cell 2
      have x0 := hD2.cell 0
      have x1 := hD2.cell 1
      simp only [List.getElem?_toArray, List.getElem?_cons_zero, List.getElem?_cons_succ] at d0 d1 d2 x0 x1
      have hr9 := Reads.of_own hown9
      have hr4 := Reads.of_own hown4
      have hrm := Reads.of_own hown
      have hrm2 := Reads.of_own hown7
      clear hkb hown9 hown4 hown hown7 hb9 hb08 hb05 hb04 hb03 hb02 hbw
      go_wp2
      go_loopw [18, 72] (fun _ i wr => ∃ (j : Nat), j ≤ kb ∧ i = .int .i64 j ∧ wr = w9) (fun _ i _ => kb - (intOf i).toNat)
      case atStart => exact ⟨0, Nat.zero_le _, rfl, rfl⟩
      case round =>
        obtain ⟨j, hj, rfl, rfl⟩ := hrel
        by_cases hlt : j < kb
        · obtain ⟨ad, x, rfl, had, hx, cx⟩ := hr9.num hlt
          have hxb := List.mem_of_getElem? hx
          have hxx := begsL_bounds H0.out x hxb
          obtain ⟨q, rfl⟩ := Int.eq_ofNat_of_zero_le hxx.1
          obtain ⟨z1, z2⟩ := HHas.out q hxb
          have HH := mHas_any Am nm cm _ m n q wr hrm (by omega) HU.out
          have hmm : decide ((q : Int) ∈ st.M) = decide ((q : Int) ∈ L) := decide_eq_decide.2 (HM.out _)
          rw [z1, z2, hmm] at HH
          have HC := contains_int A4 k c4 _ L q (decide ((q : Int) ∈ L)) wr hr4 (by omega) rfl
          generalize decide ((q : Int) ∈ L) = v at *
          have HH := Lib.hid HH
          have HC := Lib.hid HC
          have hj1 : j + 1 ≤ kb := hlt
          clear hx hxb hxx z1 z2 hmm
          go_wp2_with fail
          refine HH.out.mono ?_
          rintro e w10 ⟨rfl, rfl⟩
          go_wp2_with fail
          refine HC.out.mono ?_
          rintro e w11 ⟨rfl, rfl⟩
          cases v
          · go_wp2
            go_roundw
            case rel => exact ⟨j + 1, hj1, by go_num, by first | rfl | trivial⟩
            case measure => simp [intOf]; omega
          · go_wp2
            go_roundw
            case rel => exact ⟨j + 1, hj1, by go_num, by first | rfl | trivial⟩
            case measure => simp [intOf]; omega
        · have g0 : decide (j < kb) = false := decide_eq_false hlt
          have hx4 := reads_new wr [.int .i64 0, .int .i64 0, .int .i64 0, .int .i64 0] 27 4 1 rfl
          have hbe := below_new wr (.cells #[.int .i64 0, .int .i64 0, .int .i64 0, .int .i64 0] 27)
          have HG := Lib.hid (good_of (some ⟨wr.heap.size, 0, none⟩) 4 4 _ [0, 0, 0, 0] true _ (by decide) (by simpa using hx4) (by decide))
          have HEq := Lib.hid (equal_u64 Am Am2 nm cm nm cm2 _ _ m m _ (hrm.below hbe) (hrm2.below hbe) (by omega) (by omega))
          have hb10 := below_step hb09 hbe
          have hDz := hD.below hbe hD.lt
          have hD2z := hD2.below hbe hD2.lt
          have d0 := hDz.cell 0
          have d1 := hDz.cell 1
          have d2 := hDz.cell 2
          have x0 := hD2z.cell 0
          have x1 := hD2z.cell 1
          simp only [List.getElem?_toArray, List.getElem?_cons_zero, List.getElem?_cons_succ] at d0 d1 d2 x0 x1
          clear hx4 hbe hD hD2
          go_wp2_with fail
          refine HG.out.mono ?_
          rintro e w10 ⟨rfl, rfl⟩
          go_wp2_with fail
          refine HEq.out.mono ?_
          rintro e w11 ⟨rfl, q, rfl⟩
          go_wp2_with fail
          go_ret
          exact ⟨by first | rfl | simp, below_drewN hb10 q⟩
  · have HB := Lib.hid (fun w hr => tmark_bad A n c a A2 n2 c2 rm w hr hnc ha hE)
    have e1 : (checkE a != 0) = true := by simpa using hE
    generalize checkE a = E at *
    clear hE ha hx2 hT
    go_enter Tryd.func3, Tryd.ntmps3
    go_wp2_with fail
    refine (tints_true _).mono ?_
    rintro e w1 ⟨rfl, hb1⟩
    go_wp2_with fail
    refine (HB.out _ ((hr.below hb1).more hb1.size)).mono ?_
    rintro e w2 ⟨rfl, hb2⟩
    have hb02 := below_step hb1 hb2
    have hb3 := below_step hb02 (below_new w2 (.cells #[.slice none 0 0, .int .i64 0, .int .i64 0] 26))
    go_wp2
    go_ret
    exact ⟨by first | rfl | simp, hb3⟩
end Go.Proofs.YtbmkbnalembbjaaDoor
