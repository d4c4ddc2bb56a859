/-
  StepAll answers true for all arenas and lists, and changes no argument: without writes, incremental marking leaves exactly the unreachable objects unmarked.
-/
import Derived.Test.YtgkoaambdejkdaaG3
import Derived.Test.YtgkoaambdejkdaaG4
import Derived.Test.YtgkoaambdejkdaaG10
import Derived.Test.YtgkoaambdejkdaaG12
namespace Go.Proofs.Ytgkoaambdejkdaa
open Go.RowKit

theorem whiteL_mem {a b : List Int} {x : Int} : x ∈ whiteL a b ↔ x ∈ begsL (spotsL a) ∧ x ∉ b := by
  unfold whiteL
  rw [List.mem_filter]
  simp
theorem begs_len256 (a : List Int) : (begsL (spotsL a)).length ≤ 256 := by
  unfold begsL
  rw [List.length_map]
  have := List.length_filter_le (fun s : Spot => !s.f) (spotsL a)
  have := spotsL_length a
  omega

set_option maxRecDepth 100000 in
set_option maxHeartbeats 4000000 in
theorem stepAll_any (A : Option Addr) (n c : Nat) (a : List Int) (A2 : Option Addr) (n2 c2 : Nat) (f : List Int) (w : World) (hr : Reads w w.heap.size 1 A n (a.map (.int .u64))) (hnc : n ≤ c) (hc : c ≤ maxLen) (ha : ∀ x ∈ a, (Lit.int .u64 x).wf = true)
    (hr2 : Reads w w.heap.size 1 A2 n2 (f.map (.int .i64))) (hnc2 : n2 ≤ c2) (hc2 : c2 ≤ maxLen) (hx2 : ∀ x ∈ f, (Lit.int .i64 x).wf = true) (hm1 : n2 * 8 ≤ 140737488351232) :
    Calls Try.prog 4 #[.slice A n c, .slice A2 n2 c2] w fun e w' => e = .returned (.bool true) ∧ Below w.heap.size w w' := by
  clear hc hnc2 hc2
  by_cases hE : checkE a = 0
  · have H1 := Lib.hid (fun w hr hr2 => stepStart_ok A n c a A2 n2 c2 f w hr hnc ha hr2 (by omega) hx2 hE)
    have HRe := Lib.hid (fun w hr hr2 => reach_ok A n c a A2 n2 c2 f w hr hnc ha hr2 (by omega) hx2 hE)
    have HBg := Lib.hid (fun w hr => begins_any A n c a w hr ha)
    have hal : a.length = n := by have := hr.1; simpa using this
    have hn256 : n ≤ 256 := by have := (parse_ok (checkE_ok.1 hE).1).1; omega
    have HEq := Lib.hid (fun w A1 c1 r1 r2 => equal_u64 A1 A n c1 n c w.heap.size w.heap.size a a w r1 r2 (by omega) (by omega))
    rw [decide_eq_true rfl] at HEq
    have HE := Lib.hid hE
    have HBL := Lib.hid (begs_len256 a)
    clear hal hx2
    go_enter Try.func4, Try.ntmps4
    go_wp2_with fail
    refine (threes_true _).mono ?_
    rintro e w1 ⟨rfl, hb1⟩
    go_wp2_with fail
    refine (H1.out _ ((hr.below hb1).more hb1.size) ((hr2.below hb1).more hb1.size)).mono ?_
    rintro e w2 ⟨hb2, ⟨hall, A3, c3, G, gc, rfl, hO⟩ | ⟨-, rfl⟩⟩
    · have hw21 := (below_step hb1 hb2).size
      have hst := start_tri HE.out hall
      have hb02 := (below_step hb1 hb2).alloc (below_step hb1 hb2).size (.cells #[.slice A3 n c3, .slice G (onceL f).length gc, .slice none 0 0] 25)
      have HSt := Lib.hid (steps_any A3 n c3 G (onceL f).length gc none 0 0 a (onceL f) [] _ (hO.alloc (.cells #[.slice A3 n c3, .slice G (onceL f).length gc, .slice none 0 0] 25)).reads hst.1
        (fun g b => From a g b f ∧ Least a g b f) hst.2 (fun x g b hT h => ⟨h.1.step hT, h.2.step hT⟩))
      have DS := Blk.new w2 25 #[.slice A3 n c3, .slice G (onceL f).length gc, .slice none 0 0]
      obtain ⟨s0, s1, s2⟩ := DS.three
      have HALL := Lib.hid hall
      generalize (onceL f).length = ol at *
      clear hst hO hall hb2
      go_wp2_with fail
      refine HSt.out.mono ?_
      rintro e w3 ⟨hb3, B1, d1, B2, d2, B3, d3, N, bF, rfl, hO3, hTF, hI, hN⟩
      have hb03 := below_step hb02 hb3
      have DS3 := DS.below hb3 DS.lt
      have f0 := DS3.frozen 0
      have f1 := DS3.frozen 1
      have f2 := DS3.frozen 2
      obtain ⟨s0, s1, s2⟩ := DS3.three
      have hReach := reached_black hTF hI.1 hI.2
      generalize hkF : bF.length = kF at *
      simp only [List.length_nil, Nat.add_zero] at hN
      subst hN
      have HKF := Lib.hid hkF
      have DS4 := DS3.store3 (.slice B1 n d1) (.slice B2 0 d2) (.slice B3 N d3)
      have hO4 := (hO3.store DS3 (by decide) (by decide) (.slice B1 n d1) (.slice B2 0 d2) (.slice B3 N d3)).mono (base := w.heap.size) hb02.size
      have hb04 := below_block3 (g := w2.heap.size) hb03 hw21 (.slice B1 n d1) (.slice B2 0 d2) (.slice B3 N d3)
      obtain ⟨W4, hW4⟩ : ∃ W4, W4 = (((w3.setCell ⟨w2.heap.size, 0, none⟩ (.slice B1 n d1)).setCell ⟨w2.heap.size, 1, none⟩ (.slice B2 0 d2)).setCell ⟨w2.heap.size, 2, none⟩ (.slice B3 N d3)) := ⟨_, rfl⟩
      obtain ⟨t0, t1, t2⟩ := DS4.three
      rw [← hW4] at DS4 hO4 hb04
      have HW4 := Lib.hid hW4
      have HR4 := Lib.hid hO4.reads
      have HDo := Lib.hid (stepDone_ok B1 n d1 B2 0 d2 B3 N d3 a bF W4 HR4.out.ra HR4.out.nc HR4.out.aw HR4.out.rg HR4.out.rb HR4.out.bw hTF)
      have HRch := Lib.hid hReach
      have HN256 : Hid (N ≤ 256) := by have := hTF.lens.1; show _ ≤ _; omega
      clear hO3 hTF hI hkF hb03 hb3 DS3 hO4 hReach hW4
      go_wp2_with fail
      rw [← HW4.out]
      refine HDo.out.mono ?_
      rintro e w5 ⟨hb5, A6, c6, rfl, hown6⟩
      have hb05 := below_step hb04 hb5
      have DS5 := DS4.below hb5 DS4.lt
      have HR5 := Lib.hid ((HR4.out.below hb5).more hb5.size)
      have HRe := Lib.hid (HRe.out w5 ((hr.below hb05).more hb05.size) ((hr2.below hb05).more hb05.size))
      have HWr := Lib.hid (Reads.of_own hown6)
      clear hb5 hown6
      go_wp2_with fail
      refine HRe.out.mono ?_
      rintro e w6 ⟨hb6, ⟨L, A7, c7, hL, rfl, hown7⟩ | ⟨⟨x, hx, hn⟩, -⟩⟩
      · have hLF : L = bF := hL.unique HRch.out
        subst hLF
        rw [HKF.out] at hown7 ⊢
        have hb06 := below_step hb05 hb6
        have DS6 := (DS5.below hb6 DS5.lt).alloc (.cells #[.int .i64 0, .int .i64 0] 27)
        obtain ⟨t0, t1, t2⟩ := DS6.three
        have hbx := below_step hb6 (below_new w6 (.cells #[.int .i64 0, .int .i64 0] 27))
        have hb07 := below_step hb05 hbx
        have hx := reads_new w6 [.int .i64 0, .int .i64 0] 27 2 1 rfl
        have HX := Lib.hid (good_of (some ⟨w6.heap.size, 0, none⟩) 2 2 _ [0, 0] true _ (by decide) (by simpa using hx) (by decide))
        have HR7 := Lib.hid ((HR5.out.below hbx).more hbx.size)
        have HEq := Lib.hid (HEq.out _ B1 d1 ((HR7.out.ra)) ((hr.below hb07).more hb07.size))
        have hLn : N ≤ 1000 := by have := HN256.out; omega
        have HWm : Hid (∀ x ∈ begsL (spotsL a), decide (x ∈ whiteL a L) = !decide (x ∈ L)) := fun x hx => by
          have := whiteL_mem (a := a) (b := L) (x := x)
          by_cases h : x ∈ L
          · rw [decide_eq_true h, decide_eq_false (fun h2 => (this.1 h2).2 h)]; rfl
          · rw [decide_eq_false h, decide_eq_true (this.2 ⟨hx, h⟩)]; rfl
        have hwl : (whiteL a L).length ≤ 256 := Nat.le_trans (List.length_filter_le _ _) HBL.out
        have hrL := Reads.of_own hown7
        have hrW := (HWr.out.below hb6).more hb6.size
        generalize whiteL a L = W at *
        generalize hwn : W.length = wn at *
        have HWN := Lib.hid hwn
        clear hx hown7 hb6 hb06 hL hwn
        go_wp2_with (first
          | (go_at_call 18; refine HX.out.mono ?_; rintro e w' ⟨rfl, rfl⟩)
          | (go_at_call 19; refine HEq.out.mono ?_; rintro e w8 ⟨rfl, q, rfl⟩)
          | fail)
        have hb08 := below_drewN hb07 q
        have hbq := below_drewN hbx q
        have HB9 := Lib.hid (HBg.out _ ((hr.below hb08).more hb08.size))
        have hrL8 := (hrL.below (below_new w6 (.cells #[.int .i64 0, .int .i64 0] 27))).below (below_drewN (Below.refl _ _) q)
        have hrW8 := (hrW.below (below_new w6 (.cells #[.int .i64 0, .int .i64 0] 27))).below (below_drewN (Below.refl _ _) q)
        clear hrL hrW hbx hbq hb07 HX HEq
        go_wp2_with fail
        refine HB9.out.mono ?_
        rintro e w9 ⟨hb9, A9, c9, rfl, hown9⟩
        have hb09 := below_step hb08 hb9
        have hrL9 := (hrL8.below (hb9.mono (by simp))).more (show w6.heap.size ≤ w9.heap.size by have := hb9.size; simp at this; omega)
        have hrW9 := (hrW8.below (hb9.mono (by simp))).more (show w6.heap.size ≤ w9.heap.size by have := hb9.size; simp at this; omega)
        have hrB := Reads.of_own hown9
        have hbl := HBL.out
        generalize hbg : begsL (spotsL a) = BG at *
        generalize hm : BG.length = m at *
        clear hb9 hown9 hm hrL8 hrW8 hb08 hbg
        go_wp2
        go_loopw [14, 71] (fun _ i wr => ∃ j : Nat, j ≤ m ∧ i = .int .i64 j ∧ Below w9.heap.size w9 wr) (fun _ i _ => m - (intOf i).toNat)
        case atStart => exact ⟨0, Nat.zero_le _, rfl, Below.refl _ _⟩
        case round =>
          obtain ⟨j, hj, rfl, hb⟩ := hrel
          by_cases hlt : j < m
          · obtain ⟨ad, x, rfl, had, hx, cx⟩ := (hrB.below hb).num hlt
            have hxw := HWm.out x (List.mem_of_getElem? hx)
            have hj1 : j + 1 ≤ m := hlt
            clear hx
            cases hxL : decide (x ∈ L)
            · rw [hxL] at hxw
              have C1 := Lib.hid (contains_int A6 wn c6 _ W x true wr (hrW9.below hb) (by omega) hxw)
              have C2 := Lib.hid (contains_int A7 N c7 _ L x false wr (hrL9.below hb) (by omega) hxL)
              clear hxw hxL
              go_wp2_with (go_at_call 20; (first | (with_reducible refine C1.out.mono ?_) | (with_reducible refine C2.out.mono ?_)); rintro e w' ⟨rfl, rfl⟩)
              go_roundw
              case rel => exact ⟨j + 1, hj1, by go_num, hb⟩
              case measure => simp [intOf]; omega
            · rw [hxL] at hxw
              have C1 := Lib.hid (contains_int A6 wn c6 _ W x false wr (hrW9.below hb) (by omega) hxw)
              have C2 := Lib.hid (contains_int A7 N c7 _ L x true wr (hrL9.below hb) (by omega) hxL)
              clear hxw hxL
              go_wp2_with (go_at_call 20; (first | (with_reducible refine C1.out.mono ?_) | (with_reducible refine C2.out.mono ?_)); rintro e w' ⟨rfl, rfl⟩)
              go_roundw
              case rel => exact ⟨j + 1, hj1, by go_num, hb⟩
              case measure => simp [intOf]; omega
          · have g0 : decide (j < m) = false := decide_eq_false hlt
            go_wp2
            go_ret
            exact ⟨by first | rfl | simp, below_step hb09 hb⟩
      · exact absurd (HALL.out x hx) hn
    · have hbx := (below_step hb1 hb2).alloc (below_step hb1 hb2).size (.cells #[.slice none 0 0, .slice none 0 0, .slice none 0 0] 25)
      have k0 := (Blk.new w2 25 #[.slice none 0 0, .slice none 0 0, .slice none 0 0]).three.1
      go_wp2
      go_ret
      exact ⟨by first | rfl | simp, hbx⟩
  · have H1 := Lib.hid (fun w hr => stepStart_bad A n c a A2 n2 c2 w hr hnc ha hE)
    clear hE
    go_enter Try.func4, Try.ntmps4
    go_wp2_with fail
    refine (threes_true _).mono ?_
    rintro e w1 ⟨rfl, hb1⟩
    go_wp2_with fail
    refine (H1.out _ ((hr.below hb1).more hb1.size)).mono ?_
    rintro e w2 ⟨hb2, E, hE, rfl⟩
    have hE1 : (E != 0) = true := by simpa using hE
    have hbx := (below_step hb1 hb2).alloc (below_step hb1 hb2).size (.cells #[.slice none 0 0, .slice none 0 0, .slice none 0 0] 25)
    have k0 := (Blk.new w2 25 #[.slice none 0 0, .slice none 0 0, .slice none 0 0]).three.1
    clear hE
    go_wp2
    go_ret
    exact ⟨by first | rfl | simp, hbx⟩

namespace StepAll
open Go.ChangeShapes Go.WideShapes Go.ChangeAt Go.RowKit
theorem own : ownKnob Try.prog.godebug = none := by kernel_rfl
theorem laidOut : laidOutB Try.prog = true := by kernel_rfl

set_option maxRecDepth 100000 in
theorem lifted (os : Os) (started : os.Started) (H : Type) (enc : TypeId × Value → H) :
    ReturnsInHanded {} Try.checked os 4 .any (Rows.stepAllSpec.pre6 enc Try.prog Try.f4 Rows.stepAllRow.domain false) (Rows.stepAllSpec.post enc Try.prog Try.f4 false true false false) := by
  refine returnsInHanded_of_change_sized (C := Try.checked) own started (by as_aux_lemma => kernel_rfl) Try.func4
    (ChangeSpec.witness6 (enc := enc) (C := Try.checked) false ⟨#[], #[.slice none 0 0, .slice none 0 0], []⟩ 8 (by as_aux_lemma => kernel_rfl) (by as_aux_lemma => kernel_rfl) (by as_aux_lemma => kernel_rfl) (by as_aux_lemma => kernel_rfl)) ?_
  intro W base args ds gs before hval0 hW hcnd hsz _
  have hval : ∀ (j : Nat) t v, Try.f4.params[j]? = some t → args[j]? = some v → Value.okWide Try.prog W .any base t v := hval0
  have hW' := hW
  obtain ⟨p, q, hA0, hV, rfl, hfz, hnd⟩ := hW
  have hA : DataW.TrodAll enc Try.prog W 0 (fun _ => true) true Try.f4.params.toList args.toList ds p := hA0
  rw [Try.params4] at hA hval
  obtain ⟨v0, vs0, d0, ds0, p0, q0, hargs, rfl, rfl, h0, hA⟩ := trodAll_cons hA
  obtain ⟨v1, vs1, d1, ds1, p1, q1, rfl, rfl, rfl, h1, hA⟩ := trodAll_cons hA
  obtain ⟨rfl, rfl, rfl⟩ := trodAll_nil hA
  obtain rfl : args = #[v0, v1] := by cases args; simp_all
  obtain ⟨A0, n0, c0, xs0, rfl, hnc0, hc0, hr0, hx0⟩ := open_nums Try.underlying22 Try.underlying43 (by as_aux_lemma => kernel_rfl) (hval 0 _ v0 rfl rfl) (fun x hx => hW'.lt x (by simp [hx])) h0
  obtain ⟨A1, n1, c1, xs1, rfl, hnc1, hc1, hr1, hx1, hd1⟩ := open_nums2 Try.underlying23 Try.underlying3 (by as_aux_lemma => kernel_rfl) (hval 1 _ v1 rfl rfl) (fun x hx => hW'.lt x (by simp [hx])) h1
  have hm1 : n1 * 8 ≤ 140737488351232 := by
    rcases hd1 with h0 | ⟨D, E, rfl, hD⟩
    · omega
    · have h5 : (D.length + E.length) * Try.prog.bytesOf 3 ≤ reachBytes := sized_slice hsz (j := 1) (t := 23) (e := 3) rfl rfl Try.underlying23
      rw [k_int_bytes, hD] at h5
      simp only [reachBytes] at h5
      omega
  refine (stepAll_any A0 n0 c0 xs0 A1 n1 c1 xs1 W hr0 hnc0 hc0 hx0 hr1 hnc1 hc1 hx1 hm1).mono fun e W' ⟨he, hb⟩ => ?_
  subst he
  exact ⟨_, rfl, law_post laidOut Try.underlying4 rfl (by as_aux_lemma => kernel_rfl) rfl rfl hW' hb⟩

set_option maxHeartbeats 10000000 in
theorem closed : joinedFacts Try.prog 4 Try.f4 Rows.stepAllSpec Rows.stepAllRow = true := by
  unfold joinedFacts
  simp only [Bool.and_eq_true]
  repeat' apply And.intro
  all_goals as_aux_lemma => kernel_rfl

set_option maxHeartbeats 1000000 in
theorem proved : Rows.StepAllSaid :=
  OpenClaim.holds_of_wide 4 Try.f4 rfl rfl rfl rfl rfl rfl rfl ⟨rfl, rfl, rfl, rfl, rfl⟩ rfl rfl rfl rfl rfl (by as_aux_lemma => kernel_rfl) Try.func4 closed
    (of_decide_eq_true (by as_aux_lemma => kernel_rfl)) (by unfold Func.isWrapper; first | (rw [if_pos (by decide +kernel)]; kernel_rfl) | (rw [if_neg (by decide +kernel)]; exact ⟨rfl, rfl⟩))
    (fun os started H enc _ => lifted os started H enc)
end StepAll
end Go.Proofs.Ytgkoaambdejkdaa
