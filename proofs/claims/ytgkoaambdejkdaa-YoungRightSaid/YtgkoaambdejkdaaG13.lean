/-
  Texts joined: StepAll StepWrite LawRows.
-/
import Derived.Deep.Matrix
import Derived.Test.YtgkoaambdejkdaaG3
import Derived.Test.YtgkoaambdejkdaaG4
import Derived.Test.YtgkoaambdejkdaaG10
import Derived.Test.YtgkoaambdejkdaaG12
namespace Go.Proofs.Ytgkoaambdejkdaa
open Go.RowKit
theorem whiteL_mem {a b : List Int} {x : Int} : x ∈ whiteL a b ↔ x ∈ begsL (spotsL a) ∧ x ∉ b := by
  unfold whiteL
  rw [List.mem_filter]
  simp
theorem begs_len256 (a : List Int) : (begsL (spotsL a)).length ≤ 256 := by
  unfold begsL
  rw [List.length_map]
  have := List.length_filter_le (fun s : Spot => !s.f) (spotsL a)
  have := spotsL_length a
  omega
set_option maxRecDepth 100000 in
set_option maxHeartbeats 4000000 in
theorem stepAll_any (A : Option Addr) (n c : Nat) (a : List Int) (A2 : Option Addr) (n2 c2 : Nat) (f : List Int) (w : World) (hr : Reads w w.heap.size 1 A n (a.map (.int .u64))) (hnc : n ≤ c) (hc : c ≤ maxLen) (ha : ∀ x ∈ a, (Lit.int .u64 x).wf = true)
    (hr2 : Reads w w.heap.size 1 A2 n2 (f.map (.int .i64))) (hnc2 : n2 ≤ c2) (hc2 : c2 ≤ maxLen) (hx2 : ∀ x ∈ f, (Lit.int .i64 x).wf = true) (hm1 : n2 * 8 ≤ 140737488351232) :
    Calls Try.prog 4 #[.slice A n c, .slice A2 n2 c2] w fun e w' => e = .returned (.bool true) ∧ Below w.heap.size w w' := by
  clear hc hnc2 hc2
  by_cases hE : checkE a = 0
  · have H1 := Lib.hid (fun w hr hr2 => stepStart_ok A n c a A2 n2 c2 f w hr hnc ha hr2 (by omega) hx2 hE)
    have HRe := Lib.hid (fun w hr hr2 => reach_ok A n c a A2 n2 c2 f w hr hnc ha hr2 (by omega) hx2 hE)
    have HBg := Lib.hid (fun w hr => begins_any A n c a w hr ha)
    have hal : a.length = n := by have := hr.1; simpa using this
    have hn256 : n ≤ 256 := by have := (parse_ok (checkE_ok.1 hE).1).1; omega
    have HEq := Lib.hid (fun w A1 c1 r1 r2 => equal_u64 A1 A n c1 n c w.heap.size w.heap.size a a w r1 r2 (by omega) (by omega))
    rw [decide_eq_true rfl] at HEq
    have HE := Lib.hid hE
    have HBL := Lib.hid (begs_len256 a)
    clear hal hx2
    go_enter Try.func4, Try.ntmps4
    go_wp2_with fail
    refine (threes_true _).mono ?_
    rintro e w1 ⟨rfl, hb1⟩
    go_wp2_with fail
    refine (H1.out _ ((hr.below hb1).more hb1.size) ((hr2.below hb1).more hb1.size)).mono ?_
    rintro e w2 ⟨hb2, ⟨hall, A3, c3, G, gc, rfl, hO⟩ | ⟨-, rfl⟩⟩
    · have hw21 := (below_step hb1 hb2).size
      have hst := start_tri HE.out hall
      have hb02 := (below_step hb1 hb2).alloc (below_step hb1 hb2).size (.cells #[.slice A3 n c3, .slice G (onceL f).length gc, .slice none 0 0] 25)
      have HSt := Lib.hid (steps_any A3 n c3 G (onceL f).length gc none 0 0 a (onceL f) [] _ (hO.alloc (.cells #[.slice A3 n c3, .slice G (onceL f).length gc, .slice none 0 0] 25)).reads hst.1
        (fun g b => From a g b f ∧ Least a g b f) hst.2 (fun x g b hT h => ⟨h.1.step hT, h.2.step hT⟩))
      have DS := Blk.new w2 25 #[.slice A3 n c3, .slice G (onceL f).length gc, .slice none 0 0]
      obtain ⟨s0, s1, s2⟩ := DS.three
      have HALL := Lib.hid hall
      generalize (onceL f).length = ol at *
      clear hst hO hall hb2
      go_wp2_with fail
      refine HSt.out.mono ?_
      rintro e w3 ⟨hb3, B1, d1, B2, d2, B3, d3, N, bF, rfl, hO3, hTF, hI, hN⟩
      have hb03 := below_step hb02 hb3
      have DS3 := DS.below hb3 DS.lt
      have f0 := DS3.frozen 0
      have f1 := DS3.frozen 1
      have f2 := DS3.frozen 2
      obtain ⟨s0, s1, s2⟩ := DS3.three
      have hReach := reached_black hTF hI.1 hI.2
      generalize hkF : bF.length = kF at *
      simp only [List.length_nil, Nat.add_zero] at hN
      subst hN
      have HKF := Lib.hid hkF
      have DS4 := DS3.store3 (.slice B1 n d1) (.slice B2 0 d2) (.slice B3 N d3)
      have hO4 := (hO3.store DS3 (by decide) (by decide) (.slice B1 n d1) (.slice B2 0 d2) (.slice B3 N d3)).mono (base := w.heap.size) hb02.size
      have hb04 := below_block3 (g := w2.heap.size) hb03 hw21 (.slice B1 n d1) (.slice B2 0 d2) (.slice B3 N d3)
      obtain ⟨W4, hW4⟩ : ∃ W4, W4 = (((w3.setCell ⟨w2.heap.size, 0, none⟩ (.slice B1 n d1)).setCell ⟨w2.heap.size, 1, none⟩ (.slice B2 0 d2)).setCell ⟨w2.heap.size, 2, none⟩ (.slice B3 N d3)) := ⟨_, rfl⟩
      obtain ⟨t0, t1, t2⟩ := DS4.three
      rw [← hW4] at DS4 hO4 hb04
      have HW4 := Lib.hid hW4
      have HR4 := Lib.hid hO4.reads
      have HDo := Lib.hid (stepDone_ok B1 n d1 B2 0 d2 B3 N d3 a bF W4 HR4.out.ra HR4.out.nc HR4.out.aw HR4.out.rg HR4.out.rb HR4.out.bw hTF)
      have HRch := Lib.hid hReach
      have HN256 : Hid (N ≤ 256) := by have := hTF.lens.1; show _ ≤ _; omega
      clear hO3 hTF hI hkF hb03 hb3 DS3 hO4 hReach hW4
      go_wp2_with fail
      rw [← HW4.out]
      refine HDo.out.mono ?_
      rintro e w5 ⟨hb5, A6, c6, rfl, hown6⟩
      have hb05 := below_step hb04 hb5
      have DS5 := DS4.below hb5 DS4.lt
      have HR5 := Lib.hid ((HR4.out.below hb5).more hb5.size)
      have HRe := Lib.hid (HRe.out w5 ((hr.below hb05).more hb05.size) ((hr2.below hb05).more hb05.size))
      have HWr := Lib.hid (Reads.of_own hown6)
      clear hb5 hown6
      go_wp2_with fail
      refine HRe.out.mono ?_
      rintro e w6 ⟨hb6, ⟨L, A7, c7, hL, rfl, hown7⟩ | ⟨⟨x, hx, hn⟩, -⟩⟩
      · have hLF : L = bF := hL.unique HRch.out
        subst hLF
        rw [HKF.out] at hown7 ⊢
        have hb06 := below_step hb05 hb6
        have DS6 := (DS5.below hb6 DS5.lt).alloc (.cells #[.int .i64 0, .int .i64 0] 27)
        obtain ⟨t0, t1, t2⟩ := DS6.three
        have hbx := below_step hb6 (below_new w6 (.cells #[.int .i64 0, .int .i64 0] 27))
        have hb07 := below_step hb05 hbx
        have hx := reads_new w6 [.int .i64 0, .int .i64 0] 27 2 1 rfl
        have HX := Lib.hid (good_of (some ⟨w6.heap.size, 0, none⟩) 2 2 _ [0, 0] true _ (by decide) (by simpa using hx) (by decide))
        have HR7 := Lib.hid ((HR5.out.below hbx).more hbx.size)
        have HEq := Lib.hid (HEq.out _ B1 d1 ((HR7.out.ra)) ((hr.below hb07).more hb07.size))
        have hLn : N ≤ 1000 := by have := HN256.out; omega
        have HWm : Hid (∀ x ∈ begsL (spotsL a), decide (x ∈ whiteL a L) = !decide (x ∈ L)) := fun x hx => by
          have := whiteL_mem (a := a) (b := L) (x := x)
          by_cases h : x ∈ L
          · rw [decide_eq_true h, decide_eq_false (fun h2 => (this.1 h2).2 h)]; rfl
          · rw [decide_eq_false h, decide_eq_true (this.2 ⟨hx, h⟩)]; rfl
        have hwl : (whiteL a L).length ≤ 256 := Nat.le_trans (List.length_filter_le _ _) HBL.out
        have hrL := Reads.of_own hown7
        have hrW := (HWr.out.below hb6).more hb6.size
        generalize whiteL a L = W at *
        generalize hwn : W.length = wn at *
        have HWN := Lib.hid hwn
        clear hx hown7 hb6 hb06 hL hwn
        go_wp2_with (first
          | (go_at_call 18; refine HX.out.mono ?_; rintro e w' ⟨rfl, rfl⟩)
          | (go_at_call 19; refine HEq.out.mono ?_; rintro e w8 ⟨rfl, q, rfl⟩)
          | fail)
        have hb08 := below_drewN hb07 q
        have hbq := below_drewN hbx q
        have HB9 := Lib.hid (HBg.out _ ((hr.below hb08).more hb08.size))
        have hrL8 := (hrL.below (below_new w6 (.cells #[.int .i64 0, .int .i64 0] 27))).below (below_drewN (Below.refl _ _) q)
        have hrW8 := (hrW.below (below_new w6 (.cells #[.int .i64 0, .int .i64 0] 27))).below (below_drewN (Below.refl _ _) q)
        clear hrL hrW hbx hbq hb07 HX HEq
        go_wp2_with fail
        refine HB9.out.mono ?_
        rintro e w9 ⟨hb9, A9, c9, rfl, hown9⟩
        have hb09 := below_step hb08 hb9
        have hrL9 := (hrL8.below (hb9.mono (by simp))).more (show w6.heap.size ≤ w9.heap.size by have := hb9.size; simp at this; omega)
        have hrW9 := (hrW8.below (hb9.mono (by simp))).more (show w6.heap.size ≤ w9.heap.size by have := hb9.size; simp at this; omega)
        have hrB := Reads.of_own hown9
        have hbl := HBL.out
        generalize hbg : begsL (spotsL a) = BG at *
        generalize hm : BG.length = m at *
        clear hb9 hown9 hm hrL8 hrW8 hb08 hbg
        go_wp2
        go_loopw [14, 71] (fun _ i wr => ∃ j : Nat, j ≤ m ∧ i = .int .i64 j ∧ Below w9.heap.size w9 wr) (fun _ i _ => m - (intOf i).toNat)
        case atStart => exact ⟨0, Nat.zero_le _, rfl, Below.refl _ _⟩
        case round =>
          obtain ⟨j, hj, rfl, hb⟩ := hrel
          by_cases hlt : j < m
          · obtain ⟨ad, x, rfl, had, hx, cx⟩ := (hrB.below hb).num hlt
            have hxw := HWm.out x (List.mem_of_getElem? hx)
            have hj1 : j + 1 ≤ m := hlt
            clear hx
            cases hxL : decide (x ∈ L)
            · rw [hxL] at hxw
              have C1 := Lib.hid (contains_int A6 wn c6 _ W x true wr (hrW9.below hb) (by omega) hxw)
              have C2 := Lib.hid (contains_int A7 N c7 _ L x false wr (hrL9.below hb) (by omega) hxL)
              clear hxw hxL
              go_wp2_with (go_at_call 20; (first | (with_reducible refine C1.out.mono ?_) | (with_reducible refine C2.out.mono ?_)); rintro e w' ⟨rfl, rfl⟩)
              go_roundw
              case rel => exact ⟨j + 1, hj1, by go_num, hb⟩
              case measure => simp [intOf]; omega
            · rw [hxL] at hxw
              have C1 := Lib.hid (contains_int A6 wn c6 _ W x false wr (hrW9.below hb) (by omega) hxw)
              have C2 := Lib.hid (contains_int A7 N c7 _ L x true wr (hrL9.below hb) (by omega) hxL)
              clear hxw hxL
              go_wp2_with (go_at_call 20; (first | (with_reducible refine C1.out.mono ?_) | (with_reducible refine C2.out.mono ?_)); rintro e w' ⟨rfl, rfl⟩)
              go_roundw
              case rel => exact ⟨j + 1, hj1, by go_num, hb⟩
              case measure => simp [intOf]; omega
          · have g0 : decide (j < m) = false := decide_eq_false hlt
            go_wp2
            go_ret
            exact ⟨by first | rfl | simp, below_step hb09 hb⟩
      · exact absurd (HALL.out x hx) hn
    · have hbx := (below_step hb1 hb2).alloc (below_step hb1 hb2).size (.cells #[.slice none 0 0, .slice none 0 0, .slice none 0 0] 25)
      have k0 := (Blk.new w2 25 #[.slice none 0 0, .slice none 0 0, .slice none 0 0]).three.1
      go_wp2
      go_ret
      exact ⟨by first | rfl | simp, hbx⟩
  · have H1 := Lib.hid (fun w hr => stepStart_bad A n c a A2 n2 c2 w hr hnc ha hE)
    clear hE
    go_enter Try.func4, Try.ntmps4
    go_wp2_with fail
    refine (threes_true _).mono ?_
    rintro e w1 ⟨rfl, hb1⟩
    go_wp2_with fail
    refine (H1.out _ ((hr.below hb1).more hb1.size)).mono ?_
    rintro e w2 ⟨hb2, E, hE, rfl⟩
    have hE1 : (E != 0) = true := by simpa using hE
    have hbx := (below_step hb1 hb2).alloc (below_step hb1 hb2).size (.cells #[.slice none 0 0, .slice none 0 0, .slice none 0 0] 25)
    have k0 := (Blk.new w2 25 #[.slice none 0 0, .slice none 0 0, .slice none 0 0]).three.1
    clear hE
    go_wp2
    go_ret
    exact ⟨by first | rfl | simp, hbx⟩
namespace StepAll
open Go.ChangeShapes Go.WideShapes Go.ChangeAt Go.RowKit
theorem own : ownKnob Try.prog.godebug = none := by kernel_rfl
theorem laidOut : laidOutB Try.prog = true := by kernel_rfl
set_option maxRecDepth 100000 in
theorem lifted (os : Os) (started : os.Started) (H : Type) (enc : TypeId × Value → H) :
    ReturnsInHanded {} Try.checked os 4 .any (Rows.stepAllSpec.pre6 enc Try.prog Try.f4 Rows.stepAllRow.domain false) (Rows.stepAllSpec.post enc Try.prog Try.f4 false true false false) := by
  refine returnsInHanded_of_change_sized (C := Try.checked) own started (by as_aux_lemma => kernel_rfl) Try.func4
    (ChangeSpec.witness6 (enc := enc) (C := Try.checked) false ⟨#[], #[.slice none 0 0, .slice none 0 0], []⟩ 8 (by as_aux_lemma => kernel_rfl) (by as_aux_lemma => kernel_rfl) (by as_aux_lemma => kernel_rfl) (by as_aux_lemma => kernel_rfl)) ?_
  intro W base args ds gs before hval0 hW hcnd hsz _
  have hval : ∀ (j : Nat) t v, Try.f4.params[j]? = some t → args[j]? = some v → Value.okWide Try.prog W .any base t v := hval0
  have hW' := hW
  obtain ⟨p, q, hA0, hV, rfl, hfz, hnd⟩ := hW
  have hA : DataW.TrodAll enc Try.prog W 0 (fun _ => true) true Try.f4.params.toList args.toList ds p := hA0
  rw [Try.params4] at hA hval
  obtain ⟨v0, vs0, d0, ds0, p0, q0, hargs, rfl, rfl, h0, hA⟩ := trodAll_cons hA
  obtain ⟨v1, vs1, d1, ds1, p1, q1, rfl, rfl, rfl, h1, hA⟩ := trodAll_cons hA
  obtain ⟨rfl, rfl, rfl⟩ := trodAll_nil hA
  obtain rfl : args = #[v0, v1] := by cases args; simp_all
  obtain ⟨A0, n0, c0, xs0, rfl, hnc0, hc0, hr0, hx0⟩ := open_nums Try.underlying22 Try.underlying43 (by as_aux_lemma => kernel_rfl) (hval 0 _ v0 rfl rfl) (fun x hx => hW'.lt x (by simp [hx])) h0
  obtain ⟨A1, n1, c1, xs1, rfl, hnc1, hc1, hr1, hx1, hd1⟩ := open_nums2 Try.underlying23 Try.underlying3 (by as_aux_lemma => kernel_rfl) (hval 1 _ v1 rfl rfl) (fun x hx => hW'.lt x (by simp [hx])) h1
  have hm1 : n1 * 8 ≤ 140737488351232 := by
    rcases hd1 with h0 | ⟨D, E, rfl, hD⟩
    · omega
    · have h5 : (D.length + E.length) * Try.prog.bytesOf 3 ≤ reachBytes := sized_slice hsz (j := 1) (t := 23) (e := 3) rfl rfl Try.underlying23
      rw [k_int_bytes, hD] at h5
      simp only [reachBytes] at h5
      omega
  refine (stepAll_any A0 n0 c0 xs0 A1 n1 c1 xs1 W hr0 hnc0 hc0 hx0 hr1 hnc1 hc1 hx1 hm1).mono fun e W' ⟨he, hb⟩ => ?_
  subst he
  exact ⟨_, rfl, law_post laidOut Try.underlying4 rfl (by as_aux_lemma => kernel_rfl) rfl rfl hW' hb⟩
set_option maxHeartbeats 10000000 in
theorem closed : joinedFacts Try.prog 4 Try.f4 Rows.stepAllSpec Rows.stepAllRow = true := by
  unfold joinedFacts
  simp only [Bool.and_eq_true]
  repeat' apply And.intro
  all_goals as_aux_lemma => kernel_rfl
set_option maxHeartbeats 1000000 in
theorem proved : Rows.StepAllSaid :=
  OpenClaim.holds_of_wide 4 Try.f4 rfl rfl rfl rfl rfl rfl rfl ⟨rfl, rfl, rfl, rfl, rfl⟩ rfl rfl rfl rfl rfl (by as_aux_lemma => kernel_rfl) Try.func4 closed
    (of_decide_eq_true (by as_aux_lemma => kernel_rfl)) (by unfold Func.isWrapper; first | (rw [if_pos (by decide +kernel)]; kernel_rfl) | (rw [if_neg (by decide +kernel)]; exact ⟨rfl, rfl⟩))
    (fun os started H enc _ => lifted os started H enc)
end StepAll
end Go.Proofs.Ytgkoaambdejkdaa

namespace Go.Proofs.Ytgkoaambdejkdaa
open Go.RowKit
theorem look_head {w : World} {b n : Nat} {S : List Spot} (h : MapIs w Try.prog 3 .i64 b n (headF S)) {x : Int} (hx : (Lit.int .i64 x).wf = true) :
    ∃ (r bb t : Int) (f : Bool), (Instr.lookup 79 (.map (some b)) (.int .i64 x) true).run Try.prog w = .ok (.tuple #[.agg #[.int .i64 r, .int .i64 bb, .int .i64 t, .bool f], .bool (decide (x ∈ begsL S))]) w ∧
      ∀ s, spotAt S x = some s → r = s.r ∧ bb = s.b ∧ t = s.t ∧ f = s.f := by
  have hl := h.look_ok (k := 3) (t := 79) Try.underlying3 Try.underlying79 (zero_head _) hx
  cases hs : spotAt S x with
  | none =>
    have e1 : headF S x = none := by unfold headF; rw [hs]; rfl
    have e2 : x ∉ begsL S := fun h => by obtain ⟨s, h2⟩ := begsL_iff.1 h; rw [hs] at h2; cases h2
    rw [e1] at hl
    rw [decide_eq_false e2]
    exact ⟨0, 0, 0, false, hl, fun s h => by cases h⟩
  | some s =>
    have e1 : headF S x = some (headC s) := by unfold headF; rw [hs]; rfl
    rw [e1] at hl
    rw [decide_eq_true (begsL_iff.2 ⟨s, hs⟩)]
    exact ⟨s.r, s.b, s.t, s.f, hl, fun s' h => by injection h with h; subst h; exact ⟨rfl, rfl, rfl, rfl⟩⟩
theorem OwnT.setElem {w : World} {base : Nat} {e : TypeId} {ok : Nat → Value → Prop} {q n c i : Nat} {xs : List Value} (h : OwnT w base e 1 ok (.slice (some ⟨q, 0, none⟩) n c) n xs) (hi : i < n) {u : Value} (hu : ok 0 u) :
    OwnT (w.setCell ⟨q, i, none⟩ u) base e 1 ok (.slice (some ⟨q, 0, none⟩) n c) n (xs.set i u) ∧ (∃ v, w.cell? ⟨q, i, none⟩ = some v) ∧ w.frozen? ⟨q, i, none⟩ = false := by
  obtain ⟨cur, h1, h2, h3, h4, h5, h6, h7⟩ := h.open
  have hB : Blk w q e cur.toArray := h2
  have hs := hB.set_ i u
  rw [List.setIfInBounds_toArray] at hs
  have hi2 : i < cur.length := by omega
  refine ⟨?_, ⟨cur[i], by rw [hB.cell]; simp [hi2]⟩, hB.frozen i⟩
  have := OwnT.close (w := w.setCell ⟨q, i, none⟩ u) (n := n) (c := c) (size := 1) (ok := ok) (cur.set i u) h1 hs h3 h4 (by rw [List.length_set]; exact h5) (fun j v hj => by
    by_cases hji : i = j
    · subst hji
      rw [List.getElem?_set_self hi2] at hj
      injection hj with hj
      rw [Nat.mod_one, ← hj]
      exact hu
    · rw [List.getElem?_set_ne hji] at hj
      exact h7 j v hj)
  rw [List.take_set, h6] at this
  exact this
theorem TriO.setA {w : World} {base : Nat} {q n c : Nat} {G : Option Addr} {gn gc : Nat} {K : Option Addr} {kn kc : Nat} {a g b : List Int} (h : TriO w base (some ⟨q, 0, none⟩) n c G gn gc K kn kc a g b) {i : Nat} (hi : i < n) {v : Int} (hv : (Lit.int .u64 v).wf = true) :
    TriO (w.setCell ⟨q, i, none⟩ (.int .u64 v)) base (some ⟨q, 0, none⟩) n c G gn gc K kn kc (a.set i v) g b := by
  refine ⟨?_, h.g.apart (p := ⟨q, i, none⟩) (own_kinds (g := q) h.a.1 h.g.1 (by decide) rfl) _, h.b.apart (p := ⟨q, i, none⟩) (own_kinds (g := q) h.a.1 h.b.1 (by decide) rfl) _, h.ap⟩
  have := (h.a.setElem hi (u := .int .u64 v) ⟨v, rfl, hv⟩).1
  rwa [← List.map_set] at this
theorem own_ptr {w : World} {base n c size : Nat} {e : TypeId} {A : Option Addr} {xs : List Value} (h : w.ownsRow base e size (.slice A n c) n xs) (hn : 0 < n) : ∃ q, A = some ⟨q, 0, none⟩ ∧ base ≤ q := by
  rcases h.2 with ⟨h1, h2⟩ | ⟨q, cap, cur, h1, h2, -⟩
  · omega
  · injection h1 with h1
    exact ⟨q, h1, h2⟩
def WriteRet (a g b : List Int) (at_ ref to_ : Int) (base : Nat) (e : Ending) (w' : World) : Prop :=
  (∃ E, E ≠ 0 ∧ e = .returned (.tuple #[.agg #[.slice none 0 0, .slice none 0 0, .slice none 0 0], .int .i64 E])) ∨
  (TriOk a g b ∧ ∃ (s : Spot) (k : Nat), spotAt (spotsL a) s.loc = some s ∧ at_ = s.loc ∧ ref = k ∧ (k : Int) < s.r ∧ (to_ = -1 ∨ to_ ∈ begsL (spotsL a)) ∧
    ∃ (A1 : Option Addr) (n1 c1 : Nat) (A2 : Option Addr) (n2 c2 : Nat) (A3 : Option Addr) (n3 c3 : Nat), e = .returned (.tuple #[.agg #[.slice A1 n1 c1, .slice A2 n2 c2, .slice A3 n3 c3], .int .i64 0]) ∧
      TriO w' base A1 n1 c1 A2 n2 c2 A3 n3 c3 (writeL a s k to_) (writeG g b s.loc to_) b)
set_option maxRecDepth 100000 in
set_option maxHeartbeats 4000000 in
theorem stepWrite_any (A : Option Addr) (n c : Nat) (G : Option Addr) (gn gc : Nat) (K : Option Addr) (kn kc : Nat) (a g b : List Int) (at_ ref to_ : Int) (w : World) (hr : Reads w w.heap.size 1 A n (a.map (.int .u64))) (hnc : n ≤ c) (ha : ∀ x ∈ a, (Lit.int .u64 x).wf = true)
    (hg : Reads w w.heap.size 1 G gn (g.map (.int .i64))) (hgx : ∀ x ∈ g, (Lit.int .i64 x).wf = true) (hk : Reads w w.heap.size 1 K kn (b.map (.int .i64))) (hkx : ∀ x ∈ b, (Lit.int .i64 x).wf = true) (hq : gn + kn ≤ 35184372088832)
    (h1 : (Lit.int .i64 at_).wf = true) (h2 : (Lit.int .i64 ref).wf = true) (h3 : (Lit.int .i64 to_).wf = true) :
    Calls Try.prog 21 #[.agg #[.slice A n c, .slice G gn gc, .slice K kn kc], .int .i64 at_, .int .i64 ref, .int .i64 to_] w fun e w' => Below w.heap.size w w' ∧ WriteRet a g b at_ ref to_ w.heap.size e w' := by
  have hb0 := (below_new w (.cells #[.slice A n c, .slice G gn gc, .slice K kn kc] 25)).alloc (by simp) (.cells #[.slice none 0 0, .slice none 0 0, .slice none 0 0] 25)
  have DS := (Blk.new w 25 #[.slice A n c, .slice G gn gc, .slice K kn kc]).alloc (.cells #[.slice none 0 0, .slice none 0 0, .slice none 0 0] 25)
  have DR := Blk.new (w.alloc (.cells #[.slice A n c, .slice G gn gc, .slice K kn kc] 25)) 25 #[.slice none 0 0, .slice none 0 0, .slice none 0 0]
  rw [World.size_alloc] at DR
  obtain ⟨s0, s1, s2⟩ := DS.three
  have HC := Lib.hid (stepCheck_any A n c G gn gc K kn kc a g b _ ((hr.below hb0).more hb0.size) hnc ha ((hg.below hb0).more hb0.size) hgx ((hk.below hb0).more hb0.size) hkx hq)
  by_cases hT : TriOk a g b
  · obtain ⟨l1, l2⟩ := hT.lens
    have h0 := (checkE_ok.1 hT.ok).1
    have hkl : b.length = kn := by have := hk.1; simpa using this
    have hgl : g.length = gn := by have := hg.1; simpa using this
    have hal : a.length = n := by have := hr.1; simpa using this
    have hn256 : n ≤ 256 := by omega
    have hg256 : gn ≤ 256 := by omega
    have hk256 : kn ≤ 256 := by omega
    have HOb := Lib.hid (fun w hr => stepObjects_any A n c a w hr ha h0)
    have HCo := Lib.hid (fun w hr hg hk => stepCopied_any A n c G gn gc K kn kc a g b w hr ha hg hgx hk hkx (by omega) (by omega) (by omega))
    have HT := Lib.hid hT
    have H0 := Lib.hid h0
    have HAL := Lib.hid hal
    have hbnd := begsL_bounds h0
    have HBn := Lib.hid hbnd
    clear hgx hkx ha hkl hgl hal
    go_enter Try.func21, Try.ntmps21
    go_wp2_with fail
    refine HC.out.mono ?_
    rintro e w1 ⟨⟨E, rfl, hE⟩, hb1⟩
    obtain rfl := hE.2 HT.out
    have DR1 := DR.below hb1 DR.lt
    have DS1 := DS.below hb1 DS.lt
    have hb01 := below_step hb0 hb1
    obtain ⟨s0, s1, s2⟩ := DS1.three
    have HO1 := Lib.hid (HOb.out w1 ((hr.below hb01).more hb01.size))
    clear hE hb1 HC HOb hb0
    go_wp2_with fail
    refine HO1.out.mono ?_
    rintro e w2 ⟨bm, rfl, hbm, hM, hb2⟩
    have hb02 := below_step hb01 hb2
    have DS2 := DS1.below hb2 DS1.lt
    have DR2 := DR1.below hb2 DR1.lt
    obtain ⟨rA, bA, tA, fA, lookA, hsA⟩ := look_head hM h1
    have hM3 := hM.alloc (.cells #[.int .i64 rA, .int .i64 bA, .int .i64 tA, .bool fA] 78)
    obtain ⟨rB, bB, tB, fB, lookB, -⟩ := look_head hM3 h3
    have hb03 := hb02.alloc hb02.size (.cells #[.int .i64 rA, .int .i64 bA, .int .i64 tA, .bool fA] 78)
    have hb04 := hb03.alloc hb03.size (.cells #[.int .i64 rB, .int .i64 bB, .int .i64 tB, .bool fB] 78)
    have DS4 := (DS2.alloc (.cells #[.int .i64 rA, .int .i64 bA, .int .i64 tA, .bool fA] 78)).alloc (.cells #[.int .i64 rB, .int .i64 bB, .int .i64 tB, .bool fB] 78)
    have DR4 := (DR2.alloc (.cells #[.int .i64 rA, .int .i64 bA, .int .i64 tA, .bool fA] 78)).alloc (.cells #[.int .i64 rB, .int .i64 bB, .int .i64 tB, .bool fB] 78)
    have k0 := ((Blk.new w2 78 #[.int .i64 rA, .int .i64 bA, .int .i64 tA, .bool fA]).alloc (.cells #[.int .i64 rB, .int .i64 bB, .int .i64 tB, .bool fB] 78)).cell 0
    simp only [List.getElem?_toArray, List.getElem?_cons_zero] at k0
    have HsA := Lib.hid hsA
    obtain ⟨tb, htb⟩ : ∃ tb, tb = decide (to_ ∈ begsL (spotsL a)) := ⟨_, rfl⟩
    rw [← htb] at lookB
    have HTB := Lib.hid htb
    have f0 := DR4.frozen 0
    have f1 := DR4.frozen 1
    have f2 := DR4.frozen 2
    obtain ⟨r0, r1, r2⟩ := DR4.three
    have HBf := Lib.hid (below_block3 (g := w.heap.size + 1) hb04 (Nat.le_succ _) (.slice none 0 0) (.slice none 0 0) (.slice none 0 0))
    have HZf := Lib.hid (DR4.store3 (.slice none 0 0) (.slice none 0 0) (.slice none 0 0)).three
    clear hM hM3 hsA htb hb2 HO1 hb03 DS1 DR1 DS2 DR2
    by_cases hm : at_ ∈ begsL (spotsL a)
    · rw [decide_eq_true hm] at lookA
      obtain ⟨s, hs⟩ := begsL_iff.1 hm
      obtain ⟨rfl, rfl, rfl, rfl⟩ := HsA.out s hs
      obtain ⟨hsS, -, rfl⟩ := spotAt_some hs
      have hok := (parse_mem (parse_ok H0.out).2 s hsS).1
      clear hm hbnd
      obtain ⟨loc, r, bb, t, f⟩ := s
      dsimp only at *
      have hloc := hok.loc0
      dsimp only at hloc
      obtain ⟨I, rfl⟩ := Int.eq_ofNat_of_zero_le hloc
      by_cases c1 : ref < 0
      · have g1 : decide (ref < 0) = true := decide_eq_true c1
        clear hs hsS hok
        go_wp2
        refine bodyPost_ret (v := .tuple #[.agg #[.slice none 0 0, .slice none 0 0, .slice none 0 0], .int .i64 4]) ?_ rfl ⟨HBf.out, .inl ⟨4, by decide, rfl⟩⟩
        obtain ⟨z0, z1, z2⟩ := HZf.out
        simp only [results, Try.results21]
        go_simp
      · obtain ⟨k, rfl⟩ := Int.eq_ofNat_of_zero_le (show 0 ≤ ref by omega)
        have g1 : decide ((k : Int) < 0) = false := decide_eq_false c1
        by_cases c2 : r ≤ k
        · have g2 : decide (r ≤ (k : Int)) = true := decide_eq_true c2
          clear hs hsS hok
          go_wp2
          refine bodyPost_ret (v := .tuple #[.agg #[.slice none 0 0, .slice none 0 0, .slice none 0 0], .int .i64 4]) ?_ rfl ⟨HBf.out, .inl ⟨4, by decide, rfl⟩⟩
          obtain ⟨z0, z1, z2⟩ := HZf.out
          simp only [results, Try.results21]
          go_simp
        · have g2 : decide (r ≤ (k : Int)) = false := decide_eq_false c2
          by_cases c3 : to_ = -1 ∨ to_ ∈ begsL (spotsL a)
          · have hft := hok.fits
            have hr0 := hok.r0
            have hbb0 := hok.b0
            simp only [Spot.long] at hft hr0 hbb0
            obtain ⟨p1, hp1⟩ : ∃ p1, p1 = I + 1 := ⟨_, rfl⟩
            obtain ⟨p2, hp2⟩ : ∃ p2, p2 = p1 + k := ⟨_, rfl⟩
            have hp2n : p2 < n := by have := HAL.out; omega
            have w1' : IntKind.i64.wrap ((I : Int) + 1) = p1 := by rw [IntWalk.i64_in _ (by omega)]; omega
            have w2' : IntKind.i64.wrap ((p1 : Int) + k) = p2 := by rw [IntWalk.i64_in _ (by omega)]; omega
            have w1'' : (I : Int) + 1 = p1 := by omega
            have w2'' : (p1 : Int) + k = p2 := by omega
            have HS := Lib.hid hs
            have HP : Hid ((I : Int).toNat + 1 + k = p2) := by show _ = _; omega
            have HKR : Hid ((k : Int) < r) := by show _ < _; omega
            clear hs hsS hok hloc hft hr0 hbb0 hp1 hp2
            have HCo1 := Lib.hid (HCo.out _ ((hr.below hb04).more hb04.size) ((hg.below hb04).more hb04.size) ((hk.below hb04).more hb04.size))
            obtain ⟨s0, s1, s2⟩ := DS4.three
            rcases c3 with rfl | hB
            · have g3 : ((-1 : Int) != -1) = false := by decide
              go_wp2_with fail
              refine HCo1.out.mono ?_
              rintro e w5 ⟨hb5, A1, d1, A2, d2, A3, d3, rfl, hO⟩
              obtain ⟨q, e0, hqb⟩ := own_ptr hO.a.1 (by omega)
              subst e0
              have hws4 := hb04.size
              have hb05 := below_step hb04 hb5
              have DS5 := DS4.below hb5 DS4.lt
              have DR5 := DR4.below hb5 DR4.lt
              have f0 := DS5.frozen 0
              have f1 := DS5.frozen 1
              have f2 := DS5.frozen 2
              obtain ⟨u0, u1, u2⟩ := DS5.three
              have DS6 := DS5.store3 (.slice (some ⟨q, 0, none⟩) n d1) (.slice A2 gn d2) (.slice A3 kn d3)
              have DR6 := DR5.far3 (g' := w.heap.size) (by omega) (.slice (some ⟨q, 0, none⟩) n d1) (.slice A2 gn d2) (.slice A3 kn d3)
              have hb06 := below_block3 hb05 (Nat.le_refl _) (.slice (some ⟨q, 0, none⟩) n d1) (.slice A2 gn d2) (.slice A3 kn d3)
              have hO6 := (hO.store DS5 (by decide) (by decide) (.slice (some ⟨q, 0, none⟩) n d1) (.slice A2 gn d2) (.slice A3 kn d3)).mono (base := w.heap.size) hws4
              obtain ⟨t0, t1, t2⟩ := DS6.three
              obtain ⟨-, ⟨ov, hov⟩, hof⟩ := hO6.a.setElem hp2n (u := .int .u64 0) ⟨_, rfl, rfl⟩
              have hqS : some q ≠ some w.heap.size := fun e => own_blk hO6.a.1 DS6 (by decide) (by rw [← e]; rfl)
              have hqR : some q ≠ some (w.heap.size + 1) := fun e => own_blk hO6.a.1 DR6 (by decide) (by rw [← e]; rfl)
              have DS7 := DS6.far (p := ⟨q, p2, none⟩) (fun e => hqS (by rw [e])) (.int .u64 0)
              have DR7 := DR6.far (p := ⟨q, p2, none⟩) (fun e => hqR (by rw [e])) (.int .u64 0)
              have hb07 := hb06.setCell (p := ⟨q, p2, none⟩) (by dsimp only; omega) (.int .u64 0)
              have hO7 := hO6.setA hp2n (v := 0) rfl
              have f3 := DR7.frozen 0
              have f4 := DR7.frozen 1
              have f5 := DR7.frozen 2
              obtain ⟨v0, v1, v2⟩ := DS7.three
              obtain ⟨r0, r1, r2⟩ := DR7.three
              have HOf := Lib.hid (hO7.store DR7 (by decide) (by decide) (.slice (some ⟨q, 0, none⟩) n d1) (.slice A2 gn d2) (.slice A3 kn d3))
              have HBf2 := Lib.hid (below_block3 (g := w.heap.size + 1) hb07 (Nat.le_succ _) (.slice (some ⟨q, 0, none⟩) n d1) (.slice A2 gn d2) (.slice A3 kn d3))
              have HZf2 := Lib.hid (DR7.store3 (.slice (some ⟨q, 0, none⟩) n d1) (.slice A2 gn d2) (.slice A3 kn d3)).three
              have HWA : Hid (writeL a ⟨I, r, bb, t, f⟩ k (-1) = a.set p2 0) := by show _ = _; unfold writeL; rw [HP.out]; rfl
              have HWG : Hid (writeG g b I (-1) = g) := by show _ = _; unfold writeG; rw [if_neg (by omega)]
              clear hO hO6 hO7
              go_wp2
              refine bodyPost_ret (v := .tuple #[.agg #[.slice (some ⟨q, 0, none⟩) n d1, .slice A2 gn d2, .slice A3 kn d3], .int .i64 0]) ?_ rfl ⟨HBf2.out, .inr ⟨HT.out, ⟨I, r, bb, t, f⟩, k, HS.out, rfl, rfl, HKR.out, .inl rfl, some ⟨q, 0, none⟩, n, d1, A2, gn, d2, A3, kn, d3, rfl, by rw [HWA.out, HWG.out]; exact HOf.out⟩⟩
              obtain ⟨z0, z1, z2⟩ := HZf2.out
              simp only [results, Try.results21]
              go_simp
            · obtain ⟨hO0, hO2⟩ := HBn.out to_ hB
              obtain ⟨O, rfl⟩ := Int.eq_ofNat_of_zero_le hO0
              obtain ⟨V, hV⟩ : ∃ V, V = O + 1 := ⟨_, rfl⟩
              have wV : IntKind.i64.wrap ((O : Int) + 1) = V := by rw [IntWalk.i64_in _ (by omega)]; omega
              have wV2 : (O : Int) + 1 = V := by omega
              have HVW : Hid ((Lit.int .u64 (V : Int)).wf = true) := by show _ = _; simp [Lit.wf, IntKind.min, IntKind.max, IntKind.signed, IntKind.bits]; omega
              have wV3 : IntKind.u64.wrap (V : Int) = V := IntWalk.u64_in _ (by omega)
              have g3 : ((O : Int) != -1) = true := by simp <;> omega
              have g4 : tb = true := by rw [HTB.out]; exact decide_eq_true hB
              have HOB := Lib.hid hB
              have HOV := Lib.hid wV2
              have HOW : Hid ((Lit.int .i64 (O : Int)).wf = true) := h3
              subst g4
              clear hB hV hO0
              go_wp2_with fail
              refine HCo1.out.mono ?_
              rintro e w5 ⟨hb5, A1, d1, A2, d2, A3, d3, rfl, hO⟩
              obtain ⟨q, e0, hqb⟩ := own_ptr hO.a.1 (by omega)
              subst e0
              have hws4 := hb04.size
              have hb05 := below_step hb04 hb5
              have DS5 := DS4.below hb5 DS4.lt
              have DR5 := DR4.below hb5 DR4.lt
              have f0 := DS5.frozen 0
              have f1 := DS5.frozen 1
              have f2 := DS5.frozen 2
              obtain ⟨u0, u1, u2⟩ := DS5.three
              have DS6 := DS5.store3 (.slice (some ⟨q, 0, none⟩) n d1) (.slice A2 gn d2) (.slice A3 kn d3)
              have DR6 := DR5.far3 (g' := w.heap.size) (by omega) (.slice (some ⟨q, 0, none⟩) n d1) (.slice A2 gn d2) (.slice A3 kn d3)
              have hb06 := below_block3 hb05 (Nat.le_refl _) (.slice (some ⟨q, 0, none⟩) n d1) (.slice A2 gn d2) (.slice A3 kn d3)
              have hO6 := (hO.store DS5 (by decide) (by decide) (.slice (some ⟨q, 0, none⟩) n d1) (.slice A2 gn d2) (.slice A3 kn d3)).mono (base := w.heap.size) hws4
              obtain ⟨t0, t1, t2⟩ := DS6.three
              obtain ⟨-, ⟨ov, hov⟩, hof⟩ := hO6.a.setElem hp2n (u := .int .u64 V) ⟨_, rfl, HVW.out⟩
              have hqS : some q ≠ some w.heap.size := fun e => own_blk hO6.a.1 DS6 (by decide) (by rw [← e]; rfl)
              have hqR : some q ≠ some (w.heap.size + 1) := fun e => own_blk hO6.a.1 DR6 (by decide) (by rw [← e]; rfl)
              have DS7 := DS6.far (p := ⟨q, p2, none⟩) (fun e => hqS (by rw [e])) (.int .u64 V)
              have DR7 := DR6.far (p := ⟨q, p2, none⟩) (fun e => hqR (by rw [e])) (.int .u64 V)
              have hb07 := hb06.setCell (p := ⟨q, p2, none⟩) (by dsimp only; omega) (.int .u64 V)
              have hO7 := hO6.setA hp2n (v := V) HVW.out
              by_cases hxb : (I : Int) ∈ b
              · have HC1 := Lib.hid (contains_int A3 kn d3 _ b I true _ (Reads.of_own hO7.b.1) (by omega) (decide_eq_true hxb))
                by_cases hwh : (O : Int) ∈ g ∨ (O : Int) ∈ b
                · have HW := Lib.hid (stepWhite_any (some ⟨q, 0, none⟩) n d1 A2 gn d2 A3 kn d3 _ g b O _ (Reads.of_own hO7.g.1) (Reads.of_own hO7.b.1) (by omega) (by omega) (Nat.le_refl _) false (by rcases hwh with h | h <;> simp [h]))
                  have HWG : Hid (writeG g b I O = g) := by show _ = _; unfold writeG greyL; rw [if_pos ⟨by omega, hxb⟩, if_pos hwh]
                  obtain ⟨v0, v1, v2⟩ := DS7.three
                  have HO7 := Lib.hid hO7
                  clear hxb hwh hO hO6 hO7
                  go_wp2_with (go_at_call 20; refine HC1.out.mono ?_; rintro e w' ⟨rfl, rfl⟩)
                  refine HW.out.mono ?_
                  rintro e w8 ⟨rfl, hb8⟩
                  have DS8 := DS7.below hb8 DS7.lt
                  have DR8 := DR7.below hb8 DR7.lt
                  have hO8 := HO7.out.below hb8
                  have hb08 := below_step hb07 hb8
                  have f3 := DR8.frozen 0
                  have f4 := DR8.frozen 1
                  have f5 := DR8.frozen 2
                  obtain ⟨v0, v1, v2⟩ := DS8.three
                  obtain ⟨r0, r1, r2⟩ := DR8.three
                  have HOf := Lib.hid (hO8.store DR8 (by decide) (by decide) (.slice (some ⟨q, 0, none⟩) n d1) (.slice A2 gn d2) (.slice A3 kn d3))
                  have HBf2 := Lib.hid (below_block3 (g := w.heap.size + 1) hb08 (Nat.le_succ _) (.slice (some ⟨q, 0, none⟩) n d1) (.slice A2 gn d2) (.slice A3 kn d3))
                  have HZf2 := Lib.hid (DR8.store3 (.slice (some ⟨q, 0, none⟩) n d1) (.slice A2 gn d2) (.slice A3 kn d3)).three
                  have HWA : Hid (writeL a ⟨I, r, bb, t, f⟩ k O = a.set p2 V) := by show _ = _; unfold writeL; rw [HP.out, HOV.out]
                  clear hO8
                  go_wp2
                  refine bodyPost_ret (v := .tuple #[.agg #[.slice (some ⟨q, 0, none⟩) n d1, .slice A2 gn d2, .slice A3 kn d3], .int .i64 0]) ?_ rfl ⟨HBf2.out, .inr ⟨HT.out, ⟨I, r, bb, t, f⟩, k, HS.out, rfl, rfl, HKR.out, (.inr HOB.out), some ⟨q, 0, none⟩, n, d1, A2, gn, d2, A3, kn, d3, rfl, by rw [HWA.out, HWG.out]; exact HOf.out⟩⟩
                  obtain ⟨z0, z1, z2⟩ := HZf2.out
                  simp only [results, Try.results21]
                  go_simp
                · have hng : (O : Int) ∉ g := fun h => hwh (.inl h)
                  have hnb : (O : Int) ∉ b := fun h => hwh (.inr h)
                  have HW := Lib.hid (stepWhite_any (some ⟨q, 0, none⟩) n d1 A2 gn d2 A3 kn d3 _ g b O _ (Reads.of_own hO7.g.1) (Reads.of_own hO7.b.1) (by omega) (by omega) (Nat.le_refl _) true (by simp [hng, hnb]))
                  have HWG : Hid (writeG g b I O = putL g O) := by show _ = _; unfold writeG; rw [if_pos ⟨by omega, hxb⟩, greyL_put _ _ _ hnb]
                  obtain ⟨v0, v1, v2⟩ := DS7.three
                  have HO7 := Lib.hid hO7
                  clear hxb hwh hng hnb hO hO6 hO7
                  go_wp2_with (go_at_call 20; refine HC1.out.mono ?_; rintro e w' ⟨rfl, rfl⟩)
                  refine HW.out.mono ?_
                  rintro e w8 ⟨rfl, hb8⟩
                  have DS8 := DS7.below hb8 DS7.lt
                  have DR8 := DR7.below hb8 DR7.lt
                  have hO8 := HO7.out.below hb8
                  have hb08 := below_step hb07 hb8
                  obtain ⟨v0, v1, v2⟩ := DS8.three
                  have HPu := Lib.hid (stepPut_any w.heap.size A2 gn d2 g O w8 hO8.g hb08.size (by omega) HT.out.gr HOW.out)
                  have HO8 := Lib.hid hO8
                  clear hO8 HW hb8
                  go_wp2_with fail
                  refine HPu.out.mono ?_
                  rintro e w9 ⟨A9, d9, rfl, hp9, -, hgr9, hbl9⟩
                  have hO9 := HO8.out.putG hp9 hgr9 hbl9
                  have DS9 := DS8.grown hgr9 (own_blk HO8.out.g.1 DS8 (by decide)).symm
                  have DR9 := DR8.grown hgr9 (own_blk HO8.out.g.1 DR8 (by decide)).symm
                  have hb09 := hb08.grown hgr9 hb08.size (fun k hk => (HO8.out.g.1.lt k hk).1)
                  generalize hgz : (putL g O).length = gz at *
                  have hOz := hO9.set DS9 (by decide) (by decide) 1 (.slice A9 gz d9)
                  have DSz : Blk (w9.setCell ⟨w.heap.size, 1, none⟩ (.slice A9 gz d9)) w.heap.size 25 #[.slice (some ⟨q, 0, none⟩) n d1, .slice A9 gz d9, .slice A3 kn d3] := by simpa using DS9.set_ 1 (.slice A9 gz d9)
                  have DRz := DR9.far (p := ⟨w.heap.size, 1, none⟩) (by dsimp only; omega) (.slice A9 gz d9)
                  have hbz := hb09.setCell (p := ⟨w.heap.size, 1, none⟩) (Nat.le_refl _) (.slice A9 gz d9)
                  have f9 := DS9.frozen 1
                  have v9 := DS9.three.2.1
                  have f3 := DRz.frozen 0
                  have f4 := DRz.frozen 1
                  have f5 := DRz.frozen 2
                  obtain ⟨v0, v1, v2⟩ := DSz.three
                  obtain ⟨r0, r1, r2⟩ := DRz.three
                  have HOf := Lib.hid (hOz.store DRz (by decide) (by decide) (.slice (some ⟨q, 0, none⟩) n d1) (.slice A9 gz d9) (.slice A3 kn d3))
                  have HBf2 := Lib.hid (below_block3 (g := w.heap.size + 1) hbz (Nat.le_succ _) (.slice (some ⟨q, 0, none⟩) n d1) (.slice A9 gz d9) (.slice A3 kn d3))
                  have HZf2 := Lib.hid (DRz.store3 (.slice (some ⟨q, 0, none⟩) n d1) (.slice A9 gz d9) (.slice A3 kn d3)).three
                  have HWA : Hid (writeL a ⟨I, r, bb, t, f⟩ k O = a.set p2 V) := by show _ = _; unfold writeL; rw [HP.out, HOV.out]
                  clear hO9 hOz hp9 hgr9 hbl9 HPu hgz
                  go_wp2
                  refine bodyPost_ret (v := .tuple #[.agg #[.slice (some ⟨q, 0, none⟩) n d1, .slice A9 gz d9, .slice A3 kn d3], .int .i64 0]) ?_ rfl ⟨HBf2.out, .inr ⟨HT.out, ⟨I, r, bb, t, f⟩, k, HS.out, rfl, rfl, HKR.out, (.inr HOB.out), some ⟨q, 0, none⟩, n, d1, A9, gz, d9, A3, kn, d3, rfl, by rw [HWA.out, HWG.out]; exact HOf.out⟩⟩
                  obtain ⟨z0, z1, z2⟩ := HZf2.out
                  simp only [results, Try.results21]
                  go_simp
              · have HC1 := Lib.hid (contains_int A3 kn d3 _ b I false _ (Reads.of_own hO7.b.1) (by omega) (decide_eq_false hxb))
                have HNX := Lib.hid hxb
                have f3 := DR7.frozen 0
                have f4 := DR7.frozen 1
                have f5 := DR7.frozen 2
                obtain ⟨v0, v1, v2⟩ := DS7.three
                obtain ⟨r0, r1, r2⟩ := DR7.three
                have HOf := Lib.hid (hO7.store DR7 (by decide) (by decide) (.slice (some ⟨q, 0, none⟩) n d1) (.slice A2 gn d2) (.slice A3 kn d3))
                have HBf2 := Lib.hid (below_block3 (g := w.heap.size + 1) hb07 (Nat.le_succ _) (.slice (some ⟨q, 0, none⟩) n d1) (.slice A2 gn d2) (.slice A3 kn d3))
                have HZf2 := Lib.hid (DR7.store3 (.slice (some ⟨q, 0, none⟩) n d1) (.slice A2 gn d2) (.slice A3 kn d3)).three
                have HWA : Hid (writeL a ⟨I, r, bb, t, f⟩ k O = a.set p2 V) := by show _ = _; unfold writeL; rw [HP.out, HOV.out]
                have HWG : Hid (writeG g b I O = g) := by show _ = _; unfold writeG; rw [if_neg (fun h => HNX.out h.2)]
                clear hO hO6 hO7 hxb
                go_wp2_with (go_at_call 20; refine HC1.out.mono ?_; rintro e w' ⟨rfl, rfl⟩)
                refine bodyPost_ret (v := .tuple #[.agg #[.slice (some ⟨q, 0, none⟩) n d1, .slice A2 gn d2, .slice A3 kn d3], .int .i64 0]) ?_ rfl ⟨HBf2.out, .inr ⟨HT.out, ⟨I, r, bb, t, f⟩, k, HS.out, rfl, rfl, HKR.out, (.inr HOB.out), some ⟨q, 0, none⟩, n, d1, A2, gn, d2, A3, kn, d3, rfl, by rw [HWA.out, HWG.out]; exact HOf.out⟩⟩
                obtain ⟨z0, z1, z2⟩ := HZf2.out
                simp only [results, Try.results21]
                go_simp
          · have g3 : (to_ != -1) = true := by simp; exact fun h => c3 (.inl h)
            have g4 : tb = false := by rw [HTB.out]; exact decide_eq_false (fun h => c3 (.inr h))
            subst g4
            clear hs hsS hok
            go_wp2
            refine bodyPost_ret (v := .tuple #[.agg #[.slice none 0 0, .slice none 0 0, .slice none 0 0], .int .i64 4]) ?_ rfl ⟨HBf.out, .inl ⟨4, by decide, rfl⟩⟩
            obtain ⟨z0, z1, z2⟩ := HZf.out
            simp only [results, Try.results21]
            go_simp
    · rw [decide_eq_false hm] at lookA
      clear hm hbnd
      go_wp2
      refine bodyPost_ret (v := .tuple #[.agg #[.slice none 0 0, .slice none 0 0, .slice none 0 0], .int .i64 5]) ?_ rfl ⟨HBf.out, .inl ⟨5, by decide, rfl⟩⟩
      obtain ⟨z0, z1, z2⟩ := HZf.out
      simp only [results, Try.results21]
      go_simp
  · clear hgx hkx ha hr hg hk
    go_enter Try.func21, Try.ntmps21
    go_wp2_with fail
    refine HC.out.mono ?_
    rintro e w1 ⟨⟨E, rfl, hE⟩, hb1⟩
    have hE0 : E ≠ 0 := fun h => hT (hE.1 h)
    have hE1 : (E != 0) = true := by simpa using hE0
    have HE := Lib.hid hE0
    have DR1 := DR.below hb1 DR.lt
    have f0 := DR1.frozen 0
    have f1 := DR1.frozen 1
    have f2 := DR1.frozen 2
    obtain ⟨r0, r1, r2⟩ := DR1.three
    have hbb := below_step hb0 hb1
    clear hE hE0 hb1
    go_wp2
    refine bodyPost_ret (v := .tuple #[.agg #[.slice none 0 0, .slice none 0 0, .slice none 0 0], .int .i64 E]) ?_ rfl ⟨below_block3 hbb (Nat.le_succ _) _ _ _, .inl ⟨E, HE.out, rfl⟩⟩
    obtain ⟨z0, z1, z2⟩ := (DR1.store3 (.slice none 0 0) (.slice none 0 0) (.slice none 0 0)).three
    simp only [results, Try.results21]
    go_simp
def WriteOut (a g b : List Int) (at_ ref to_ : Int) (base : Nat) (w' : World) (A1 : Option Addr) (n1 c1 : Nat) (A2 : Option Addr) (n2 c2 : Nat) (A3 : Option Addr) (n3 c3 : Nat) (E : Int) : Prop :=
  E ≠ 0 ∨ (E = 0 ∧ TriOk a g b ∧ ∃ (s : Spot) (k : Nat), spotAt (spotsL a) s.loc = some s ∧ at_ = s.loc ∧ ref = k ∧ (k : Int) < s.r ∧ (to_ = -1 ∨ to_ ∈ begsL (spotsL a)) ∧ TriO w' base A1 n1 c1 A2 n2 c2 A3 n3 c3 (writeL a s k to_) (writeG g b s.loc to_) b)
theorem WriteOut.imp {a g b : List Int} {at_ ref to_ : Int} {base base' : Nat} {w w' : World} {A1 : Option Addr} {n1 c1 : Nat} {A2 : Option Addr} {n2 c2 : Nat} {A3 : Option Addr} {n3 c3 : Nat} {E : Int}
    (h : WriteOut a g b at_ ref to_ base w A1 n1 c1 A2 n2 c2 A3 n3 c3 E) (hf : ∀ a' g', TriO w base A1 n1 c1 A2 n2 c2 A3 n3 c3 a' g' b → TriO w' base' A1 n1 c1 A2 n2 c2 A3 n3 c3 a' g' b) : WriteOut a g b at_ ref to_ base' w' A1 n1 c1 A2 n2 c2 A3 n3 c3 E := by
  rcases h with h | ⟨h0, hT, s, k, h1, h2, h3, h4, h5, hO⟩
  · exact .inl h
  · exact .inr ⟨h0, hT, s, k, h1, h2, h3, h4, h5, hf _ _ hO⟩
theorem WriteRet.named {a g b : List Int} {at_ ref to_ : Int} {base : Nat} {e : Ending} {w' : World} (h : WriteRet a g b at_ ref to_ base e w') :
    ∃ (A1 : Option Addr) (n1 c1 : Nat) (A2 : Option Addr) (n2 c2 : Nat) (A3 : Option Addr) (n3 c3 : Nat) (E : Int), e = .returned (.tuple #[.agg #[.slice A1 n1 c1, .slice A2 n2 c2, .slice A3 n3 c3], .int .i64 E]) ∧ WriteOut a g b at_ ref to_ base w' A1 n1 c1 A2 n2 c2 A3 n3 c3 E := by
  rcases h with ⟨E, hE, rfl⟩ | ⟨hT, s, k, h1, h2, h3, h4, h5, A1, n1, c1, A2, n2, c2, A3, n3, c3, rfl, hO⟩
  · exact ⟨none, 0, 0, none, 0, 0, none, 0, 0, E, rfl, .inl hE⟩
  · exact ⟨A1, n1, c1, A2, n2, c2, A3, n3, c3, 0, rfl, .inr ⟨rfl, hT, s, k, h1, h2, h3, h4, h5, hO⟩⟩
end Go.Proofs.Ytgkoaambdejkdaa

namespace Go.Proofs.Ytgkoaambdejkdaa
open Go.ChangeShapes Go.WideShapes Go.ChangeAt Go.RowKit Go.Joins Go.Deep
def RowsR (w : World) (B : Nat) (A : Option Addr) (n : Nat) : Prop :=
  ∀ j, j < n → ∃ (ad : Addr) (A' : Option Addr) (m c : Nat) (xs : List Int), A = some ad ∧ ad.block < B ∧ w.cell? (ad.add j) = some (.slice A' m c) ∧ Reads w B 1 A' m (xs.map (.int .i64)) ∧ m ≤ 9223372036854775807 ∧ ∀ x ∈ xs, (Lit.int .i64 x).wf = true
theorem RowsR.below {w w' : World} {B n : Nat} {A : Option Addr} (h : RowsR w B A n) (hb : Below B w w') : RowsR w' B A n := fun j hj => by
  obtain ⟨ad, A', m, c, xs, h1, h2, h3, h4, h5⟩ := h j hj
  exact ⟨ad, A', m, c, xs, h1, h2, (hb.cell (p := ad.add j) (by rw [block_of_add]; exact h2)).trans h3, h4.below hb, h5⟩
theorem RowsR.more {w : World} {B B' n : Nat} {A : Option Addr} (h : RowsR w B A n) (hb : B ≤ B') : RowsR w B' A n := fun j hj => by
  obtain ⟨ad, A', m, c, xs, h1, h2, h3, h4, h5⟩ := h j hj
  exact ⟨ad, A', m, c, xs, h1, by omega, h3, h4.more hb, h5⟩
set_option maxRecDepth 100000 in
theorem open_rows {H : Type} {enc : TypeId × Value → H} {W : World} {r : Reach} {base : Nat} {v : Value} {d : DataW H} {ps : List MemPlace} (hval : Value.okWide Try.prog W r base 46 v) (hlt : ∀ x ∈ ps, x.block < W.heap.size) (h : DataW.Trod enc Try.prog W 0 (fun _ => true) true 46 v d ps) :
    ∃ (A : Option Addr) (n c : Nat), v = .slice A n c ∧ n ≤ 9223372036854775807 ∧ RowsR W W.heap.size A n := by
  obtain ⟨a0, len0, cap0, rfl⟩ := okWide_slice Try.underlying46 hval
  obtain ⟨fuel, hf⟩ := h
  rcases open_int_rows Try.underlying46 Try.underlying23 Try.underlying3 (by kernel_rfl) (by kernel_rfl) hf with ⟨hcs, hx⟩ | ⟨a, len, cap, A, L, C, Z, hcs, hb, hlc, hm, hx, hrow⟩
  · simp [Value.cells] at hcs
    obtain ⟨rfl, rfl, rfl⟩ := hcs
    exact ⟨none, 0, 0, rfl, by omega, fun j hj => by omega⟩
  · simp [Value.cells] at hcs
    obtain ⟨rfl, rfl, rfl⟩ := hcs
    simp only [Prod.mk.injEq] at hx
    obtain ⟨rfl, rfl⟩ := hx
    unfold maxLen at hm
    refine ⟨some a, len0, cap0, rfl, by omega, fun j hj => ?_⟩
    obtain ⟨c1, c2, c3, c4, c5, c6, c7⟩ := hrow j (by omega)
    unfold maxLen at c3
    have hab : a.block < W.heap.size := hlt (.cell a.block (a.off + 0)) (by
      refine List.mem_append_left _ ?_
      unfold MemPlace.row
      exact List.mem_map.2 ⟨0, List.mem_range.2 (by omega), rfl⟩)
    refine ⟨a, A j, L j, C j, (Z j).take (L j), rfl, hab, c1, ⟨by simp; omega, fun hn => ?_⟩, by omega, fun x hx => c5 x (List.mem_of_mem_take hx)⟩
    cases hA : A j with
    | none => have := c6 hA; omega
    | some a' =>
      obtain ⟨-, c8⟩ := c7 a' hA
      refine ⟨a', rfl, ?_, fun i u hu => ?_⟩
      · have := hlt (.cell a'.block (a'.off + 0)) (by
          refine List.mem_append_right _ (List.mem_flatMap.2 ⟨j, List.mem_range.2 (by omega), ?_⟩)
          rw [hA]
          unfold intRowPlaces MemPlace.row
          exact List.mem_map.2 ⟨0, List.mem_range.2 (by omega), rfl⟩)
        exact this
      · have hi : i < L j := by
          have := (List.getElem?_eq_some_iff.1 hu).1
          simp at this; omega
        rw [c8 i (by omega)]
        rw [List.getElem?_map, List.getElem?_take, if_pos hi, List.getElem?_eq_getElem (by omega)] at hu
        rw [← hu, List.getD_eq_getElem?_getD, List.getElem?_eq_getElem (by omega)]
        rfl
end Go.Proofs.Ytgkoaambdejkdaa
