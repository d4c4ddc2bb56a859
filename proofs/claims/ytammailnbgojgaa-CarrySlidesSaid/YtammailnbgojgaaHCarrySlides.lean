/-
  CarrySlides answers true for all arenas and lists, and changes no argument: a copied heap is isomorphic to a compacted one.
-/
import Derived.Test.YtammailnbgojgaaG7
import Derived.Test.YtammailnbgojgaaG9
import Derived.Test.YtammailnbgojgaaG10
namespace Go.Proofs.Ytammailnbgojgaa
open Go.RowKit

theorem copy_clean_form {a f O Y b L Z c now : List Int} {N : Nat} (hI : CopyIs a f N O Y b) (hJ : CleanIs a f [] L Z c now) {os os' : List Ob} {fr fr' : List Int} (h1 : FormIs b (f.map (posL O Y)) os fr) (h2 : FormIs c now os' fr') : os = os' ∧ fr = fr' := by
  have hF : FormIs a f (O.map (formO a (spotsL a) O)) (f.map (idxL O)) := ⟨O, hI.ordered, rfl, rfl⟩
  obtain ⟨e1, e2⟩ := (copied_of hI).form hI.ordered.roots hF h1
  obtain ⟨e3, e4⟩ := (cleaned_of hJ).form (by rw [List.append_nil]; exact hF) (by rw [List.append_nil]; exact h2)
  exact ⟨e1.symm.trans e3, e2.symm.trans e4⟩

set_option maxRecDepth 100000 in
set_option maxHeartbeats 4000000 in
theorem carrySlides_any (A : Option Addr) (n c : Nat) (a : List Int) (A2 : Option Addr) (n2 c2 : Nat) (f : List Int) (w : World) (hr : Reads w w.heap.size 1 A n (a.map (.int .u64))) (hnc : n ≤ c) (hc : c ≤ maxLen) (ha : ∀ x ∈ a, (Lit.int .u64 x).wf = true)
    (hr2 : Reads w w.heap.size 1 A2 n2 (f.map (.int .i64))) (hnc2 : n2 ≤ c2) (hc2 : c2 ≤ maxLen) (hx2 : ∀ z ∈ f, (Lit.int .i64 z).wf = true) (hn2 : n2 * 8 ≤ 140737488351232) :
    Calls Try.prog 7 #[.slice A n c, .slice A2 n2 c2] w fun e w' => e = .returned (.bool true) ∧ Below w.heap.size w w' := by
  clear hnc2 hc2
  have hfl : f.length = n2 := by have := hr2.1; simpa using this
  have hal : a.length = n := by have := hr.1; simpa using this
  have HC := Lib.hid (fun w hr hr2 => copy_any A n c a A2 n2 c2 f n w hr hnc hc ha hr2 (by omega) hx2)
  have HS := Lib.hid (fun w hr hr2 => clean_any A n c a A2 n2 c2 f none 0 0 [] w hr hnc hc ha hr2 hn2 hx2 Reads.none_ (by decide) (by simp))
  have HA := Lib.hid (fun A1 M c1 (b : List Int) (h1 : M ≤ c1) (hb : ∀ x ∈ b, (Lit.int .u64 x).wf = true) A5 c5 (g : List Int) (hg : ∀ x ∈ g, (Lit.int .i64 x).wf = true) A2 M2 c2 (b2 : List Int) (h2 : M2 ≤ c2) (hb2 : ∀ x ∈ b2, (Lit.int .u64 x).wf = true) A6 c6 (g2 : List Int) (hg2 : ∀ x ∈ g2, (Lit.int .i64 x).wf = true) w hr1 hr2 hr3 hr4 =>
    alike_any A1 M c1 b A5 n2 c5 g A2 M2 c2 b2 A6 n2 c6 g2 w hr1 h1 hb hr2 (by omega) hg hr3 h2 hb2 hr4 (by omega) hg2)
  have HAW := Lib.hid ha
  have HFL := Lib.hid hfl
  have HAL := Lib.hid hal
  obtain ⟨i0, hi, hz0, hz1, hz2⟩ := info_parts info_int
  have hn2b : n2 ≤ 100000000000000 := by omega
  clear ha hx2 hfl hal
  go_enter Try.func7, Try.ntmps7
  go_wp2_with fail
  refine (carries_true _).mono ?_
  rintro e w1 ⟨rfl, hb1⟩
  go_wp2_with fail
  refine (HC.out _ ((hr.below hb1).more hb1.size) ((hr2.below hb1).more hb1.size)).mono ?_
  rintro e w2 ⟨hb2, ⟨M, O, hMe, hAl, Y, b, k, A1, c1, AO, cO, AY, cY, hI, hk, rfl, hown1, hownO, hownY⟩ | ⟨hno, er, her, rfl⟩⟩
  · obtain rfl : M = n := by omega
    have hb02 := below_step hb1 hb2
    have hrb := Reads.of_own hown1
    have hrO := Reads.of_own hownO
    have hrY := Reads.of_own hownY
    have hc1 := own_cap hown1
    have HI := Lib.hid hI
    have HALI := Lib.hid hAl
    have HK := Lib.hid hk
    have hk256 : k ≤ 256 := by rw [hk]; exact (copied_of hI).lenO
    clear hI hAl hk hown1 hownO hownY hMe
    go_wp2_with fail
    refine (HS.out _ ((hr.below hb02).more hb02.size) ((hr2.below hb02).more hb02.size)).mono ?_
    rintro e w3 ⟨hb3, ⟨-, L, Z, d, now, A3, c3, A4, c4, hJ, rfl, hown3, hown4⟩ | ⟨hno, -⟩⟩
    · have hb03 := below_step hb02 hb3
      have hJD := cleaned_of hJ
      obtain ⟨hdw, hnw⟩ := hJD.wf hJ HAW.out
      have hcI := copied_of HI.out
      have hEq := fun os os' fr fr' h1 h2 => copy_clean_form (os := os) (os' := os') (fr := fr) (fr' := fr') HI.out hJ h1 h2
      have hbw := HI.out.wf HAW.out
      have hix := HI.out.ix
      have hfO : ∀ x ∈ f, x ∈ O := HI.out.ordered.roots
      have hnf := HI.out.nowf
      have hA1 : AliveF b (f.map (posL O Y)) := ⟨hcI.laid.check, hcI.alive hfO⟩
      have hA2 : AliveF d now := ⟨hJD.laid.check, fun x hx => hJD.alive x (List.mem_append_left _ hx)⟩
      generalize posL O Y = φ at *
      rw [← HK.out] at hix
      have HEq := Lib.hid hEq
      have HAA := Lib.hid (fun A5 c5 => HA.out A1 M c1 b hc1 hbw A5 c5 (f.map φ) hnf A3 M c3 d (own_cap hown3) hdw A4 c4 now hnw)
      have HALL := Lib.hid (And.intro hA1 hA2)
      have HIX := Lib.hid hix
      have HFO := Lib.hid hfO
      have hrd := Reads.of_own hown3
      have hrn4 := Reads.of_own hown4
      have hrb3 := (hrb.below hb3).more hb3.size
      have hrO3 := (hrO.below hb3).more hb3.size
      have hrY3 := (hrY.below hb3).more hb3.size
      clear hJ hJD hdw hnw hcI hEq hbw hix hfO hnf hA1 hA2 hown3 hown4 HA HC HS hrb hrO hrY
      go_wp2
      go_loopw [12, 50] (fun v i wr => ∃ (j : Nat) (A6 : Option Addr) (c6 : Nat), j ≤ n2 ∧ v = .slice A6 j c6 ∧ i = .int .i64 j ∧ wr.ownsRow w3.heap.size 3 1 (.slice A6 j c6) j (((f.take j).map φ).map (.int .i64)) ∧ Below w3.heap.size w3 wr) (fun _ i _ => n2 - (intOf i).toNat)
      case atStart => exact ⟨0, none, 0, Nat.zero_le _, rfl, rfl, World.ownsRow_nil _ _ _ _, Below.refl _ _⟩
      case round =>
        obtain ⟨j, A6, c6, hj, rfl, rfl, hown, hb⟩ := hrel
        have hbw := below_step hb03 hb
        by_cases hlt : j < n2
        · obtain ⟨ad, x, rfl, had, hx, cx⟩ := (hr2.below hbw).num hlt
          obtain ⟨q, y, q1, q2, q3, q4⟩ := HIX.out x (HFO.out x (List.mem_of_getElem? hx))
          obtain ⟨adY, y', rfl, hadY, hy', cy⟩ := (hrY3.below hb).num q1
          obtain rfl : y = y' := Option.some.inj (q3.symm.trans hy')
          have HX := index_int AO k cO w3.heap.size O x wr (hrO3.below hb) (by omega)
          rw [q2] at HX
          have HX := Lib.hid HX
          have hown2 := hown.alloc (.cells #[.int .i64 y] 3)
          have hb2' := hb.alloc hb.size (.cells #[.int .i64 y] 3)
          have hnew := reads_new wr [.int .i64 y] 3 1 1 rfl
          have HT : Hid ((f.take (j + 1)).map φ = (f.take j).map φ ++ [y]) := by
            show _ = _
            obtain ⟨z1, z2⟩ := List.getElem?_eq_some_iff.1 hx
            rw [List.take_succ_eq_append_getElem z1, z2, List.map_append, ← q4]
            rfl
          have hj1 : j + 1 ≤ n2 := hlt
          have hsz := hb.size
          have g1 : decide (k ≤ q) = false := decide_eq_false (by omega)
          have g2 : decide ((q : Int) < 0) = false := decide_eq_false (by omega)
          clear q2 q3 q4 hx hy' hown hb
          go_wp2_with fail
          refine HX.out.mono ?_
          rintro e w5 ⟨rfl, rfl⟩
          go_wp2_with (at_builtin; refine wpList_append_any _ rfl (.tmp 65) (.tmp 70) 23 rfl w3.heap.size 3 i0 (.int .i64 0) 1 8 Try.underlying23 hi hz0 hz1 hz2 rfl (by decide) (.slice A6 j c6) j _ rfl hown2 (wr.heap.size + 1) (some ⟨wr.heap.size, 0, none⟩) 1 1 [.int .i64 y] rfl hnew (by simp [Value.oneCell']) (by unfold maxLen; omega) (by omega) (by simp; omega) ?_; rintro v' w5 hown5 hgr - -; obtain ⟨A7, c7, rfl⟩ := own_slice hown5)
          have hb5 := hb2'.grown hgr hb2'.size (fun g hg => (hown2.lt g hg).1)
          go_roundw
          case rel => exact ⟨j + 1, A7, c7, hj1, rfl, by go_num, by rw [HT.out, List.map_append]; exact hown5, hb5⟩
          case measure => simp [intOf]; omega
        · obtain rfl : n2 = j := by omega
          rw [List.take_of_length_le (by rw [HFL.out]; exact Nat.le_refl _)] at hown
          have hrn := Reads.of_own hown
          clear hown
          go_wp2_with fail
          refine (HAA.out A6 c6 _ ((hrb3.below hb).more hb.size) hrn ((hrd.below hb).more hb.size) ((hrn4.below hb).more hb.size)).mono ?_
          rintro e w7 ⟨hb7, ⟨-, -, os, fr, os', fr', h1, h2, rfl⟩ | ⟨hno, -⟩⟩
          · obtain ⟨rfl, rfl⟩ := HEq.out _ _ _ _ h1 h2
            have hb07 := below_step hbw hb7
            clear h1 h2
            simp only [decide_true, Bool.and_self]
            go_wp2
            go_ret
            exact ⟨by first | rfl | simp, hb07⟩
          · exact absurd HALL.out hno
    · exact absurd ⟨HALI.out.1, by rw [List.append_nil]; exact HALI.out.2, rfl⟩ hno
  · have hb02 := below_step hb1 hb2
    have HNO := Lib.hid hno
    clear hno
    go_wp2_with fail
    refine (HS.out _ ((hr.below hb02).more hb02.size) ((hr2.below hb02).more hb02.size)).mono ?_
    rintro e w3 ⟨hb3, ⟨hok, -⟩ | ⟨-, er2, her2, rfl⟩⟩
    · exfalso
      have hn256 : n ≤ 256 := by rw [← HAL.out]; exact (parse_ok (checkE_ok.1 hok.1).1).1
      rcases HNO.out with h | h | h | ⟨O, hO, h⟩
      · exact h ⟨hok.1, fun x hx => hok.2.1 x (List.mem_append_left _ hx)⟩
      · omega
      · omega
      · have := ordered_fits hok.1 hO
        rw [HAL.out] at this
        exact h this
    · have hb03 := below_step hb02 hb3
      have k1 : (er == 0) = false := by simpa using her
      have k2 : (er2 == 0) = false := by simpa using her2
      go_wp2
      go_ret
      exact ⟨by first | rfl | simp, hb03⟩

namespace CarrySlides
open Go.ChangeShapes Go.WideShapes Go.ChangeAt Go.RowKit
theorem own : ownKnob Try.prog.godebug = none := by kernel_rfl
theorem laidOut : laidOutB Try.prog = true := by kernel_rfl

set_option maxRecDepth 100000 in
theorem lifted (os : Os) (started : os.Started) (H : Type) (enc : TypeId × Value → H) :
    ReturnsInHanded {} Try.checked os 7 .any (Rows.carrySlidesSpec.pre6 enc Try.prog Try.f7 Rows.carrySlidesRow.domain false) (Rows.carrySlidesSpec.post enc Try.prog Try.f7 false true false false) := by
  refine returnsInHanded_of_change_sized (C := Try.checked) own started (by as_aux_lemma => kernel_rfl) Try.func7
    (ChangeSpec.witness6 (enc := enc) (C := Try.checked) false ⟨#[], #[.slice none 0 0, .slice none 0 0], []⟩ 8 (by as_aux_lemma => kernel_rfl) (by as_aux_lemma => kernel_rfl) (by as_aux_lemma => kernel_rfl) (by as_aux_lemma => kernel_rfl)) ?_
  intro W base args ds gs before hval0 hW hcnd hsz _
  have hval : ∀ (j : Nat) t v, Try.f7.params[j]? = some t → args[j]? = some v → Value.okWide Try.prog W .any base t v := hval0
  have hW' := hW
  obtain ⟨p, q, hA0, hV, rfl, hfz, hnd⟩ := hW
  have hA : DataW.TrodAll enc Try.prog W 0 (fun _ => true) true Try.f7.params.toList args.toList ds p := hA0
  rw [Try.params7] at hA hval
  obtain ⟨v0, vs0, d0, ds0, p0, q0, hargs, rfl, rfl, h0, hA⟩ := trodAll_cons hA
  obtain ⟨v1, vs1, d1, ds1, p1, q1, rfl, rfl, rfl, h1, hA⟩ := trodAll_cons hA
  obtain ⟨rfl, rfl, rfl⟩ := trodAll_nil hA
  obtain rfl : args = #[v0, v1] := by cases args; simp_all
  obtain ⟨A0, n0, c0, xs0, rfl, hnc0, hc0, hr0, hx0⟩ := open_nums Try.underlying22 Try.underlying42 (by as_aux_lemma => kernel_rfl) (hval 0 _ v0 rfl rfl) (fun x hx => hW'.lt x (by simp [hx])) h0
  obtain ⟨A1, n1, c1, xs1, rfl, hnc1, hc1, hr1, hx1, hd1⟩ := open_nums2 Try.underlying23 Try.underlying3 (by as_aux_lemma => kernel_rfl) (hval 1 _ v1 rfl rfl) (fun x hx => hW'.lt x (by simp [hx])) h1
  have hm1 : n1 * 8 ≤ 140737488351232 := by
    rcases hd1 with h0 | ⟨D, E, rfl, hD⟩
    · omega
    · have h5 : (D.length + E.length) * Try.prog.bytesOf 3 ≤ reachBytes := sized_slice hsz (j := 1) (t := 23) (e := 3) rfl rfl Try.underlying23
      rw [k_int_bytes, hD] at h5
      simp only [reachBytes] at h5
      omega
  refine (carrySlides_any A0 n0 c0 xs0 A1 n1 c1 xs1 W hr0 hnc0 hc0 hx0 hr1 hnc1 hc1 hx1 hm1).mono fun e W' ⟨he, hb⟩ => ?_
  subst he
  exact ⟨_, rfl, law_post laidOut Try.underlying4 rfl (by as_aux_lemma => kernel_rfl) rfl rfl hW' hb⟩

set_option maxHeartbeats 10000000 in
theorem closed : joinedFacts Try.prog 7 Try.f7 Rows.carrySlidesSpec Rows.carrySlidesRow = true := by
  unfold joinedFacts
  simp only [Bool.and_eq_true]
  repeat' apply And.intro
  all_goals as_aux_lemma => kernel_rfl

set_option maxHeartbeats 1000000 in
theorem proved : Rows.CarrySlidesSaid :=
  OpenClaim.holds_of_wide 7 Try.f7 rfl rfl rfl rfl rfl rfl rfl ⟨rfl, rfl, rfl, rfl, rfl⟩ rfl rfl rfl rfl rfl (by as_aux_lemma => kernel_rfl) Try.func7 closed
    (of_decide_eq_true (by as_aux_lemma => kernel_rfl)) (by unfold Func.isWrapper; first | (rw [if_pos (by decide +kernel)]; kernel_rfl) | (rw [if_neg (by decide +kernel)]; exact ⟨rfl, rfl⟩))
    (fun os started H enc _ => lifted os started H enc)
end CarrySlides
end Go.Proofs.Ytammailnbgojgaa
