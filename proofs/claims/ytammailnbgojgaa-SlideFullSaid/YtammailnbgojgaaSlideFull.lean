/-
  SlideFull answers true for all arenas and lists, and changes no argument: after compaction the words outside of gaps are exactly those of the reachable objects.
-/
import Derived.Test.YtammailnbgojgaaCleanGaps
import Derived.Test.YtammailnbgojgaaGood
import Derived.Test.YtammailnbgojgaaLaw
import Derived.Test.YtammailnbgojgaaLawNums
namespace Go.Proofs.Ytammailnbgojgaa
open Go.RowKit

set_option maxRecDepth 100000 in
set_option maxHeartbeats 2000000 in
theorem slideFull_any (A : Option Addr) (n c : Nat) (a : List Int) (A2 : Option Addr) (n2 c2 : Nat) (f : List Int) (A3 : Option Addr) (m c3 : Nat) (p : List Int) (w : World) (hr : Reads w w.heap.size 1 A n (a.map (.int .u64))) (hnc : n ≤ c) (hc : c ≤ maxLen) (ha : ∀ x ∈ a, (Lit.int .u64 x).wf = true)
    (hr2 : Reads w w.heap.size 1 A2 n2 (f.map (.int .i64))) (hnc2 : n2 ≤ c2) (hc2 : c2 ≤ maxLen) (hx2 : ∀ z ∈ f, (Lit.int .i64 z).wf = true) (hn2 : n2 * 8 ≤ 140737488351232)
    (hr3 : Reads w w.heap.size 1 A3 m (p.map (.int .i64))) (hnc3 : m ≤ c3) (hc3 : c3 ≤ maxLen) (hx3 : ∀ z ∈ p, (Lit.int .i64 z).wf = true) (hm : m * 8 ≤ 140737488351232) :
    Calls Try.prog 4 #[.slice A n c, .slice A2 n2 c2, .slice A3 m c3] w fun e w' => e = .returned (.bool true) ∧ Below w.heap.size w w' := by
  clear hnc2 hc2 hnc3 hc3
  have hal : a.length = n := by have := hr.1; simpa using this
  have hpl : p.length = m := by have := hr3.1; simpa using this
  have HC := Lib.hid (fun w hr hr2 hr3 => clean_any A n c a A2 n2 c2 f A3 m c3 p w hr hnc hc ha hr2 hn2 hx2 hr3 hm hx3)
  have hxx : ∀ x ∈ f ++ p, (Lit.int .i64 x).wf = true := fun x hx => by
    rcases List.mem_append.1 hx with h | h
    · exact hx2 x h
    · exact hx3 x h
  have HW := Lib.hid (fun A4 c4 L w hr hr4 hE hL => twords_ok A n c a A4 (n2 + m) c4 (f ++ p) L w hr hnc ha hr4 (by omega) hxx hE hL)
  have HAW := Lib.hid ha
  have HPL := Lib.hid hpl
  have HAL := Lib.hid hal
  clear ha hx2 hx3 hxx hpl hal
  go_enter Try.func4, Try.ntmps4
  go_wp2_with fail
  refine (slides_true _).mono ?_
  rintro e w1 ⟨rfl, hb1⟩
  go_wp2_with fail
  refine (HC.out _ ((hr.below hb1).more hb1.size) ((hr2.below hb1).more hb1.size) ((hr3.below hb1).more hb1.size)).mono ?_
  rintro e w2 ⟨hb2, ⟨hok, L, Y, b, now, A1, c1, A4, c4, hI, rfl, hown1, hown4⟩ | ⟨-, er, her, rfl⟩⟩
  · have hb02 := below_step hb1 hb2
    have hD := cleaned_of hI
    obtain ⟨hbw, -⟩ := hD.wf hI HAW.out
    obtain ⟨-, g2, g3, g4, g5⟩ := hD.gaps hI
    rw [HPL.out] at g4
    rw [HAL.out] at g2
    have hc1 := own_cap hown1
    have hchk := hD.laid.check
    have HG := Lib.hid (fun w hrb => ggapsE_any A1 n c1 b w hrb hc1 hbw)
    have HK := Lib.hid (fun w hrb => checkFn_any A1 n c1 b w hrb hc1 hbw)
    have HW2 := Lib.hid (fun (A4 : Option Addr) (c4 : Nat) w hr hr4 => HW.out A4 c4 L w hr hr4 hI.check hI.reached)
    rw [hchk] at HG HK
    have hrb := Reads.of_own hown1
    have hN256 := hD.len256
    rw [HAL.out] at hN256
    generalize longsL (spotsL a) L = v at *
    generalize ggL b = G at *
    have hRT := rsum_takeG g3
    have hRM := rsum_mono (fun r hr => (g3 r hr).1)
    have hR0 := hRT G.length (Nat.le_refl _)
    rw [List.take_length] at hR0
    obtain ⟨g, hg⟩ : ∃ g, g = G.length := ⟨_, rfl⟩
    rw [← hg] at g4 g5 HG hR0
    have HGL := Lib.hid hg
    have HRT := Lib.hid hRT
    have HRM := Lib.hid hRM
    have HG2 := Lib.hid g2
    have hv2 : 0 ≤ v ∧ v ≤ 256 ∨ True := .inr trivial
    have hv := reads_new w2 [.slice A2 n2 c2, .slice A3 m c3] 23 2 1 rfl
    have hbn := below_new w2 (.cells #[.slice A2 n2 c2, .slice A3 m c3] 23)
    have hb03 := below_step hb02 hbn
    have HCo := Lib.hid (concat2_int A2 n2 c2 (f.map (.int .i64)) A3 m c3 (p.map (.int .i64)) (some ⟨w2.heap.size, 0, none⟩) 2 _ (hv.more (by simp)) ((hr2.below hb03).more hb03.size) ((hr3.below hb03).more hb03.size) (ints_one f) (ints_one p) (by omega))
    have hvb : v ≤ 256 := by omega
    have hva : -65792 ≤ v := by omega
    have hms : (m : Int) ≤ 140737488351232 := by omega
    clear hown1 hown4 hI hD hbw hv hok HW HC hg hRT hRM g2 hchk g3 hv2
    go_wp2_with fail
    refine HCo.out.mono ?_
    rintro e w4 ⟨A5, c5, rfl, hown5, hb4⟩
    rw [← List.map_append] at hown5
    have hb24 := below_step hbn hb4
    have hb04 := below_step hb02 hb24
    have hr5 := Reads.of_own hown5
    clear hown5 HCo
    go_wp2_with fail
    refine (HW2.out _ _ _ ((hr.below hb04).more hb04.size) hr5).mono ?_
    rintro e w5 ⟨hb5, rfl⟩
    have hb25 := below_step hb24 hb5
    have hb05 := below_step hb02 hb25
    go_wp2_with fail
    refine (HG.out _ ((hrb.below hb25).more hb25.size)).mono ?_
    rintro e w6 ⟨hb6, AG, cG, rfl, hownG⟩
    have hb26 := below_step hb25 hb6
    have hb06 := below_step hb02 hb26
    have hrG := Reads.of_own hownG
    clear hownG hb5 hb25 hb05 hb24 hb04 hb4 hb03 hbn
    go_wp2
    go_loopw [14, 45] (fun fr i wr => ∃ (j : Nat) (u : Int), j ≤ g ∧ i = .int .i64 j ∧ fr = .int .i64 u ∧ 0 ≤ u ∧ u ≤ 65792 ∧ Hid (u = rsum (G.take j)) ∧ Below w6.heap.size w6 wr) (fun _ i _ => g - (intOf i).toNat)
    case atStart => exact ⟨0, 0, Nat.zero_le _, rfl, rfl, by omega, by omega, rfl, Below.refl _ _⟩
    case round =>
      obtain ⟨i, u, hi, rfl, rfl, hu0, hu1, hu, hb⟩ := hrel
      by_cases hlt : i < g
      · obtain ⟨ad, r, rfl, had, hs, k0, k1⟩ := (hrG.below hb).run hlt
        have HT : Hid (G.take (i + 1) = G.take i ++ [r]) := by
          show _ = _
          obtain ⟨h1, rfl⟩ := List.getElem?_eq_some_iff.1 hs
          exact List.take_succ_eq_append_getElem h1
        have HU2 : Hid (u + r.len = rsum (G.take (i + 1))) := by
          show _ = _
          rw [HT.out, rsum_append, hu.out]
          simp only [rsum]
          omega
        have hbd := HRT.out (i + 1) (by have := HGL.out; omega)
        have hu2 := HU2.out
        have hbd2 : 0 ≤ u + r.len ∧ u + r.len ≤ 65792 := by
          rw [hu2]; omega
        obtain ⟨l, k⟩ := r
        dsimp only at *
        have hw : IntKind.i64.wrap (u + k) = u + k := IntWalk.i64_in _ (by omega)
        have hbx := hb.alloc hb.size (.cells #[.int .i64 l, .int .i64 k] 38)
        clear hs hbd hu2
        go_wp2
        go_roundw
        case rel => exact ⟨i + 1, u + k, by omega, by go_num, rfl, hbd2.1, hbd2.2, HU2, hbx⟩
        case measure => simp [intOf]; omega
      · obtain rfl : g = i := by omega
        have hu' := hu.out
        rw [List.take_of_length_le (by rw [← HGL.out]; exact Nat.le_refl _)] at hu'
        have huv : v + u = n := by have := HG2.out; omega
        have HUV := Lib.hid huv
        have hw : IntKind.i64.wrap (v + u) = n := by rw [IntWalk.i64_in _ (by omega)]; exact huv
        have hw2 : IntKind.i64.wrap ((m : Int) + 1) = (m : Int) + 1 := IntWalk.i64_in _ (by omega)
        have hfew : (g : Int) ≤ (m : Int) + 1 := by omega
        have hx0 := reads_new wr [.int .i64 0, .int .i64 0] 25 2 1 rfl
        have hbn := below_new wr (.cells #[.int .i64 0, .int .i64 0] 25)
        have HGo := Lib.hid (good_of (some ⟨wr.heap.size, 0, none⟩) 2 2 _ [0, 0] true _ (by decide) (by simpa using hx0) (by decide))
        have hb2r := below_step (below_step hb26 hb) hbn
        have hb0r := below_step hb02 hb2r
        have HK2 := Lib.hid (HK.out _ ((hrb.below hb2r).more hb2r.size))
        have hnn : ((n : Int) == (n : Int)) = true := by simp
        clear hu' huv hx0
        go_wp2_with (first | (with_reducible refine HGo.out.mono ?_; rintro e w8 ⟨rfl, rfl⟩) | (with_reducible refine HK2.out.mono ?_; rintro e w8 ⟨rfl, hb8⟩; have hb9 := below_step hb0r hb8))
        go_ret
        exact ⟨by first | rfl | simp [hfew], hb9⟩
  · have hb02 := below_step hb1 hb2
    go_wp2
    go_ret
    exact ⟨by first | rfl | simp, hb02⟩

namespace SlideFull
open Go.ChangeShapes Go.WideShapes Go.ChangeAt Go.RowKit
theorem own : ownKnob Try.prog.godebug = none := by kernel_rfl
theorem laidOut : laidOutB Try.prog = true := by kernel_rfl

set_option maxRecDepth 100000 in
theorem lifted (os : Os) (started : os.Started) (H : Type) (enc : TypeId × Value → H) :
    ReturnsInHanded {} Try.checked os 4 .any (Rows.slideFullSpec.pre6 enc Try.prog Try.f4 Rows.slideFullRow.domain false) (Rows.slideFullSpec.post enc Try.prog Try.f4 false true false false) := by
  refine returnsInHanded_of_change_sized (C := Try.checked) own started (by as_aux_lemma => kernel_rfl) Try.func4
    (ChangeSpec.witness6 (enc := enc) (C := Try.checked) false ⟨#[], #[.slice none 0 0, .slice none 0 0, .slice none 0 0], []⟩ 8 (by as_aux_lemma => kernel_rfl) (by as_aux_lemma => kernel_rfl) (by as_aux_lemma => kernel_rfl) (by as_aux_lemma => kernel_rfl)) ?_
  intro W base args ds gs before hval0 hW hcnd hsz _
  have hval : ∀ (j : Nat) t v, Try.f4.params[j]? = some t → args[j]? = some v → Value.okWide Try.prog W .any base t v := hval0
  have hW' := hW
  obtain ⟨p, q, hA0, hV, rfl, hfz, hnd⟩ := hW
  have hA : DataW.TrodAll enc Try.prog W 0 (fun _ => true) true Try.f4.params.toList args.toList ds p := hA0
  rw [Try.params4] at hA hval
  obtain ⟨v0, vs0, d0, ds0, p0, q0, hargs, rfl, rfl, h0, hA⟩ := trodAll_cons hA
  obtain ⟨v1, vs1, d1, ds1, p1, q1, rfl, rfl, rfl, h1, hA⟩ := trodAll_cons hA
  obtain ⟨v2, vs2, d2, ds2, p2, q2, rfl, rfl, rfl, h2, hA⟩ := trodAll_cons hA
  obtain ⟨rfl, rfl, rfl⟩ := trodAll_nil hA
  obtain rfl : args = #[v0, v1, v2] := by cases args; simp_all
  obtain ⟨A0, n0, c0, xs0, rfl, hnc0, hc0, hr0, hx0⟩ := open_nums Try.underlying22 Try.underlying42 (by as_aux_lemma => kernel_rfl) (hval 0 _ v0 rfl rfl) (fun x hx => hW'.lt x (by simp [hx])) h0
  obtain ⟨A1, n1, c1, xs1, rfl, hnc1, hc1, hr1, hx1, hd1⟩ := open_nums2 Try.underlying23 Try.underlying3 (by as_aux_lemma => kernel_rfl) (hval 1 _ v1 rfl rfl) (fun x hx => hW'.lt x (by simp [hx])) h1
  have hm1 : n1 * 8 ≤ 140737488351232 := by
    rcases hd1 with h0 | ⟨D, E, rfl, hD⟩
    · omega
    · have h5 : (D.length + E.length) * Try.prog.bytesOf 3 ≤ reachBytes := sized_slice hsz (j := 1) (t := 23) (e := 3) rfl rfl Try.underlying23
      rw [k_int_bytes, hD] at h5
      simp only [reachBytes] at h5
      omega
  obtain ⟨A2, n2, c2, xs2, rfl, hnc2, hc2, hr2, hx2, hd2⟩ := open_nums2 Try.underlying23 Try.underlying3 (by as_aux_lemma => kernel_rfl) (hval 2 _ v2 rfl rfl) (fun x hx => hW'.lt x (by simp [hx])) h2
  have hm2 : n2 * 8 ≤ 140737488351232 := by
    rcases hd2 with h0 | ⟨D, E, rfl, hD⟩
    · omega
    · have h5 : (D.length + E.length) * Try.prog.bytesOf 3 ≤ reachBytes := sized_slice hsz (j := 2) (t := 23) (e := 3) rfl rfl Try.underlying23
      rw [k_int_bytes, hD] at h5
      simp only [reachBytes] at h5
      omega
  refine (slideFull_any A0 n0 c0 xs0 A1 n1 c1 xs1 A2 n2 c2 xs2 W hr0 hnc0 hc0 hx0 hr1 hnc1 hc1 hx1 hm1 hr2 hnc2 hc2 hx2 hm2).mono fun e W' ⟨he, hb⟩ => ?_
  subst he
  exact ⟨_, rfl, law_post laidOut Try.underlying4 rfl (by as_aux_lemma => kernel_rfl) rfl rfl hW' hb⟩

set_option maxHeartbeats 10000000 in
theorem closed : joinedFacts Try.prog 4 Try.f4 Rows.slideFullSpec Rows.slideFullRow = true := by
  unfold joinedFacts
  simp only [Bool.and_eq_true]
  repeat' apply And.intro
  all_goals as_aux_lemma => kernel_rfl

set_option maxHeartbeats 1000000 in
theorem proved : Rows.SlideFullSaid :=
  OpenClaim.holds_of_wide 4 Try.f4 rfl rfl rfl rfl rfl rfl rfl ⟨rfl, rfl, rfl, rfl, rfl⟩ rfl rfl rfl rfl rfl (by as_aux_lemma => kernel_rfl) Try.func4 closed
    (of_decide_eq_true (by as_aux_lemma => kernel_rfl)) (by unfold Func.isWrapper; first | (rw [if_pos (by decide +kernel)]; kernel_rfl) | (rw [if_neg (by decide +kernel)]; exact ⟨rfl, rfl⟩))
    (fun os started H enc _ => lifted os started H enc)
end SlideFull
end Go.Proofs.Ytammailnbgojgaa
