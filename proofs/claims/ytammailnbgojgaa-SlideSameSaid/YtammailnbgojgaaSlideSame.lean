/-
  SlideSame answers true for all arenas and lists, and changes no argument: a compacted heap is isomorphic to the original one.
-/
import Derived.Test.YtammailnbgojgaaCleanLaw
import Derived.Test.YtammailnbgojgaaAlike
import Derived.Test.YtammailnbgojgaaLaw
import Derived.Test.YtammailnbgojgaaLawNums
namespace Go.Proofs.Ytammailnbgojgaa
open Go.RowKit

set_option maxRecDepth 100000 in
set_option maxHeartbeats 2000000 in
theorem slideSame_any (A : Option Addr) (n c : Nat) (a : List Int) (A2 : Option Addr) (n2 c2 : Nat) (f : List Int) (A3 : Option Addr) (m c3 : Nat) (p : List Int) (w : World) (hr : Reads w w.heap.size 1 A n (a.map (.int .u64))) (hnc : n ≤ c) (hc : c ≤ maxLen) (ha : ∀ x ∈ a, (Lit.int .u64 x).wf = true)
    (hr2 : Reads w w.heap.size 1 A2 n2 (f.map (.int .i64))) (hnc2 : n2 ≤ c2) (hc2 : c2 ≤ maxLen) (hx2 : ∀ z ∈ f, (Lit.int .i64 z).wf = true) (hn2 : n2 * 8 ≤ 140737488351232)
    (hr3 : Reads w w.heap.size 1 A3 m (p.map (.int .i64))) (hnc3 : m ≤ c3) (hc3 : c3 ≤ maxLen) (hx3 : ∀ z ∈ p, (Lit.int .i64 z).wf = true) (hm : m * 8 ≤ 140737488351232) :
    Calls Try.prog 3 #[.slice A n c, .slice A2 n2 c2, .slice A3 m c3] w fun e w' => e = .returned (.bool true) ∧ Below w.heap.size w w' := by
  clear hnc2 hc2 hnc3 hc3
  have hal : a.length = n := by have := hr.1; simpa using this
  have hpl : p.length = m := by have := hr3.1; simpa using this
  have HC := Lib.hid (fun w hr hr2 hr3 => clean_any A n c a A2 n2 c2 f A3 m c3 p w hr hnc hc ha hr2 hn2 hx2 hr3 hm hx3)
  have hxx : ∀ x ∈ f ++ p, (Lit.int .i64 x).wf = true := fun x hx => by
    rcases List.mem_append.1 hx with h | h
    · exact hx2 x h
    · exact hx3 x h
  have HA := Lib.hid (fun A4 c4 n4 (hn4 : n4 * 8 ≤ 140737488355328) A1 c1 (b : List Int) (h1 : n ≤ c1) (hb : ∀ x ∈ b, (Lit.int .u64 x).wf = true) A5 c5 (g : List Int) (hg : ∀ x ∈ g, (Lit.int .i64 x).wf = true) w hr hr4 hrb hr5 => alike_any A n c a A4 n4 c4 (f ++ p) A1 n c1 b A5 n4 c5 g w hr hnc ha hr4 hn4 hxx hrb h1 hb hr5 hn4 hg)
  have HX3 := Lib.hid hx3
  have HAW := Lib.hid ha
  have HPL := Lib.hid hpl
  clear ha hx2 hx3 hxx hpl
  go_enter Try.func3, Try.ntmps3
  go_wp2_with fail
  refine (slides_true _).mono ?_
  rintro e w1 ⟨rfl, hb1⟩
  go_wp2_with fail
  refine (HC.out _ ((hr.below hb1).more hb1.size) ((hr2.below hb1).more hb1.size) ((hr3.below hb1).more hb1.size)).mono ?_
  rintro e w2 ⟨hb2, ⟨hok, L, Y, b, now, A1, c1, A4, c4, hI, rfl, hown1, hown4⟩ | ⟨-, er, her, rfl⟩⟩
  · have hb02 := below_step hb1 hb2
    have hD := cleaned_of hI
    obtain ⟨hbw, hnw⟩ := hD.wf hI HAW.out
    have hpm := rises_len hI.check hI.rises (fun x hx => hI.reached.begs x (hI.reached.roots x (List.mem_append_right _ hx)))
    rw [HPL.out] at hpm
    have hxn : ∀ x ∈ now ++ p, (Lit.int .i64 x).wf = true := fun x hx => by
      rcases List.mem_append.1 hx with h | h
      · exact hnw x h
      · exact HX3.out x h
    have hA1 : AliveF a (f ++ p) := ⟨hI.check, fun x hx => hI.reached.begs x (hI.reached.roots x hx)⟩
    have hA2 : AliveF b (now ++ p) := ⟨hD.laid.check, hD.alive⟩
    have HEq := Lib.hid (fun os os' fr fr' h1 h2 => hD.form (os := os) (os' := os') (fr := fr) (fr' := fr') h1 h2)
    have hc1 := own_cap hown1
    have HAA := Lib.hid (fun (A4 : Option Addr) (c4 : Nat) => HA.out A4 c4 (n2 + m) (by omega) A1 c1 b hc1 hbw)
    have HAL : Hid (AliveF a (f ++ p) ∧ AliveF b (now ++ p)) := ⟨hA1, hA2⟩
    have HXN := Lib.hid hxn
    have hr4 := Reads.of_own hown4
    have hrb := Reads.of_own hown1
    have hv := reads_new w2 [.slice A2 n2 c2, .slice A3 m c3] 23 2 1 rfl
    have hbn := below_new w2 (.cells #[.slice A2 n2 c2, .slice A3 m c3] 23)
    have hb03 := below_step hb02 hbn
    have HCo := Lib.hid (concat2_int A2 n2 c2 (f.map (.int .i64)) A3 m c3 (p.map (.int .i64)) (some ⟨w2.heap.size, 0, none⟩) 2 _ (hv.more (by simp)) ((hr2.below hb03).more hb03.size) ((hr3.below hb03).more hb03.size) (ints_one f) (ints_one p) (by omega))
    clear hown1 hown4 hI hD hbw hnw hA1 hA2 hxn hv hok HA HC
    go_wp2_with fail
    refine HCo.out.mono ?_
    rintro e w4 ⟨A5, c5, rfl, hown5, hb4⟩
    rw [← List.map_append] at hown5
    have hb24 := below_step hbn hb4
    have hb04 := below_step hb02 hb24
    have hr5 := Reads.of_own hown5
    have hv := reads_new w4 [.slice A4 n2 c4, .slice A3 m c3] 23 2 1 rfl
    have hbn4 := below_new w4 (.cells #[.slice A4 n2 c4, .slice A3 m c3] 23)
    have hb25 := below_step hb24 hbn4
    have hb05 := below_step hb02 hb25
    have HCo2 := Lib.hid (concat2_int A4 n2 c4 (now.map (.int .i64)) A3 m c3 (p.map (.int .i64)) (some ⟨w4.heap.size, 0, none⟩) 2 _ (hv.more (by simp)) ((hr4.below hb25).more hb25.size) ((hr3.below hb05).more hb05.size) (ints_one now) (ints_one p) (by omega))
    clear hown5 hv HCo
    go_wp2_with fail
    refine HCo2.out.mono ?_
    rintro e w6 ⟨A6, c6, rfl, hown6, hb6⟩
    rw [← List.map_append] at hown6
    have hr6 := Reads.of_own hown6
    have hb26 := below_step hb25 hb6
    have hb46 := below_step hbn4 hb6
    have hb06 := below_step hb02 hb26
    clear hown6 HCo2
    go_wp2_with fail
    refine (HAA.out A5 c5 A6 c6 (now ++ p) HXN.out _ ((hr.below hb06).more hb06.size) ((hr5.below hb46).more hb46.size) ((hrb.below hb26).more hb26.size) hr6).mono ?_
    rintro e w7 ⟨hb7, ⟨-, -, os, fr, os', fr', h1, h2, rfl⟩ | ⟨hno, -⟩⟩
    · obtain ⟨rfl, rfl⟩ := HEq.out _ _ _ _ h1 h2
      have hb07 := below_step hb06 hb7
      clear h1 h2
      simp only [decide_true, Bool.and_self]
      go_wp2
      go_ret
      exact ⟨by first | rfl | simp, hb07⟩
    · exact absurd HAL.out hno
  · have hb02 := below_step hb1 hb2
    go_wp2
    go_ret
    exact ⟨by first | rfl | simp, hb02⟩

namespace SlideSame
open Go.ChangeShapes Go.WideShapes Go.ChangeAt Go.RowKit
theorem own : ownKnob Try.prog.godebug = none := by kernel_rfl
theorem laidOut : laidOutB Try.prog = true := by kernel_rfl

set_option maxRecDepth 100000 in
theorem lifted (os : Os) (started : os.Started) (H : Type) (enc : TypeId × Value → H) :
    ReturnsInHanded {} Try.checked os 3 .any (Rows.slideSameSpec.pre6 enc Try.prog Try.f3 Rows.slideSameRow.domain false) (Rows.slideSameSpec.post enc Try.prog Try.f3 false true false false) := by
  refine returnsInHanded_of_change_sized (C := Try.checked) own started (by as_aux_lemma => kernel_rfl) Try.func3
    (ChangeSpec.witness6 (enc := enc) (C := Try.checked) false ⟨#[], #[.slice none 0 0, .slice none 0 0, .slice none 0 0], []⟩ 8 (by as_aux_lemma => kernel_rfl) (by as_aux_lemma => kernel_rfl) (by as_aux_lemma => kernel_rfl) (by as_aux_lemma => kernel_rfl)) ?_
  intro W base args ds gs before hval0 hW hcnd hsz _
  have hval : ∀ (j : Nat) t v, Try.f3.params[j]? = some t → args[j]? = some v → Value.okWide Try.prog W .any base t v := hval0
  have hW' := hW
  obtain ⟨p, q, hA0, hV, rfl, hfz, hnd⟩ := hW
  have hA : DataW.TrodAll enc Try.prog W 0 (fun _ => true) true Try.f3.params.toList args.toList ds p := hA0
  rw [Try.params3] at hA hval
  obtain ⟨v0, vs0, d0, ds0, p0, q0, hargs, rfl, rfl, h0, hA⟩ := trodAll_cons hA
  obtain ⟨v1, vs1, d1, ds1, p1, q1, rfl, rfl, rfl, h1, hA⟩ := trodAll_cons hA
  obtain ⟨v2, vs2, d2, ds2, p2, q2, rfl, rfl, rfl, h2, hA⟩ := trodAll_cons hA
  obtain ⟨rfl, rfl, rfl⟩ := trodAll_nil hA
  obtain rfl : args = #[v0, v1, v2] := by cases args; simp_all
  obtain ⟨A0, n0, c0, xs0, rfl, hnc0, hc0, hr0, hx0⟩ := open_nums Try.underlying22 Try.underlying42 (by as_aux_lemma => kernel_rfl) (hval 0 _ v0 rfl rfl) (fun x hx => hW'.lt x (by simp [hx])) h0
  obtain ⟨A1, n1, c1, xs1, rfl, hnc1, hc1, hr1, hx1, hd1⟩ := open_nums2 Try.underlying23 Try.underlying3 (by as_aux_lemma => kernel_rfl) (hval 1 _ v1 rfl rfl) (fun x hx => hW'.lt x (by simp [hx])) h1
  have hm1 : n1 * 8 ≤ 140737488351232 := by
    rcases hd1 with h0 | ⟨D, E, rfl, hD⟩
    · omega
    · have h5 : (D.length + E.length) * Try.prog.bytesOf 3 ≤ reachBytes := sized_slice hsz (j := 1) (t := 23) (e := 3) rfl rfl Try.underlying23
      rw [k_int_bytes, hD] at h5
      simp only [reachBytes] at h5
      omega
  obtain ⟨A2, n2, c2, xs2, rfl, hnc2, hc2, hr2, hx2, hd2⟩ := open_nums2 Try.underlying23 Try.underlying3 (by as_aux_lemma => kernel_rfl) (hval 2 _ v2 rfl rfl) (fun x hx => hW'.lt x (by simp [hx])) h2
  have hm2 : n2 * 8 ≤ 140737488351232 := by
    rcases hd2 with h0 | ⟨D, E, rfl, hD⟩
    · omega
    · have h5 : (D.length + E.length) * Try.prog.bytesOf 3 ≤ reachBytes := sized_slice hsz (j := 2) (t := 23) (e := 3) rfl rfl Try.underlying23
      rw [k_int_bytes, hD] at h5
      simp only [reachBytes] at h5
      omega
  refine (slideSame_any A0 n0 c0 xs0 A1 n1 c1 xs1 A2 n2 c2 xs2 W hr0 hnc0 hc0 hx0 hr1 hnc1 hc1 hx1 hm1 hr2 hnc2 hc2 hx2 hm2).mono fun e W' ⟨he, hb⟩ => ?_
  subst he
  exact ⟨_, rfl, law_post laidOut Try.underlying4 rfl (by as_aux_lemma => kernel_rfl) rfl rfl hW' hb⟩

set_option maxHeartbeats 10000000 in
theorem closed : joinedFacts Try.prog 3 Try.f3 Rows.slideSameSpec Rows.slideSameRow = true := by
  unfold joinedFacts
  simp only [Bool.and_eq_true]
  repeat' apply And.intro
  all_goals as_aux_lemma => kernel_rfl

set_option maxHeartbeats 1000000 in
theorem proved : Rows.SlideSameSaid :=
  OpenClaim.holds_of_wide 3 Try.f3 rfl rfl rfl rfl rfl rfl rfl ⟨rfl, rfl, rfl, rfl, rfl⟩ rfl rfl rfl rfl rfl (by as_aux_lemma => kernel_rfl) Try.func3 closed
    (of_decide_eq_true (by as_aux_lemma => kernel_rfl)) (by unfold Func.isWrapper; first | (rw [if_pos (by decide +kernel)]; kernel_rfl) | (rw [if_neg (by decide +kernel)]; exact ⟨rfl, rfl⟩))
    (fun os started H enc _ => lifted os started H enc)
end SlideSame
end Go.Proofs.Ytammailnbgojgaa
