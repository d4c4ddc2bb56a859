/-
  TintClosed answers true for all arenas and lists, and changes no argument: the reachable objects include the start objects and are closed under references.
-/
import Derived.Test.YthfjopnomkfegabTintFns
import Derived.Test.YthfjopnomkfegabTintWords
import Derived.Test.YthfjopnomkfegabIsSorted
import Derived.Test.YthfjopnomkfegabLaw
import Derived.Test.YthfjopnomkfegabLawNums
namespace Go.Proofs.Ythfjopnomkfegab
open Go.RowKit

set_option maxRecDepth 100000 in
set_option maxHeartbeats 2000000 in
theorem tintClosed_any (A : Option Addr) (n c : Nat) (a : List Int) (A2 : Option Addr) (n2 c2 : Nat) (f : List Int) (w : World) (hr : Reads w w.heap.size 1 A n (a.map (.int .u64))) (hnc : n ≤ c) (hc : c ≤ maxLen) (ha : ∀ x ∈ a, (Lit.int .u64 x).wf = true)
    (hr2 : Reads w w.heap.size 1 A2 n2 (f.map (.int .i64))) (hnc2 : n2 ≤ c2) (hc2 : c2 ≤ maxLen) (hx2 : ∀ x ∈ f, (Lit.int .i64 x).wf = true) (hm1 : n2 * 8 ≤ 140737488351232) :
    Calls Try.prog 6 #[.slice A n c, .slice A2 n2 c2] w fun e w' => e = .returned (.bool true) ∧ Below w.heap.size w w' := by
  have hn2 : n2 ≤ 1000000000000000000 := by omega
  clear hc hnc2 hc2 hm1
  by_cases hE : checkE a = 0
  · have h0 := (checkE_ok.1 hE).1
    have H1 := Lib.hid (fun w hr hr2 => reach_ok A n c a A2 n2 c2 f w hr hnc ha hr2 hn2 hx2 hE)
    have HRf := Lib.hid (fun x s w hr hs => refsAt_ok A n c a x s w hr hnc ha hE hs)
    have HBg := Lib.hid (fun w hr => begins_any A n c a w hr ha)
    have HBb := Lib.hid (begsL_bounds h0)
    have hal := (parse_ok h0).1
    have hkb : (begsL (spotsL a)).length ≤ 256 := by
      unfold begsL
      rw [List.length_map]
      have := List.length_filter_le (fun s : Spot => !s.f) (spotsL a)
      have := spotsL_length a
      omega
    generalize spotsL a = S at *
    clear hE h0 ha hx2
    go_enter Try.func6, Try.ntmps6
    go_wp2_with fail
    refine (tints_true _).mono ?_
    rintro e w1 ⟨rfl, hb1⟩
    go_wp2_with fail
    refine (H1.out _ ((hr.below hb1).more hb1.size) ((hr2.below hb1).more hb1.size)).mono ?_
    rintro e w2 ⟨hb2, ⟨L, A3, c3, hL, rfl, hown⟩ | ⟨-, rfl⟩⟩
    · have hb02 := below_step hb1 hb2
      have hL256 : L.length ≤ 256 := nodup_bound 256 L hL.once (fun x hx => HBb.out x (hL.begs x hx))
      obtain ⟨k, hk⟩ : ∃ k, k = L.length := ⟨_, rfl⟩
      rw [← hk] at hown hL256 ⊢
      have hrL := Reads.of_own hown
      have HK := Lib.hid hk
      have HL := Lib.hid hL
      have hr02 := hr.below hb02
      clear hown hk hL hb1 hb2
      go_wp2
      go_loopw [24] (fun i wr => ∃ j : Nat, j ≤ k ∧ i = .int .i64 j ∧ Below w2.heap.size w2 wr) (fun i _ => k - (intOf i).toNat)
      case atStart => exact ⟨0, Nat.zero_le _, rfl, Below.refl _ _⟩
      case round =>
        obtain ⟨j, hj, rfl, hb⟩ := hrel
        have hbw := below_step hb02 hb
        by_cases hlt : j < k
        · obtain ⟨ad, x, rfl, had, hx, cx⟩ := (hrL.below hb).num hlt
          have hxL := List.mem_of_getElem? hx
          obtain ⟨s, hs⟩ := begsL_iff.1 (HL.out.begs x hxL)
          have hcl := HL.out.closed x hxL
          have hlk : linksAt a S x = linksL a s := by unfold linksAt; rw [hs]
          rw [hlk] at hcl
          have HR := Lib.hid (HRf.out x s wr ((hr.below hbw).more hbw.size) hs)
          have HD : Hid (decide (∀ y ∈ linksL a s, y ∈ L) = true) := decide_eq_true hcl
          have HLen : Hid ((linksL a s).length ≤ 100000) := by
            have h1 : (linksL a s).length ≤ (refsOf a s).length := by
              unfold linksL
              rw [List.length_map]
              exact List.length_filter_le _ _
            have h2 : (refsOf a s).length ≤ a.length := by unfold refsOf; rw [List.length_take, List.length_drop]; omega
            show _ ≤ _
            omega
          have hj1 : j + 1 ≤ k := hlt
          clear hx hxL hcl hlk
          generalize linksL a s = M at *
          clear hs
          go_wp2_with fail
          refine HR.out.mono ?_
          rintro e w5 ⟨hb5, A5, c5, rfl, hown5⟩
          have hbx := hb.trans (hb5.mono hb.size)
          have HW := Lib.hid (within_two A5 (some ad) M.length c5 k c3 M L true w5 (Reads.of_own hown5) (by have := HLen.out; omega) ((hrL.below hbx).more hbx.size) (by omega) HD.out)
          clear hown5
          go_wp2_with fail
          refine HW.out.mono ?_
          rintro e w6 ⟨rfl, hb6⟩
          have hby := hbx.trans (hb6.mono hbx.size)
          go_wp2
          go_roundw
          case rel => exact ⟨j + 1, hj1, by go_num, hby⟩
          case measure => simp [intOf]; omega
        · have g0 : decide (j < k) = false := decide_eq_false hlt
          have hW1 := within_two A2 A3 n2 c2 k c3 f L true wr ((hr2.below hbw).more hbw.size) hn2 ((hrL.below hb).more hb.size) (by omega) (decide_eq_true HL.out.roots)
          have HW1 := Lib.hid hW1
          clear hW1
          go_wp2_with fail
          refine HW1.out.mono ?_
          rintro e w5 ⟨rfl, hb5⟩
          have hbx := hb.trans (hb5.mono hb.size)
          have HSo := Lib.hid (isSorted_int A3 k c3 _ L w5 (hrL.below hbx) (by omega) HL.out.sorted)
          go_wp2_with fail
          refine HSo.out.mono ?_
          rintro e w6 ⟨rfl, q6, rfl⟩
          have hby := below_drewN hbx q6
          have hbwy := below_step hb02 hby
          go_wp2_with fail
          refine (HBg.out _ ((hr.below hbwy).more hbwy.size)).mono ?_
          rintro e w7 ⟨hb7, A7, c7, rfl, hown7⟩
          have hbz := hby.trans (hb7.mono hby.size)
          have HW2 := Lib.hid (within_two A3 A7 k c3 _ c7 L (begsL S) true w7 ((hrL.below hbz).more hbz.size) (by omega) (Reads.of_own hown7) (by omega) (decide_eq_true HL.out.begs))
          clear hown7
          go_wp2_with fail
          refine HW2.out.mono ?_
          rintro e w8 ⟨rfl, hb8⟩
          have hbq := hbz.trans (hb8.mono hbz.size)
          go_wp2
          go_ret
          exact ⟨by first | rfl | simp, below_step hb02 hbq⟩
    · go_wp2
      go_ret
      exact ⟨by first | rfl | simp, below_step hb1 hb2⟩
  · have H1 := Lib.hid (fun w hr => reach_bad A n c a A2 n2 c2 w hr hnc ha hE)
    have hE1 : (checkE a != 0) = true := by simpa using hE
    generalize checkE a = E at *
    clear hE
    go_enter Try.func6, Try.ntmps6
    go_wp2_with fail
    refine (tints_true _).mono ?_
    rintro e w1 ⟨rfl, hb1⟩
    go_wp2_with fail
    refine (H1.out _ ((hr.below hb1).more hb1.size)).mono ?_
    rintro e w2 ⟨rfl, hb2⟩
    go_wp2
    go_ret
    exact ⟨by first | rfl | simp, below_step hb1 hb2⟩

namespace TintClosed
open Go.ChangeShapes Go.WideShapes Go.ChangeAt Go.RowKit
theorem own : ownKnob Try.prog.godebug = none := by kernel_rfl
theorem laidOut : laidOutB Try.prog = true := by kernel_rfl

set_option maxRecDepth 100000 in
theorem lifted (os : Os) (started : os.Started) (H : Type) (enc : TypeId × Value → H) :
    ReturnsInHanded {} Try.checked os 6 .any (Rows.tintClosedSpec.pre6 enc Try.prog Try.f6 Rows.tintClosedRow.domain false) (Rows.tintClosedSpec.post enc Try.prog Try.f6 false true false false) := by
  refine returnsInHanded_of_change_sized (C := Try.checked) own started (by as_aux_lemma => kernel_rfl) Try.func6
    (ChangeSpec.witness6 (enc := enc) (C := Try.checked) false ⟨#[], #[.slice none 0 0, .slice none 0 0], []⟩ 8 (by as_aux_lemma => kernel_rfl) (by as_aux_lemma => kernel_rfl) (by as_aux_lemma => kernel_rfl) (by as_aux_lemma => kernel_rfl)) ?_
  intro W base args ds gs before hval0 hW hcnd hsz _
  have hval : ∀ (j : Nat) t v, Try.f6.params[j]? = some t → args[j]? = some v → Value.okWide Try.prog W .any base t v := hval0
  have hW' := hW
  obtain ⟨p, q, hA0, hV, rfl, hfz, hnd⟩ := hW
  have hA : DataW.TrodAll enc Try.prog W 0 (fun _ => true) true Try.f6.params.toList args.toList ds p := hA0
  rw [Try.params6] at hA hval
  obtain ⟨v0, vs0, d0, ds0, p0, q0, hargs, rfl, rfl, h0, hA⟩ := trodAll_cons hA
  obtain ⟨v1, vs1, d1, ds1, p1, q1, rfl, rfl, rfl, h1, hA⟩ := trodAll_cons hA
  obtain ⟨rfl, rfl, rfl⟩ := trodAll_nil hA
  obtain rfl : args = #[v0, v1] := by cases args; simp_all
  obtain ⟨A0, n0, c0, xs0, rfl, hnc0, hc0, hr0, hx0⟩ := open_nums Try.underlying22 Try.underlying77 (by as_aux_lemma => kernel_rfl) (hval 0 _ v0 rfl rfl) (fun x hx => hW'.lt x (by simp [hx])) h0
  obtain ⟨A1, n1, c1, xs1, rfl, hnc1, hc1, hr1, hx1, hd1⟩ := open_nums2 Try.underlying23 Try.underlying3 (by as_aux_lemma => kernel_rfl) (hval 1 _ v1 rfl rfl) (fun x hx => hW'.lt x (by simp [hx])) h1
  have hm1 : n1 * 8 ≤ 140737488351232 := by
    rcases hd1 with h0 | ⟨D, E, rfl, hD⟩
    · omega
    · have h5 : (D.length + E.length) * Try.prog.bytesOf 3 ≤ reachBytes := sized_slice hsz (j := 1) (t := 23) (e := 3) rfl rfl Try.underlying23
      rw [k_int_bytes, hD] at h5
      simp only [reachBytes] at h5
      omega
  refine (tintClosed_any A0 n0 c0 xs0 A1 n1 c1 xs1 W hr0 hnc0 hc0 hx0 hr1 hnc1 hc1 hx1 hm1).mono fun e W' ⟨he, hb⟩ => ?_
  subst he
  exact ⟨_, rfl, law_post laidOut Try.underlying4 rfl (by as_aux_lemma => kernel_rfl) rfl rfl hW' hb⟩

set_option maxHeartbeats 10000000 in
theorem closed : joinedFacts Try.prog 6 Try.f6 Rows.tintClosedSpec Rows.tintClosedRow = true := by
  unfold joinedFacts
  simp only [Bool.and_eq_true]
  repeat' apply And.intro
  all_goals as_aux_lemma => kernel_rfl

set_option maxHeartbeats 1000000 in
theorem proved : Rows.TintClosedSaid :=
  OpenClaim.holds_of_wide 6 Try.f6 rfl rfl rfl rfl rfl rfl rfl ⟨rfl, rfl, rfl, rfl, rfl⟩ rfl rfl rfl rfl rfl (by as_aux_lemma => kernel_rfl) Try.func6 closed
    (of_decide_eq_true (by as_aux_lemma => kernel_rfl)) (by unfold Func.isWrapper; first | (rw [if_pos (by decide +kernel)]; kernel_rfl) | (rw [if_neg (by decide +kernel)]; exact ⟨rfl, rfl⟩))
    (fun os started H enc _ => lifted os started H enc)
end TintClosed
end Go.Proofs.Ythfjopnomkfegab
