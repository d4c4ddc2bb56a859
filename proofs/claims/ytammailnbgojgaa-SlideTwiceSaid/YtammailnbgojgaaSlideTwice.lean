/-
  SlideTwice answers true for all arenas and lists, and changes no argument: compaction is idempotent.
-/
import Derived.Test.YtammailnbgojgaaCleanTwice
import Derived.Test.YtammailnbgojgaaSlices
import Derived.Test.YtammailnbgojgaaSlicesInt
import Derived.Test.YtammailnbgojgaaLaw
import Derived.Test.YtammailnbgojgaaLawNums
namespace Go.Proofs.Ytammailnbgojgaa
open Go.RowKit

set_option maxRecDepth 100000 in
set_option maxHeartbeats 2000000 in
theorem slideTwice_any (A : Option Addr) (n c : Nat) (a : List Int) (A2 : Option Addr) (n2 c2 : Nat) (f : List Int) (A3 : Option Addr) (m c3 : Nat) (p : List Int) (w : World) (hr : Reads w w.heap.size 1 A n (a.map (.int .u64))) (hnc : n ≤ c) (hc : c ≤ maxLen) (ha : ∀ x ∈ a, (Lit.int .u64 x).wf = true)
    (hr2 : Reads w w.heap.size 1 A2 n2 (f.map (.int .i64))) (hnc2 : n2 ≤ c2) (hc2 : c2 ≤ maxLen) (hx2 : ∀ z ∈ f, (Lit.int .i64 z).wf = true) (hn2 : n2 * 8 ≤ 140737488351232)
    (hr3 : Reads w w.heap.size 1 A3 m (p.map (.int .i64))) (hnc3 : m ≤ c3) (hc3 : c3 ≤ maxLen) (hx3 : ∀ z ∈ p, (Lit.int .i64 z).wf = true) (hm : m * 8 ≤ 140737488351232) :
    Calls Try.prog 5 #[.slice A n c, .slice A2 n2 c2, .slice A3 m c3] w fun e w' => e = .returned (.bool true) ∧ Below w.heap.size w w' := by
  clear hnc2 hc2 hnc3 hc3
  have hal : a.length = n := by have := hr.1; simpa using this
  have HC := Lib.hid (fun w hr hr2 hr3 => clean_any A n c a A2 n2 c2 f A3 m c3 p w hr hnc hc ha hr2 hn2 hx2 hr3 hm hx3)
  have HC2 := Lib.hid (fun A1 c1 (b : List Int) (h1 : n ≤ c1) (h2 : c1 ≤ maxLen) (hb : ∀ x ∈ b, (Lit.int .u64 x).wf = true) A4 c4 (g : List Int) (hg : ∀ x ∈ g, (Lit.int .i64 x).wf = true) w hr hr2 hr3 => clean_any A1 n c1 b A4 n2 c4 g A3 m c3 p w hr h1 h2 hb hr2 hn2 hg hr3 hm hx3)
  have HAW := Lib.hid ha
  have HAL := Lib.hid hal
  clear ha hx2 hx3 hal
  go_enter Try.func5, Try.ntmps5
  go_wp2_with fail
  refine (slides_true _).mono ?_
  rintro e w1 ⟨rfl, hb1⟩
  go_wp2_with fail
  refine (HC.out _ ((hr.below hb1).more hb1.size) ((hr2.below hb1).more hb1.size) ((hr3.below hb1).more hb1.size)).mono ?_
  rintro e w2 ⟨hb2, ⟨hok, L, Y, b, now, A1, c1, A4, c4, hI, rfl, hown1, hown4⟩ | ⟨-, er, her, rfl⟩⟩
  · have hb02 := below_step hb1 hb2
    have hD := cleaned_of hI
    obtain ⟨hbw, hnw⟩ := hD.wf hI HAW.out
    obtain ⟨hok2, hag⟩ := hD.again hI
    have hrb := Reads.of_own hown1
    have hrn := Reads.of_own hown4
    have hbl : b.length = n := by rw [hD.laid.len, HAL.out]
    have hcm : c1 ≤ maxLen := by
      rcases hown1.2 with ⟨h1, -⟩ | ⟨g, cap, cur, h1, -, -, -, h4, -⟩
      · injection h1 with _ _ h3; rw [h3]; exact Nat.zero_le _
      · injection h1 with _ _ h3; rw [h3]; exact h4
    have HCC := Lib.hid (HC2.out A1 c1 b (own_cap hown1) hcm hbw A4 c4 now hnw)
    have HOK := Lib.hid hok2
    have HAG := Lib.hid hag
    have hN256 : n ≤ 256 := by rw [← HAL.out]; exact hD.len256
    clear hown1 hown4 hI hD hbw hnw hok2 hag hok HC HC2 hbl hcm
    go_wp2_with fail
    refine (HCC.out _ hrb hrn ((hr3.below hb02).more hb02.size)).mono ?_
    rintro e w3 ⟨hb3, ⟨-, L', Y', b', now', A5, c5, A6, c6, hI', rfl, hown5, hown6⟩ | ⟨hno, -⟩⟩
    · obtain ⟨-, -, rfl, rfl⟩ := HAG.out _ _ _ _ hI'
      have hb03 := below_step hb02 hb3
      have HE1 := Lib.hid (equal_u64 A1 A5 n c1 n c5 w3.heap.size w3.heap.size b' b' w3 ((hrb.below hb3).more hb3.size) (Reads.of_own hown5) (by omega) (by omega))
      have HE2 := Lib.hid (fun q => equal_int A4 A6 n2 c4 n2 c6 w3.heap.size w3.heap.size now' now' (w3.drewN q) (((hrn.below hb3).more hb3.size).drewN q) ((Reads.of_own hown6).drewN q) (by omega) (by omega))
      rw [decide_eq_true rfl] at HE1
      simp only [decide_true] at HE2
      clear hI' hown5 hown6 HAG HOK
      go_wp2_with fail
      refine HE1.out.mono ?_
      rintro e w8 ⟨rfl, q1, rfl⟩
      go_wp2_with fail
      refine (HE2.out _).mono ?_
      rintro e w9 ⟨rfl, q2, rfl⟩
      go_wp2
      go_ret
      exact ⟨by first | rfl | simp, below_drewN hb03 _⟩
    · exact absurd HOK.out hno
  · have hb02 := below_step hb1 hb2
    go_wp2
    go_ret
    exact ⟨by first | rfl | simp, hb02⟩

namespace SlideTwice
open Go.ChangeShapes Go.WideShapes Go.ChangeAt Go.RowKit
theorem own : ownKnob Try.prog.godebug = none := by kernel_rfl
theorem laidOut : laidOutB Try.prog = true := by kernel_rfl

set_option maxRecDepth 100000 in
theorem lifted (os : Os) (started : os.Started) (H : Type) (enc : TypeId × Value → H) :
    ReturnsInHanded {} Try.checked os 5 .any (Rows.slideTwiceSpec.pre6 enc Try.prog Try.f5 Rows.slideTwiceRow.domain false) (Rows.slideTwiceSpec.post enc Try.prog Try.f5 false true false false) := by
  refine returnsInHanded_of_change_sized (C := Try.checked) own started (by as_aux_lemma => kernel_rfl) Try.func5
    (ChangeSpec.witness6 (enc := enc) (C := Try.checked) false ⟨#[], #[.slice none 0 0, .slice none 0 0, .slice none 0 0], []⟩ 8 (by as_aux_lemma => kernel_rfl) (by as_aux_lemma => kernel_rfl) (by as_aux_lemma => kernel_rfl) (by as_aux_lemma => kernel_rfl)) ?_
  intro W base args ds gs before hval0 hW hcnd hsz _
  have hval : ∀ (j : Nat) t v, Try.f5.params[j]? = some t → args[j]? = some v → Value.okWide Try.prog W .any base t v := hval0
  have hW' := hW
  obtain ⟨p, q, hA0, hV, rfl, hfz, hnd⟩ := hW
  have hA : DataW.TrodAll enc Try.prog W 0 (fun _ => true) true Try.f5.params.toList args.toList ds p := hA0
  rw [Try.params5] at hA hval
  obtain ⟨v0, vs0, d0, ds0, p0, q0, hargs, rfl, rfl, h0, hA⟩ := trodAll_cons hA
  obtain ⟨v1, vs1, d1, ds1, p1, q1, rfl, rfl, rfl, h1, hA⟩ := trodAll_cons hA
  obtain ⟨v2, vs2, d2, ds2, p2, q2, rfl, rfl, rfl, h2, hA⟩ := trodAll_cons hA
  obtain ⟨rfl, rfl, rfl⟩ := trodAll_nil hA
  obtain rfl : args = #[v0, v1, v2] := by cases args; simp_all
  obtain ⟨A0, n0, c0, xs0, rfl, hnc0, hc0, hr0, hx0⟩ := open_nums Try.underlying22 Try.underlying42 (by as_aux_lemma => kernel_rfl) (hval 0 _ v0 rfl rfl) (fun x hx => hW'.lt x (by simp [hx])) h0
  obtain ⟨A1, n1, c1, xs1, rfl, hnc1, hc1, hr1, hx1, hd1⟩ := open_nums2 Try.underlying23 Try.underlying3 (by as_aux_lemma => kernel_rfl) (hval 1 _ v1 rfl rfl) (fun x hx => hW'.lt x (by simp [hx])) h1
  have hm1 : n1 * 8 ≤ 140737488351232 := by
    rcases hd1 with h0 | ⟨D, E, rfl, hD⟩
    · omega
    · have h5 : (D.length + E.length) * Try.prog.bytesOf 3 ≤ reachBytes := sized_slice hsz (j := 1) (t := 23) (e := 3) rfl rfl Try.underlying23
      rw [k_int_bytes, hD] at h5
      simp only [reachBytes] at h5
      omega
  obtain ⟨A2, n2, c2, xs2, rfl, hnc2, hc2, hr2, hx2, hd2⟩ := open_nums2 Try.underlying23 Try.underlying3 (by as_aux_lemma => kernel_rfl) (hval 2 _ v2 rfl rfl) (fun x hx => hW'.lt x (by simp [hx])) h2
  have hm2 : n2 * 8 ≤ 140737488351232 := by
    rcases hd2 with h0 | ⟨D, E, rfl, hD⟩
    · omega
    · have h5 : (D.length + E.length) * Try.prog.bytesOf 3 ≤ reachBytes := sized_slice hsz (j := 2) (t := 23) (e := 3) rfl rfl Try.underlying23
      rw [k_int_bytes, hD] at h5
      simp only [reachBytes] at h5
      omega
  refine (slideTwice_any A0 n0 c0 xs0 A1 n1 c1 xs1 A2 n2 c2 xs2 W hr0 hnc0 hc0 hx0 hr1 hnc1 hc1 hx1 hm1 hr2 hnc2 hc2 hx2 hm2).mono fun e W' ⟨he, hb⟩ => ?_
  subst he
  exact ⟨_, rfl, law_post laidOut Try.underlying4 rfl (by as_aux_lemma => kernel_rfl) rfl rfl hW' hb⟩

set_option maxHeartbeats 10000000 in
theorem closed : joinedFacts Try.prog 5 Try.f5 Rows.slideTwiceSpec Rows.slideTwiceRow = true := by
  unfold joinedFacts
  simp only [Bool.and_eq_true]
  repeat' apply And.intro
  all_goals as_aux_lemma => kernel_rfl

set_option maxHeartbeats 1000000 in
theorem proved : Rows.SlideTwiceSaid :=
  OpenClaim.holds_of_wide 5 Try.f5 rfl rfl rfl rfl rfl rfl rfl ⟨rfl, rfl, rfl, rfl, rfl⟩ rfl rfl rfl rfl rfl (by as_aux_lemma => kernel_rfl) Try.func5 closed
    (of_decide_eq_true (by as_aux_lemma => kernel_rfl)) (by unfold Func.isWrapper; first | (rw [if_pos (by decide +kernel)]; kernel_rfl) | (rw [if_neg (by decide +kernel)]; exact ⟨rfl, rfl⟩))
    (fun os started H enc _ => lifted os started H enc)
end SlideTwice
end Go.Proofs.Ytammailnbgojgaa
