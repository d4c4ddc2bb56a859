/-
  SlideOwn answers true for all arenas and lists, and changes no argument: what is handed in stays as it was, and what is handed back shares nothing with it.
-/
import Derived.SizedLaws
import Derived.Test.YtbmkbnalembbjaaS12
namespace Go.Proofs.Ytbmkbnalembbjaa
open Go.RowKit

theorem k_u64_bytes : Try.prog.bytesOf 37 = 8 := by kernel_rfl
theorem slideOwn_any (A : Option Addr) (n c : Nat) (a : List Int) (G : Option Addr) (gn gc : Nat) (g : List Int) (K : Option Addr) (kn kc : Nat) (b : List Int) (w : World) (hr : Reads w w.heap.size 1 A n (a.map (.int .u64))) (hnc : n ≤ c) (hc : c ≤ maxLen) (ha : ∀ x ∈ a, (Lit.int .u64 x).wf = true) (h1 : n * 8 ≤ 140737488351232)
    (hr2 : Reads w w.heap.size 1 G gn (g.map (.int .i64))) (_ : gn ≤ gc) (_ : gc ≤ maxLen) (hx2 : ∀ x ∈ g, (Lit.int .i64 x).wf = true) (h2 : gn * 8 ≤ 140737488351232) (hr3 : Reads w w.heap.size 1 K kn (b.map (.int .i64))) (_ : kn ≤ kc) (_ : kc ≤ maxLen) (hx3 : ∀ x ∈ b, (Lit.int .i64 x).wf = true) (h3 : kn * 8 ≤ 140737488351232) :
    Calls Try.prog 5 #[.slice A n c, .slice G gn gc, .slice K kn kc] w fun e w' => e = .returned (.bool true) ∧ Below w.heap.size w w' :=
  slideOwn_walk A n c a G gn gc g K kn kc b w hr hnc hc ha h1 hr2 h2 hx2 hr3 h3 hx3

namespace SlideOwn
open Go.ChangeShapes Go.WideShapes Go.ChangeAt Go.RowKit
theorem own : ownKnob Try.prog.godebug = none := by kernel_rfl
theorem laidOut : laidOutB Try.prog = true := by kernel_rfl

set_option maxRecDepth 100000 in
theorem lifted (os : Os) (started : os.Started) (H : Type) (enc : TypeId × Value → H) :
    ReturnsInHanded {} Try.checked os 5 .any (Rows.slideOwnSpec.pre6 enc Try.prog Try.f5 Rows.slideOwnRow.domain false) (Rows.slideOwnSpec.post enc Try.prog Try.f5 false true false false) := by
  refine returnsInHanded_of_change_sized (C := Try.checked) own started (by as_aux_lemma => kernel_rfl) Try.func5
    (ChangeSpec.witness6 (enc := enc) (C := Try.checked) false ⟨#[], #[.slice none 0 0, .slice none 0 0, .slice none 0 0], []⟩ 8 (by as_aux_lemma => kernel_rfl) (by as_aux_lemma => kernel_rfl) (by as_aux_lemma => kernel_rfl) (by as_aux_lemma => kernel_rfl)) ?_
  intro W base args ds gs before hval0 hW hcnd hsz _
  have hval : ∀ (j : Nat) t v, Try.f5.params[j]? = some t → args[j]? = some v → Value.okWide Try.prog W .any base t v := hval0
  have hW' := hW
  obtain ⟨p, q, hA0, hV, rfl, hfz, hnd⟩ := hW
  have hA : DataW.TrodAll enc Try.prog W 0 (fun _ => true) true Try.f5.params.toList args.toList ds p := hA0
  rw [Try.params5] at hA hval
  obtain ⟨v0, vs0, d0, ds0, p0, q0, hargs, rfl, rfl, h0, hA⟩ := trodAll_cons hA
  obtain ⟨v1, vs1, d1, ds1, p1, q1, rfl, rfl, rfl, h1, hA⟩ := trodAll_cons hA
  obtain ⟨v2, vs2, d2, ds2, p2, q2, rfl, rfl, rfl, h2, hA⟩ := trodAll_cons hA
  obtain ⟨rfl, rfl, rfl⟩ := trodAll_nil hA
  obtain rfl : args = #[v0, v1, v2] := by cases args; simp_all
  obtain ⟨A0, n0, c0, xs0, rfl, hnc0, hc0, hr0, hx0, hd0⟩ := open_nums2 Try.underlying23 Try.underlying37 (by as_aux_lemma => kernel_rfl) (hval 0 _ v0 rfl rfl) (fun x hx => hW'.lt x (by simp [hx])) h0
  have hm0 : n0 * 8 ≤ 140737488351232 := by
    rcases hd0 with h0 | ⟨D, E, rfl, hD⟩
    · omega
    · have h5 : (D.length + E.length) * Try.prog.bytesOf 37 ≤ reachBytes := sized_slice hsz (j := 0) (t := 23) (e := 37) rfl rfl Try.underlying23
      rw [k_u64_bytes, hD] at h5
      simp only [reachBytes] at h5
      omega
  obtain ⟨A1, n1, c1, xs1, rfl, hnc1, hc1, hr1, hx1, hd1⟩ := open_nums2 Try.underlying24 Try.underlying3 (by as_aux_lemma => kernel_rfl) (hval 1 _ v1 rfl rfl) (fun x hx => hW'.lt x (by simp [hx])) h1
  have hm1 : n1 * 8 ≤ 140737488351232 := by
    rcases hd1 with h0 | ⟨D, E, rfl, hD⟩
    · omega
    · have h5 : (D.length + E.length) * Try.prog.bytesOf 3 ≤ reachBytes := sized_slice hsz (j := 1) (t := 24) (e := 3) rfl rfl Try.underlying24
      rw [k_int_bytes, hD] at h5
      simp only [reachBytes] at h5
      omega
  obtain ⟨A2, n2, c2, xs2, rfl, hnc2, hc2, hr2, hx2, hd2⟩ := open_nums2 Try.underlying24 Try.underlying3 (by as_aux_lemma => kernel_rfl) (hval 2 _ v2 rfl rfl) (fun x hx => hW'.lt x (by simp [hx])) h2
  have hm2 : n2 * 8 ≤ 140737488351232 := by
    rcases hd2 with h0 | ⟨D, E, rfl, hD⟩
    · omega
    · have h5 : (D.length + E.length) * Try.prog.bytesOf 3 ≤ reachBytes := sized_slice hsz (j := 2) (t := 24) (e := 3) rfl rfl Try.underlying24
      rw [k_int_bytes, hD] at h5
      simp only [reachBytes] at h5
      omega
  refine (slideOwn_any A0 n0 c0 xs0 A1 n1 c1 xs1 A2 n2 c2 xs2 W hr0 hnc0 hc0 hx0 hm0 hr1 hnc1 hc1 hx1 hm1 hr2 hnc2 hc2 hx2 hm2).mono fun e W' ⟨he, hb⟩ => ?_
  subst he
  exact ⟨_, rfl, law_post laidOut Try.underlying4 rfl (by as_aux_lemma => kernel_rfl) rfl rfl hW' hb⟩

set_option maxHeartbeats 10000000 in
theorem closed : joinedFacts Try.prog 5 Try.f5 Rows.slideOwnSpec Rows.slideOwnRow = true := by
  unfold joinedFacts
  simp only [Bool.and_eq_true]
  repeat' apply And.intro
  all_goals as_aux_lemma => kernel_rfl

set_option maxHeartbeats 1000000 in
theorem proved : Rows.SlideOwnSaid :=
  OpenClaim.holds_of_wide 5 Try.f5 rfl rfl rfl rfl rfl rfl rfl ⟨rfl, rfl, rfl, rfl, rfl⟩ rfl rfl rfl rfl rfl (by as_aux_lemma => kernel_rfl) Try.func5 closed
    (of_decide_eq_true (by as_aux_lemma => kernel_rfl)) (by unfold Func.isWrapper; first | (rw [if_pos (by decide +kernel)]; kernel_rfl) | (rw [if_neg (by decide +kernel)]; exact ⟨rfl, rfl⟩))
    (fun os started H enc _ => lifted os started H enc)
end SlideOwn
end Go.Proofs.Ytbmkbnalembbjaa
