/-
  WordReads answers true for every arena, every two numbers and every word, and changes no argument: a stored word is loaded again, and no other word changes. No condition.
-/
import Derived.Test.YtdanffkcgogalaaWord
import Derived.Test.YtdanffkcgogalaaWordsTrue
import Derived.Test.YtdanffkcgogalaaLaw
namespace Go.Proofs.Ytdanffkcgogalaa
open Go.RowKit

theorem fillL_get (xs : List Int) (a : Nat) (v : Int) (k : Nat) (ha : a < xs.length) : (fillL xs a 1 v).getD k 0 = if k = a then v else xs.getD k 0 := by
  have h := fillL_succ xs a 0 v (by omega)
  rw [fillL_zero] at h
  rw [← h, Nat.add_zero]
  simp only [List.getD_eq_getElem?_getD, List.getElem?_set]
  split
  · rename_i e; subst e; simp [ha]
  · rename_i e; rw [if_neg (fun h => e h.symm)]

set_option maxHeartbeats 400000 in
theorem wordReads_bad (A : Option Addr) (n c : Nat) (at_ other v : Int) (w : World) (ha : -9223372036854775808 ≤ at_ ∧ at_ ≤ 9223372036854775807) (hbad : fillE n at_ 1 ≠ 0) :
    Calls Try.prog 4 #[.slice A n c, .int .i64 at_, .int .i64 other, .int .u64 v] w fun e w' => e = .returned (.bool true) ∧ Below w.heap.size w w' := by
  have H := fun w => store_bad A n c at_ v w ha hbad
  have HH := Lib.hid H
  clear H
  generalize hE : fillE n at_ 1 = E at *
  clear hE
  have hE1 : (E != 0) = true := by simpa using hbad
  have hE2 : (E == 0) = false := by simpa using hbad
  go_enter Try.func4, Try.ntmps4
  go_wp2_with (first
    | (go_at_call 11; refine (words_true _).mono ?_; rintro e w1 ⟨rfl, hb⟩)
    | (go_at_call 13; refine (HH.out _).mono ?_; rintro e w2 ⟨hb2, rfl⟩))
  all_goals
    go_ret
    exact ⟨by simp, hb.trans (hb2.mono hb.size)⟩

set_option maxHeartbeats 400000 in
theorem wordReads_ok (A : Option Addr) (n c : Nat) (xs : List Int) (at_ other v : Int) (w : World) (hr : Reads w w.heap.size 1 A n (xs.map (.int .u64)))
    (ho : -9223372036854775808 ≤ other ∧ other ≤ 9223372036854775807) (hok : fillE n at_ 1 = 0) :
    Calls Try.prog 4 #[.slice A n c, .int .i64 at_, .int .i64 other, .int .u64 v] w fun e w' => e = .returned (.bool true) ∧ Below w.heap.size w w' := by
  have hxl : xs.length = n := by have := hr.1; simpa using this
  obtain ⟨_, _, h3, _, _⟩ := fillE_ok.1 hok
  have hv : (fillL xs at_.toNat 1 v).getD at_.toNat 0 = v := by rw [fillL_get _ _ _ _ (by omega), if_pos rfl]
  have hS := fun w B hr hB => store_ok A n c B xs at_ v w hr hB hok
  have HS := Lib.hid hS
  have hL := fun w A' c' ys hr => load_ok A' n c' w.heap.size ys at_ w hr (Nat.le_refl _) hok
  have HL := Lib.hid hL
  have HV := Lib.hid hv
  clear hS hL hv
  by_cases hbad : fillE n other 1 = 0
  · have hL2 := fun w A' c' ys hr => load_ok A' n c' w.heap.size ys other w hr (Nat.le_refl _) hbad
    have HL2 := Lib.hid hL2
    have hy : other = at_ ∨ (fillL xs at_.toNat 1 v).getD other.toNat 0 = xs.getD other.toNat 0 := by
      obtain ⟨_, _, h3', _, _⟩ := fillE_ok.1 hbad
      by_cases h : other = at_
      · exact .inl h
      · exact .inr (by rw [fillL_get _ _ _ _ (by omega), if_neg (by omega)])
    clear hL2 hbad hok hxl
    generalize hy1 : (fillL xs at_.toNat 1 v).getD other.toNat 0 = y1 at hy
    generalize hy2 : xs.getD other.toNat 0 = y2 at hy
    have HY1 := Lib.hid hy1
    have HY2 := Lib.hid hy2
    clear hy1 hy2
    have fin : ∀ w1 w2 w3 w4 w5 : World, Below w.heap.size w w1 → Below w1.heap.size w1 w2 → Below w2.heap.size w2 w3 → Below w3.heap.size w3 w4 → Below w4.heap.size w4 w5 → Below w.heap.size w w5 := by
      intro w1 w2 w3 w4 w5 a1 a2 a3 a4 a5
      have s1 := a1.size
      have s2 := a2.size
      have s3 := a3.size
      have s4 := a4.size
      exact a1.trans ((a2.mono (by omega)).trans ((a3.mono (by omega)).trans ((a4.mono (by omega)).trans (a5.mono (by omega)))))
    rcases hy with rfl | rfl
    all_goals
      go_enter Try.func4, Try.ntmps4
      go_wp2_with fail
      refine (words_true _).mono ?_
      rintro e w1 ⟨rfl, hb⟩
      go_wp2_with fail
      refine (HS.out _ _ (hr.below hb) hb.size).mono ?_
      rintro e w2 ⟨hb2, A', c', rfl, hown⟩
      have hr2 := Reads.of_own hown
      clear hown
      go_wp2_with fail
      refine (HL.out _ _ _ _ hr2).mono ?_
      rw [HV.out]
      rintro e w3 ⟨hb3, rfl⟩
      go_wp2_with fail
      refine (HL2.out _ _ _ _ ((hr2.below hb3).more hb3.size)).mono ?_
      rw [HY1.out]
      rintro e w4 ⟨hb4, rfl⟩
      go_wp2_with fail
      refine (HL2.out _ _ _ _ ((hr.below (below_step (below_step (below_step hb hb2) hb3) hb4)).more (below_step (below_step (below_step hb hb2) hb3) hb4).size)).mono ?_
      rw [HY2.out]
      rintro e w5 ⟨hb5, rfl⟩
      clear hr2 hr
      go_wp2
      all_goals
        go_ret
        exact ⟨by simp, fin _ _ _ _ _ hb hb2 hb3 hb4 hb5⟩
  · have hL2 := fun w A' c' => load_bad A' n c' other w ho hbad
    have HL2 := Lib.hid hL2
    clear hL2 hok hxl
    generalize hE : fillE n other 1 = E at *
    clear hE
    have fin : ∀ w1 w2 w3 w4 w5 : World, Below w.heap.size w w1 → Below w1.heap.size w1 w2 → Below w2.heap.size w2 w3 → Below w3.heap.size w3 w4 → Below w4.heap.size w4 w5 → Below w.heap.size w w5 := by
      intro w1 w2 w3 w4 w5 a1 a2 a3 a4 a5
      have s1 := a1.size
      have s2 := a2.size
      have s3 := a3.size
      have s4 := a4.size
      exact a1.trans ((a2.mono (by omega)).trans ((a3.mono (by omega)).trans ((a4.mono (by omega)).trans (a5.mono (by omega)))))
    go_enter Try.func4, Try.ntmps4
    go_wp2_with fail
    refine (words_true _).mono ?_
    rintro e w1 ⟨rfl, hb⟩
    go_wp2_with fail
    refine (HS.out _ _ (hr.below hb) hb.size).mono ?_
    rintro e w2 ⟨hb2, A', c', rfl, hown⟩
    have hr2 := Reads.of_own hown
    clear hown
    go_wp2_with fail
    refine (HL.out _ _ _ _ hr2).mono ?_
    rw [HV.out]
    rintro e w3 ⟨hb3, rfl⟩
    go_wp2_with fail
    refine (HL2.out _ _ _).mono ?_
    rintro e w4 ⟨hb4, rfl⟩
    go_wp2_with fail
    refine (HL2.out _ _ _).mono ?_
    rintro e w5 ⟨hb5, rfl⟩
    clear hr2 hr hbad
    go_wp2
    all_goals
      go_ret
      exact ⟨by simp, fin _ _ _ _ _ hb hb2 hb3 hb4 hb5⟩

theorem wordReads_any (A : Option Addr) (n c : Nat) (xs : List Int) (at_ other v : Int) (w : World) (hr : Reads w w.heap.size 1 A n (xs.map (.int .u64))) (_ : n ≤ c) (_ : c ≤ maxLen) (_ : ∀ x ∈ xs, (Lit.int .u64 x).wf = true)
    (ha : (Lit.int .i64 at_).wf = true) (ho : (Lit.int .i64 other).wf = true) (_ : (Lit.int .u64 v).wf = true) :
    Calls Try.prog 4 #[.slice A n c, .int .i64 at_, .int .i64 other, .int .u64 v] w fun e w' => e = .returned (.bool true) ∧ Below w.heap.size w w' := by
  by_cases hok : fillE n at_ 1 = 0
  · exact wordReads_ok A n c xs at_ other v w hr (b64 ho) hok
  · exact wordReads_bad A n c at_ other v w (b64 ha) hok

namespace WordReads
open Go.ChangeShapes Go.WideShapes Go.ChangeAt Go.RowKit
theorem own : ownKnob Try.prog.godebug = none := by kernel_rfl
theorem laidOut : laidOutB Try.prog = true := by kernel_rfl

set_option maxRecDepth 100000 in
theorem lifted (os : Os) (started : os.Started) (H : Type) (enc : TypeId × Value → H) :
    ReturnsInHanded {} Try.checked os 4 .any (Rows.wordReadsSpec.pre6 enc Try.prog Try.f4 Rows.wordReadsRow.domain false) (Rows.wordReadsSpec.post enc Try.prog Try.f4 false true false false) := by
  refine returnsInHanded_of_change (C := Try.checked) own started (by kernel_rfl) Try.func4
    (ChangeSpec.witness6 (enc := enc) (C := Try.checked) false ⟨#[], #[.slice none 0 0, .int .i64 0, .int .i64 0, .int .u64 0], []⟩ 8 (by kernel_rfl) (by kernel_rfl) (by kernel_rfl) (by kernel_rfl)) ?_
  intro W base args ds gs before hval0 hW hcnd _
  have hval : ∀ (j : Nat) t v, Try.f4.params[j]? = some t → args[j]? = some v → Value.okWide Try.prog W .any base t v := hval0
  have hW' := hW
  obtain ⟨p, q, hA0, hV, rfl, hfz, hnd⟩ := hW
  have hA : DataW.TrodAll enc Try.prog W 0 (fun _ => true) true Try.f4.params.toList args.toList ds p := hA0
  rw [Try.params4] at hA hval
  obtain ⟨v0, vs0, d0, ds0, p0, q0, hargs, rfl, rfl, h0, hA⟩ := trodAll_cons hA
  obtain ⟨v1, vs1, d1, ds1, p1, q1, rfl, rfl, rfl, h1, hA⟩ := trodAll_cons hA
  obtain ⟨v2, vs2, d2, ds2, p2, q2, rfl, rfl, rfl, h2, hA⟩ := trodAll_cons hA
  obtain ⟨v3, vs3, d3, ds3, p3, q3, rfl, rfl, rfl, h3, hA⟩ := trodAll_cons hA
  obtain ⟨rfl, rfl, rfl⟩ := trodAll_nil hA
  obtain rfl : args = #[v0, v1, v2, v3] := by cases args; simp_all
  obtain ⟨A0, n0, c0, xs0, rfl, hnc0, hc0, hr0, hx0⟩ := open_nums Try.underlying22 Try.underlying27 (by kernel_rfl) (hval 0 _ v0 rfl rfl) (fun x hx => hW'.lt x (by simp [hx])) h0
  obtain ⟨i1, rfl, rfl, rfl, w1⟩ := open_int Try.underlying3 (hval 1 _ v1 rfl rfl) h1
  obtain ⟨i2, rfl, rfl, rfl, w2⟩ := open_int Try.underlying3 (hval 2 _ v2 rfl rfl) h2
  obtain ⟨i3, rfl, rfl, rfl, w3⟩ := open_int Try.underlying27 (hval 3 _ v3 rfl rfl) h3
  refine (wordReads_any A0 n0 c0 xs0 i1 i2 i3 W hr0 hnc0 hc0 hx0 w1 w2 w3).mono fun e W' ⟨he, hb⟩ => ?_
  subst he
  exact ⟨_, rfl, law_post laidOut Try.underlying4 rfl (by kernel_rfl) rfl rfl hW' hb⟩

theorem proved : Rows.WordReadsSaid :=
  OpenClaim.holds_of_wide 4 Try.f4 rfl rfl rfl rfl rfl rfl rfl ⟨rfl, rfl, rfl, rfl, rfl⟩ rfl rfl rfl rfl rfl (by kernel_rfl) Try.func4 (by kernel_rfl)
    (of_decide_eq_true (by kernel_rfl)) (by unfold Func.isWrapper; first | (rw [if_pos (by decide +kernel)]; kernel_rfl) | (rw [if_neg (by decide +kernel)]; exact ⟨rfl, rfl⟩))
    (fun os started H enc _ => lifted os started H enc)
end WordReads
end Go.Proofs.Ytdanffkcgogalaa
