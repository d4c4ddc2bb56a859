/-
  WordBack answers true for every arena and every string, and changes no argument: Words restores the arena that Bytes encodes, and Bytes encodes what Words has read. No condition.
-/
import Derived.Test.YtdanffkcgogalaaWords
import Derived.Test.YtdanffkcgogalaaWordsTrue
import Derived.Test.YtdanffkcgogalaaSlices
import Derived.Test.YtdanffkcgogalaaLaw
import Derived.ChangeMaps5
namespace Go.Proofs.Ytdanffkcgogalaa
open Go.RowKit

theorem wf_range {a : List Int} (ha : ∀ x ∈ a, (Lit.int .u64 x).wf = true) : ∀ x ∈ a, 0 ≤ x ∧ x < 18446744073709551616 := by
  intro x hx
  have := bu64 (ha x hx)
  omega
theorem range_wf {a : List Int} (ha : ∀ x ∈ a, 0 ≤ x ∧ x < 18446744073709551616) : ∀ x ∈ a, (Lit.int .u64 x).wf = true := by
  intro x hx
  have := ha x hx
  simp [Lit.wf, IntKind.min, IntKind.max, IntKind.signed, IntKind.bits]
  omega

theorem words_of_bytes (a : List Int) (n : Nat) (w : World) (hl : a.length = n) (hn : n ≤ 256) (ha : ∀ x ∈ a, (Lit.int .u64 x).wf = true) :
    Calls Try.prog 23 #[.string ⟨(bytesL a).toArray⟩] w fun e w' => Below w.heap.size w w' ∧ ∃ A' c', e = .returned (.tuple #[.slice A' n c', .int .i64 0]) ∧ w'.ownsRow w.heap.size 27 1 (.slice A' n c') n (a.map (.int .u64)) := by
  have hb := bytesL_length a
  have hd : (⟨(bytesL a).toArray⟩ : ByteArray).data.toList = bytesL a := by simp
  have hs : (⟨(bytesL a).toArray⟩ : ByteArray).size / 8 = n := by
    show (bytesL a).toArray.size / 8 = n
    simp
    omega
  have h := words_ok ⟨(bytesL a).toArray⟩ w (by rw [hd]; unfold wordsE; rw [if_neg (by omega), if_neg (by omega)])
  rw [hd, hs, words_bytes (wf_range ha)] at h
  exact h

theorem bytes_of_words (A : Option Addr) (m c : Nat) (s : ByteArray) (w : World) (hr : Reads w w.heap.size 1 A m ((wordsL s.data.toList).map (.int .u64))) (hE : wordsE s.data.toList = 0) (hm : m ≤ 256) :
    Calls Try.prog 22 #[.slice A m c] w fun e w' => e = .returned (.tuple #[.string s, .int .i64 0]) ∧ Below w.heap.size w w' := by
  have h8 : s.data.toList.length % 8 = 0 := by
    unfold wordsE at hE
    split at hE
    · cases hE
    · split at hE
      · cases hE
      · rename_i h; simpa using h
  have h := bytes_ok A m c (wordsL s.data.toList) w hr hm (range_wf (wordsL_range _))
  rw [bytes_words h8] at h
  exact h

set_option maxHeartbeats 1000000 in
theorem wordBack_any (A : Option Addr) (n c : Nat) (a : List Int) (s : ByteArray) (w : World) (hr : Reads w w.heap.size 1 A n (a.map (.int .u64))) (_ : n ≤ c) (_ : c ≤ maxLen) (ha : ∀ x ∈ a, (Lit.int .u64 x).wf = true) (hs : s.size ≤ maxLen) :
    Calls Try.prog 7 #[.slice A n c, .string s] w fun e w' => e = .returned (.bool true) ∧ Below w.heap.size w w' := by
  have hal : a.length = n := by have := hr.1; simpa using this
  by_cases hn : n ≤ 256
  · have HB := Lib.hid (fun w hr => bytes_ok A n c a w hr hn ha)
    have HW := Lib.hid (fun w => words_of_bytes a n w hal hn ha)
    have hbl : (bytesL a).length = 8 * n := by rw [bytesL_length, hal]
    clear hal
    by_cases hE : wordsE s.data.toList = 0
    · have hm : s.size / 8 ≤ 256 := by
        unfold wordsE at hE
        split at hE
        · cases hE
        · rename_i h; simp at h; omega
      have HW2 := Lib.hid (fun w => words_ok s w hE)
      have HB2 := Lib.hid (fun A c w hr => bytes_of_words A (s.size / 8) c s w hr hE hm)
      generalize s.size / 8 = m at *
      generalize bytesL a = bs at *
      clear hE ha
      go_enter Try.func7, Try.ntmps7
      go_wp2_with (go_at_call 11; refine (words_true _).mono ?_; rintro e w1 ⟨rfl, hb1⟩)
      go_wp2_with fail
      refine (HB.out _ ((hr.below hb1).more hb1.size)).mono ?_
      rintro e w2 ⟨rfl, hb2⟩
      have hb02 := below_step hb1 hb2
      go_wp2_with fail
      refine (HW.out _).mono ?_
      rintro e w3 ⟨hb3, A3, c3, rfl, hown3⟩
      have hb03 := below_step hb02 hb3
      go_wp2_with fail
      refine (equal_u64 _ _ _ _ _ _ _ _ _ _ _ (hr.below hb03) (Reads.of_own hown3) (by omega) (by omega)).mono ?_
      rw [decide_eq_true rfl]
      rintro e w4 ⟨rfl, q, rfl⟩
      have hb04 := below_drewN hb03 q
      clear hown3 hb1 hb2 hb3 hb02 hb03
      go_wp2_with fail
      refine (HW2.out _).mono ?_
      rintro e w5 ⟨hb5, A5, c5, rfl, hown5⟩
      have hb05 := below_step hb04 hb5
      go_wp2_with fail
      refine (HB2.out _ _ _ (Reads.of_own hown5)).mono ?_
      rintro e w6 ⟨rfl, hb6⟩
      go_wp2
      go_ret
      exact ⟨by simp, below_step hb05 hb6⟩
    · have HW2 := Lib.hid (fun w => words_bad s w hs hE)
      generalize wordsE s.data.toList = E at *
      have hE1 : (E != 0) = true := by simpa using hE
      generalize bytesL a = bs at *
      clear hE ha
      go_enter Try.func7, Try.ntmps7
      go_wp2_with (go_at_call 11; refine (words_true _).mono ?_; rintro e w1 ⟨rfl, hb1⟩)
      go_wp2_with fail
      refine (HB.out _ ((hr.below hb1).more hb1.size)).mono ?_
      rintro e w2 ⟨rfl, hb2⟩
      have hb02 := below_step hb1 hb2
      go_wp2_with fail
      refine (HW.out _).mono ?_
      rintro e w3 ⟨hb3, A3, c3, rfl, hown3⟩
      have hb03 := below_step hb02 hb3
      go_wp2_with fail
      refine (equal_u64 _ _ _ _ _ _ _ _ _ _ _ (hr.below hb03) (Reads.of_own hown3) (by omega) (by omega)).mono ?_
      rw [decide_eq_true rfl]
      rintro e w4 ⟨rfl, q, rfl⟩
      have hb04 := below_drewN hb03 q
      clear hown3 hb1 hb2 hb3 hb02 hb03
      go_wp2_with fail
      refine (HW2.out _).mono ?_
      rintro e w5 ⟨rfl, rfl⟩
      go_wp2
      go_ret
      exact ⟨rfl, hb04⟩
  · have HB := Lib.hid (fun w => bytes_big A n c w (by omega))
    by_cases hE : wordsE s.data.toList = 0
    · have hm : s.size / 8 ≤ 256 := by
        unfold wordsE at hE
        split at hE
        · cases hE
        · rename_i h; simp at h; omega
      have HW2 := Lib.hid (fun w => words_ok s w hE)
      have HB2 := Lib.hid (fun A c w hr => bytes_of_words A (s.size / 8) c s w hr hE hm)
      generalize s.size / 8 = m at *
      clear hE ha hal
      go_enter Try.func7, Try.ntmps7
      go_wp2_with (go_at_call 11; refine (words_true _).mono ?_; rintro e w1 ⟨rfl, hb1⟩)
      go_wp2_with fail
      refine (HB.out _).mono ?_
      rintro e w2 ⟨rfl, rfl⟩
      go_wp2_with fail
      refine (HW2.out _).mono ?_
      rintro e w5 ⟨hb5, A5, c5, rfl, hown5⟩
      have hb05 := below_step hb1 hb5
      go_wp2_with fail
      refine (HB2.out _ _ _ (Reads.of_own hown5)).mono ?_
      rintro e w6 ⟨rfl, hb6⟩
      go_wp2
      go_ret
      exact ⟨by simp, below_step hb05 hb6⟩
    · have HW2 := Lib.hid (fun w => words_bad s w hs hE)
      generalize wordsE s.data.toList = E at *
      have hE1 : (E != 0) = true := by simpa using hE
      clear hE ha hal
      go_enter Try.func7, Try.ntmps7
      go_wp2_with (go_at_call 11; refine (words_true _).mono ?_; rintro e w1 ⟨rfl, hb1⟩)
      go_wp2_with fail
      refine (HB.out _).mono ?_
      rintro e w2 ⟨rfl, rfl⟩
      go_wp2_with fail
      refine (HW2.out _).mono ?_
      rintro e w5 ⟨rfl, rfl⟩
      go_wp2
      go_ret
      exact ⟨rfl, hb1⟩

namespace WordBack
open Go.ChangeShapes Go.WideShapes Go.ChangeAt Go.RowKit
theorem own : ownKnob Try.prog.godebug = none := by kernel_rfl
theorem laidOut : laidOutB Try.prog = true := by kernel_rfl

set_option maxRecDepth 100000 in
theorem lifted (os : Os) (started : os.Started) (H : Type) (enc : TypeId × Value → H) :
    ReturnsInHanded {} Try.checked os 7 .any (Rows.wordBackSpec.pre6 enc Try.prog Try.f7 Rows.wordBackRow.domain false) (Rows.wordBackSpec.post enc Try.prog Try.f7 false true false false) := by
  refine returnsInHanded_of_change (C := Try.checked) own started (by as_aux_lemma => kernel_rfl) Try.func7
    (ChangeSpec.witness6 (enc := enc) (C := Try.checked) false ⟨#[], #[.slice none 0 0, .string ⟨#[]⟩], []⟩ 8 (by as_aux_lemma => kernel_rfl) (by as_aux_lemma => kernel_rfl) (by as_aux_lemma => kernel_rfl) (by as_aux_lemma => kernel_rfl)) ?_
  intro W base args ds gs before hval0 hW hcnd _
  have hval : ∀ (j : Nat) t v, Try.f7.params[j]? = some t → args[j]? = some v → Value.okWide Try.prog W .any base t v := hval0
  have hW' := hW
  obtain ⟨p, q, hA0, hV, rfl, hfz, hnd⟩ := hW
  have hA : DataW.TrodAll enc Try.prog W 0 (fun _ => true) true Try.f7.params.toList args.toList ds p := hA0
  rw [Try.params7] at hA hval
  obtain ⟨v0, vs0, d0, ds0, p0, q0, hargs, rfl, rfl, h0, hA⟩ := trodAll_cons hA
  obtain ⟨v1, vs1, d1, ds1, p1, q1, rfl, rfl, rfl, h1, hA⟩ := trodAll_cons hA
  obtain ⟨rfl, rfl, rfl⟩ := trodAll_nil hA
  obtain rfl : args = #[v0, v1] := by cases args; simp_all
  obtain ⟨A0, n0, c0, xs0, rfl, hnc0, hc0, hr0, hx0⟩ := open_nums Try.underlying22 Try.underlying27 (by as_aux_lemma => kernel_rfl) (hval 0 _ v0 rfl rfl) (fun x hx => hW'.lt x (by simp [hx])) h0
  obtain ⟨s1, rfl, rfl, rfl, ws1⟩ := Go.ChangeMaps.open_string Try.underlying9 (hval 1 _ v1 rfl rfl) h1
  refine (wordBack_any A0 n0 c0 xs0 s1 W hr0 hnc0 hc0 hx0 ws1).mono fun e W' ⟨he, hb⟩ => ?_
  subst he
  exact ⟨_, rfl, law_post laidOut Try.underlying4 rfl (by as_aux_lemma => kernel_rfl) rfl rfl hW' hb⟩

set_option maxHeartbeats 10000000 in
theorem closed : joinedFacts Try.prog 7 Try.f7 Rows.wordBackSpec Rows.wordBackRow = true := by
  unfold joinedFacts
  simp only [Bool.and_eq_true]
  repeat' apply And.intro
  all_goals as_aux_lemma => kernel_rfl

set_option maxHeartbeats 1000000 in
theorem proved : Rows.WordBackSaid :=
  OpenClaim.holds_of_wide 7 Try.f7 rfl rfl rfl rfl rfl rfl rfl ⟨rfl, rfl, rfl, rfl, rfl⟩ rfl rfl rfl rfl rfl (by as_aux_lemma => kernel_rfl) Try.func7 closed
    (of_decide_eq_true (by as_aux_lemma => kernel_rfl)) (by unfold Func.isWrapper; first | (rw [if_pos (by decide +kernel)]; kernel_rfl) | (rw [if_neg (by decide +kernel)]; exact ⟨rfl, rfl⟩))
    (fun os started H enc _ => lifted os started H enc)
end WordBack
end Go.Proofs.Ytdanffkcgogalaa
