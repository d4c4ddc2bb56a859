/-
  WalkTiles answers true for every arena, and changes no argument: the objects of a heap cover every word exactly once, in order. No condition.
-/
import Derived.Test.YtdanffkcgogalaaWalksTrue
import Derived.Test.YtdanffkcgogalaaLaw
namespace Go.Proofs.Ytdanffkcgogalaa
open Go.RowKit

set_option maxHeartbeats 400000 in
theorem walkTiles_bad (A : Option Addr) (n c : Nat) (a : List Int) (w : World) (hr : Reads w w.heap.size 1 A n (a.map (.int .u64))) (ha : ∀ x ∈ a, (Lit.int .u64 x).wf = true) (hE : spotsE a ≠ 0) :
    Calls Try.prog 5 #[.slice A n c] w fun e w' => e = .returned (.bool true) ∧ Below w.heap.size w w' := by
  have H := fun w hr => spots_any A n c a w hr ha
  rw [spotsL_bad hE] at H
  have HH := Lib.hid H
  clear H
  generalize spotsE a = E at *
  have hE1 : (E != 0) = true := by simpa using hE
  go_enter Try.func5, Try.ntmps5
  go_wp2_with (first
    | (go_at_call 15; refine (walks_true _).mono ?_; rintro e w1 ⟨rfl, hb1⟩)
    | (go_at_call 16; refine (HH.out _ ((hr.below hb1).more hb1.size)).mono ?_; rintro e w2 ⟨hb2, A', c', rfl, -⟩))
  go_ret
  exact ⟨rfl, below_step hb1 hb2⟩

set_option maxRecDepth 100000 in
set_option maxHeartbeats 1000000 in
theorem walkTiles_ok (A : Option Addr) (n c : Nat) (a : List Int) (w : World) (hr : Reads w w.heap.size 1 A n (a.map (.int .u64))) (ha : ∀ x ∈ a, (Lit.int .u64 x).wf = true) (hE : spotsE a = 0) :
    Calls Try.prog 5 #[.slice A n c] w fun e w' => e = .returned (.bool true) ∧ Below w.heap.size w w' := by
  have H := fun w hr => spots_any A n c a w hr ha
  obtain ⟨hlen, hP⟩ := parse_ok hE
  rw [hE] at H
  have HH := Lib.hid H
  have hal : a.length = n := by have := hr.1; simpa using this
  have HL := Lib.hid hal
  have hn : n ≤ 256 := by omega
  have hm256 := spotsL_length a
  generalize spotsL a = l at *
  have HP := Lib.hid hP
  clear H hP hE hal hlen
  go_enter Try.func5, Try.ntmps5
  go_wp2_with (first
    | (go_at_call 15; refine (walks_true _).mono ?_; rintro e w1 ⟨rfl, hb1⟩)
    | (go_at_call 16; refine (HH.out _ ((hr.below hb1).more hb1.size)).mono ?_; rintro e w2 ⟨hb2, A', c', rfl, hown⟩))
  have hb02 := below_step hb1 hb2
  have hrl := Reads.of_own hown
  clear hb1 hb2 hown hr
  obtain ⟨m, hm⟩ : ∃ m, m = l.length := ⟨_, rfl⟩
  rw [← hm] at hrl hm256 ⊢
  have HM := Lib.hid hm
  clear hm
  go_loopw [5, 24] (fun d i wr => ∃ j e : Nat, j ≤ m ∧ i = .int .i64 j ∧ d = .int .i64 e ∧ e ≤ n ∧ Hid (Parse a e (l.drop j)) ∧ Below w2.heap.size w2 wr) (fun _ i _ => m - (intOf i).toNat)
  case atStart => exact ⟨0, 0, Nat.zero_le _, rfl, rfl, Nat.zero_le _, HP.out, Below.refl _ _⟩
  case round =>
    obtain ⟨j, e, hj, rfl, rfl, hen, hQ, hb⟩ := hrel
    by_cases hlt : j < m
    · obtain ⟨ad, s, rfl, had, hs, c0, c1, c2, c3, c4⟩ := (hrl.below hb).spot hlt
      have hd := drop_of_get hs
      have hq := hQ.out
      rw [hd] at hq
      obtain ⟨q1, q2, rfl, q4, q5⟩ := hq
      generalize a.getD e 0 = v at *
      have HG := Lib.hid (fun w => hlongc_ok (rdR v) (rdB v) (rdT v) (rdF v) w q2.2)
      have hE := headE_ok.1 q2.2
      obtain ⟨r0, r1, b0, b1, t0, t1, l1, _⟩ := hE
      have HH : Hid (((hlen v : Nat) : Int) = 1 + rdR v + rdB v) := by show _ = _; unfold hlen; omega
      have HQ := Lib.hid q5
      have hle : e + hlen v ≤ n := by have := HL.out; omega
      simp only [spotOf] at c0 c1 c2 c3 c4
      generalize rdR v = r at *
      generalize rdB v = b at *
      generalize rdT v = t at *
      generalize rdF v = f at *
      clear hd hs q1 q2 q4 q5
      go_wp2_with fail
      refine (HG.out _).mono ?_
      rintro e' w3 ⟨rfl, hb3⟩
      have hb03 := (hb.alloc hb.size _).trans (hb3.mono (by have := hb.size; simp; omega))
      have k0 := ((Blk.new wr 39 #[.int .i64 e, .int .i64 r, .int .i64 b, .int .i64 t, .bool f]).below hb3 (by simp)).cell 0
      simp only [List.getElem?_toArray, List.getElem?_cons_zero] at k0
      clear hb3
      go_wp2
      go_roundw
      case rel => exact ⟨j + 1, e + hlen v, by omega, by go_num, by rw [Int.natCast_add, HH.out], hle, HQ.out, hb03⟩
      case measure => simp [intOf]; omega
    · have hjm : j = m := by omega
      subst hjm
      have hq := hQ.out
      rw [List.drop_of_length_le (by rw [← HM.out]; exact Nat.le_refl _)] at hq
      obtain rfl : e = n := by have := HL.out; have : e = a.length := hq; omega
      clear hQ hq
      go_wp2
      go_ret
      exact ⟨rfl, hb02.trans (hb.mono hb02.size)⟩

theorem walkTiles_any (A : Option Addr) (n c : Nat) (a : List Int) (w : World) (hr : Reads w w.heap.size 1 A n (a.map (.int .u64))) (_ : n ≤ c) (_ : c ≤ maxLen) (ha : ∀ x ∈ a, (Lit.int .u64 x).wf = true) :
    Calls Try.prog 5 #[.slice A n c] w fun e w' => e = .returned (.bool true) ∧ Below w.heap.size w w' := by
  by_cases hE : spotsE a = 0
  · exact walkTiles_ok A n c a w hr ha hE
  · exact walkTiles_bad A n c a w hr ha hE

namespace WalkTiles
open Go.ChangeShapes Go.WideShapes Go.ChangeAt Go.RowKit
theorem own : ownKnob Try.prog.godebug = none := by kernel_rfl
theorem laidOut : laidOutB Try.prog = true := by kernel_rfl

set_option maxRecDepth 100000 in
theorem lifted (os : Os) (started : os.Started) (H : Type) (enc : TypeId × Value → H) :
    ReturnsInHanded {} Try.checked os 5 .any (Rows.walkTilesSpec.pre6 enc Try.prog Try.f5 Rows.walkTilesRow.domain false) (Rows.walkTilesSpec.post enc Try.prog Try.f5 false true false false) := by
  refine returnsInHanded_of_change (C := Try.checked) own started (by as_aux_lemma => kernel_rfl) Try.func5
    (ChangeSpec.witness6 (enc := enc) (C := Try.checked) false ⟨#[], #[.slice none 0 0], []⟩ 8 (by as_aux_lemma => kernel_rfl) (by as_aux_lemma => kernel_rfl) (by as_aux_lemma => kernel_rfl) (by as_aux_lemma => kernel_rfl)) ?_
  intro W base args ds gs before hval0 hW hcnd _
  have hval : ∀ (j : Nat) t v, Try.f5.params[j]? = some t → args[j]? = some v → Value.okWide Try.prog W .any base t v := hval0
  have hW' := hW
  obtain ⟨p, q, hA0, hV, rfl, hfz, hnd⟩ := hW
  have hA : DataW.TrodAll enc Try.prog W 0 (fun _ => true) true Try.f5.params.toList args.toList ds p := hA0
  rw [Try.params5] at hA hval
  obtain ⟨v0, vs0, d0, ds0, p0, q0, hargs, rfl, rfl, h0, hA⟩ := trodAll_cons hA
  obtain ⟨rfl, rfl, rfl⟩ := trodAll_nil hA
  obtain rfl : args = #[v0] := by cases args; simp_all
  obtain ⟨A0, n0, c0, xs0, rfl, hnc0, hc0, hr0, hx0⟩ := open_nums Try.underlying22 Try.underlying27 (by as_aux_lemma => kernel_rfl) (hval 0 _ v0 rfl rfl) (fun x hx => hW'.lt x (by simp [hx])) h0
  refine (walkTiles_any A0 n0 c0 xs0 W hr0 hnc0 hc0 hx0).mono fun e W' ⟨he, hb⟩ => ?_
  subst he
  exact ⟨_, rfl, law_post laidOut Try.underlying4 rfl (by as_aux_lemma => kernel_rfl) rfl rfl hW' hb⟩

set_option maxHeartbeats 10000000 in
theorem closed : joinedFacts Try.prog 5 Try.f5 Rows.walkTilesSpec Rows.walkTilesRow = true := by
  unfold joinedFacts
  simp only [Bool.and_eq_true]
  repeat' apply And.intro
  all_goals as_aux_lemma => kernel_rfl

set_option maxHeartbeats 1000000 in
theorem proved : Rows.WalkTilesSaid :=
  OpenClaim.holds_of_wide 5 Try.f5 rfl rfl rfl rfl rfl rfl rfl ⟨rfl, rfl, rfl, rfl, rfl⟩ rfl rfl rfl rfl rfl (by as_aux_lemma => kernel_rfl) Try.func5 closed
    (of_decide_eq_true (by as_aux_lemma => kernel_rfl)) (by unfold Func.isWrapper; first | (rw [if_pos (by decide +kernel)]; kernel_rfl) | (rw [if_neg (by decide +kernel)]; exact ⟨rfl, rfl⟩))
    (fun os started H enc _ => lifted os started H enc)
end WalkTiles
end Go.Proofs.Ytdanffkcgogalaa
