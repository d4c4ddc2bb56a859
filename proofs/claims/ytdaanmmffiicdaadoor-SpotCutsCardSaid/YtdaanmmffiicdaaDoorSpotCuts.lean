/-
  SpotCuts answers true for all marks and numbers, and changes no argument: the count of a range is the sum of the counts of its two parts. The table of math/bits lies as its initialiser lays it (tied on the card).
-/
import Derived.Test.YtdaanmmffiicdaaDoorSpotRow
namespace Go.Proofs.YtdaanmmffiicdaaDoor
open Go.RowKit

set_option maxHeartbeats 1000000 in
theorem spotCuts_any (A : Option Addr) (n c : Nat) (m : List Int) (z a i k : Int) (w : World) (hr : Reads w w.heap.size 1 A n (m.map (.int .u64))) (hnc : n ≤ c) (hc : c ≤ maxLen) (hm : U64s m)
    (_ : (Lit.int .i64 z).wf = true) (_ : (Lit.int .i64 a).wf = true) (_ : (Lit.int .i64 i).wf = true) (hk : (Lit.int .i64 k).wf = true) (hT : Tab w) :
    Calls Tryd.prog 3 #[.slice A n c, .int .i64 z, .int .i64 a, .int .i64 i, .int .i64 k] w fun e w' => e = .returned (.bool true) ∧ Below w.heap.size w w' := by
  have hn9 : n ≤ 9223372036854775807 := by unfold maxLen at hc; omega
  have hkb := b64 hk
  have HT := Lib.hid hT
  by_cases hE : mstE m z a i = 0
  · obtain ⟨N, K, I, rfl, rfl, rfl, hN, hlen, -, hKI, hch⟩ := mstE_ok hE
    have hV1 : cntV m N K I = (cnt m K I : Int) := by unfold cntV; rw [if_pos hE, Int.toNat_natCast, Int.toNat_natCast]
    have H1 := fun w hr hT => mCount_any A n c w.heap.size m N K I w hr hn9 hm hT
    rw [hV1, hE] at H1
    have H1 := Lib.hid H1
    obtain ⟨p, hp⟩ : ∃ p, p = K + I := ⟨_, rfl⟩
    have w1 : IntKind.i64.wrap ((K : Int) + I) = (p : Int) := by rw [IntWalk.i64_in _ (by omega)]; omega
    have hle := cnt_le m K I
    by_cases hE2 : mstE m N (p : Int) k = 0
    · obtain ⟨N', K', L, hN', hK', rfl, -, -, -, hKL, -⟩ := mstE_ok hE2
      have hKL2 : p + L ≤ N := by omega
      clear hN' hK' hKL
      obtain ⟨q, hq⟩ : ∃ q, q = I + L := ⟨_, rfl⟩
      have hE3 : mstE m N K (q : Int) = 0 := mstE_of hch (by omega)
      have hV2 : cntV m N (p : Int) L = (cnt m p L : Int) := by unfold cntV; rw [if_pos hE2, Int.toNat_natCast, Int.toNat_natCast]
      have hV3 : cntV m N K (q : Int) = ((cnt m K I + cnt m p L : Nat) : Int) := by unfold cntV; rw [if_pos hE3, Int.toNat_natCast, Int.toNat_natCast, hq, cnt_add, hp]
      have H2 := fun w hr hT => mCount_any A n c w.heap.size m N (p : Int) L w hr hn9 hm hT
      rw [hV2, hE2] at H2
      have H2 := Lib.hid H2
      have H3 := fun w hr hT => mCount_any A n c w.heap.size m N K (q : Int) w hr hn9 hm hT
      rw [hV3, hE3] at H3
      have hle2 := cnt_le m p L
      generalize cnt m K I = x at *
      generalize cnt m p L = y at *
      have w2 : IntKind.i64.wrap ((I : Int) + L) = (q : Int) := by rw [IntWalk.i64_in _ (by omega)]; omega
      obtain ⟨s, hs⟩ : ∃ s, s = x + y := ⟨_, rfl⟩
      rw [← hs] at H3
      have w3 : IntKind.i64.wrap ((x : Int) + y) = (s : Int) := by rw [IntWalk.i64_in _ (by omega)]; omega
      have hxI : (x : Int) ≤ I := by omega
      have H3 := Lib.hid H3
      clear hE hE2 hE3 hV1 hV2 hV3 hlen hch hm hs hq hp hle hle2
      go_enter Tryd.func3, Tryd.ntmps3
      go_wp2_with fail
      refine (marks_true _ HT.out).mono ?_
      rintro e w1' ⟨rfl, hb1⟩
      have HR := Lib.hid ((hr.below hb1).more hb1.size)
      have HT1 := Lib.hid (HT.out.below hb1)
      go_wp2_with fail
      refine (H1.out _ HR.out HT1.out).mono ?_
      rintro e w2' ⟨rfl, rfl⟩
      go_wp2_with fail
      refine (H2.out _ HR.out HT1.out).mono ?_
      rintro e w3' ⟨rfl, rfl⟩
      go_wp2_with fail
      refine (H3.out _ HR.out HT1.out).mono ?_
      rintro e w4' ⟨rfl, rfl⟩
      go_wp2
      go_ret
      exact ⟨by first | rfl | simp [hxI], hb1⟩
    · have hV2 : cntV m N (p : Int) k = 0 := by unfold cntV; rw [if_neg hE2]
      have H2 := fun w hr hT => mCount_any A n c w.heap.size m N (p : Int) k w hr hn9 hm hT
      rw [hV2] at H2
      generalize mstE m N (p : Int) k = E2 at *
      have hE1 : (E2 != 0) = true := by simpa using hE2
      have H2 := Lib.hid H2
      clear hE hE2 hV1 hV2 hlen hch hm hp
      go_enter Tryd.func3, Tryd.ntmps3
      go_wp2_with fail
      refine (marks_true _ HT.out).mono ?_
      rintro e w1' ⟨rfl, hb1⟩
      have HR := Lib.hid ((hr.below hb1).more hb1.size)
      have HT1 := Lib.hid (HT.out.below hb1)
      go_wp2_with fail
      refine (H1.out _ HR.out HT1.out).mono ?_
      rintro e w2' ⟨rfl, rfl⟩
      go_wp2_with fail
      refine (H2.out _ HR.out HT1.out).mono ?_
      rintro e w3' ⟨rfl, rfl⟩
      go_wp2
      go_ret
      exact ⟨rfl, hb1⟩
  · have hV1 : cntV m z a i = 0 := by unfold cntV; rw [if_neg hE]
    have H1 := fun w hr hT => mCount_any A n c w.heap.size m z a i w hr hn9 hm hT
    rw [hV1] at H1
    generalize mstE m z a i = E2 at *
    have hE1 : (E2 != 0) = true := by simpa using hE
    have H1 := Lib.hid H1
    clear hE hV1 hm
    go_enter Tryd.func3, Tryd.ntmps3
    go_wp2_with fail
    refine (marks_true _ HT.out).mono ?_
    rintro e w1' ⟨rfl, hb1⟩
    have HR := Lib.hid ((hr.below hb1).more hb1.size)
    have HT1 := Lib.hid (HT.out.below hb1)
    go_wp2_with fail
    refine (H1.out _ HR.out HT1.out).mono ?_
    rintro e w2' ⟨rfl, rfl⟩
    go_wp2
    go_ret
    exact ⟨rfl, hb1⟩

namespace SpotCuts
open Go.ChangeShapes Go.WideShapes Go.ChangeAt Go.RowKit
theorem own : ownKnob Tryd.prog.godebug = none := by kernel_rfl
theorem laidOut : laidOutB Tryd.prog = true := by kernel_rfl

theorem contract (H : Type) (enc : TypeId × Value → H) (W : World) (base : Nat) (args : Array Value) (ds gs : List (DataW H)) (before : List MemPlace)
    (hval0 : ∀ (j : Nat) t v, Tryd.f3.params[j]? = some t → args[j]? = some v → Value.okWide Tryd.prog W .any base t v)
    (hW : DataW.Whole enc Tryd.prog Tryd.f3.params.toList Rows.spotCutsSpec.vars false W args.toList ds gs before) (hL : laidMetH Tryd.prog Rows.spotCutsRow.laid W) :
    Calls Tryd.prog 3 args W fun e W' => ∃ v, e = .returned v ∧ Rows.spotCutsSpec.post enc Tryd.prog Tryd.f3 false true false false W args v W' := by
  have hval : ∀ (j : Nat) t v, Tryd.f3.params[j]? = some t → args[j]? = some v → Value.okWide Tryd.prog W .any base t v := hval0
  have hT : Tab W := tab_of hL
  have hW' := hW
  obtain ⟨p, q, hA0, hV, rfl, hfz, hnd⟩ := hW
  have hA : DataW.TrodAll enc Tryd.prog W 0 (fun _ => true) true Tryd.f3.params.toList args.toList ds p := hA0
  rw [Tryd.params3] at hA hval
  obtain ⟨v0, vs0, d0, ds0, p0, q0, hargs, rfl, rfl, h0, hA⟩ := trodAll_cons hA
  obtain ⟨v1, vs1, d1, ds1, p1, q1, rfl, rfl, rfl, h1, hA⟩ := trodAll_cons hA
  obtain ⟨v2, vs2, d2, ds2, p2, q2, rfl, rfl, rfl, h2, hA⟩ := trodAll_cons hA
  obtain ⟨v3, vs3, d3, ds3, p3, q3, rfl, rfl, rfl, h3, hA⟩ := trodAll_cons hA
  obtain ⟨v4, vs4, d4, ds4, p4, q4, rfl, rfl, rfl, h4, hA⟩ := trodAll_cons hA
  obtain ⟨rfl, rfl, rfl⟩ := trodAll_nil hA
  obtain rfl : args = #[v0, v1, v2, v3, v4] := by cases args; simp_all
  obtain ⟨A0, n0, c0, xs0, rfl, hnc0, hc0, hr0, hx0⟩ := open_nums Tryd.underlying22 Tryd.underlying46 (by as_aux_lemma => kernel_rfl) (hval 0 _ v0 rfl rfl) (fun x hx => hW'.lt x (by simp [hx])) h0
  obtain ⟨i1, rfl, rfl, rfl, w1⟩ := open_int Tryd.underlying3 (hval 1 _ v1 rfl rfl) h1
  obtain ⟨i2, rfl, rfl, rfl, w2⟩ := open_int Tryd.underlying3 (hval 2 _ v2 rfl rfl) h2
  obtain ⟨i3, rfl, rfl, rfl, w3⟩ := open_int Tryd.underlying3 (hval 3 _ v3 rfl rfl) h3
  obtain ⟨i4, rfl, rfl, rfl, w4⟩ := open_int Tryd.underlying3 (hval 4 _ v4 rfl rfl) h4
  refine (spotCuts_any A0 n0 c0 xs0 i1 i2 i3 i4 W hr0 hnc0 hc0 hx0 w1 w2 w3 w4 hT).mono fun e W' ⟨he, hb⟩ => ?_
  subst he
  exact ⟨_, rfl, law_post laidOut Tryd.underlying4 rfl (by as_aux_lemma => kernel_rfl) rfl rfl hW' hb⟩

theorem laid_met (os : Os) : laidMet Tryd.prog Rows.spotCutsRow.laid ((laidWorld os).forCall (fun _ _ => 0) ⟨#[], #[.slice none 0 0, .int .i64 0, .int .i64 0, .int .i64 0, .int .i64 0], []⟩).memory :=
  laidMet_of_run' 8 (by as_aux_lemma => kernel_rfl) (by as_aux_lemma => kernel_rfl)
theorem reads (os : Os) {H : Type} (enc : TypeId × Value → H) : ∃ places, DataW.whole enc Tryd.prog ((laidWorld os).forCall (fun _ _ => 0) ⟨#[], #[.slice none 0 0, .int .i64 0, .int .i64 0, .int .i64 0, .int .i64 0], []⟩).memory Tryd.f3.params.toList Rows.spotCutsSpec.vars false #[Value.slice none 0 0, Value.int .i64 0, Value.int .i64 0, Value.int .i64 0, Value.int .i64 0].toList 8 = some ([.nil, .lit (.int .i64 0), .lit (.int .i64 0), .lit (.int .i64 0), .lit (.int .i64 0)], [], places) :=
  ⟨[], by as_aux_lemma => kernel_rfl⟩

set_option maxRecDepth 100000 in
theorem lifted (os : Os) (started : os.Started) (H : Type) (enc : TypeId × Value → H) (F : Stop.Interp) :
    ReturnsInHanded {} Tryd.checked os 3 .any ((OpenSpec.ofChange Rows.spotCutsSpec).preRow enc Tryd.prog Tryd.f3 Rows.spotCutsRow.domain false Rows.spotCutsRow.laid) (((OpenSpec.ofChange Rows.spotCutsSpec).at F).post enc Tryd.prog Tryd.f3 false true false false) := by
  obtain ⟨places, hx⟩ := reads os enc
  refine returnsInHanded_of_row (C := Tryd.checked) (s := OpenSpec.ofChange Rows.spotCutsSpec) own started (by as_aux_lemma => kernel_rfl) Tryd.func3
    (witness_row_at (enc := enc) (C := Tryd.checked) false (laidWorld os) #[.slice none 0 0, .int .i64 0, .int .i64 0, .int .i64 0, .int .i64 0] rfl (by as_aux_lemma => kernel_rfl) (by as_aux_lemma => kernel_rfl) (by as_aux_lemma => kernel_rfl)
      (OpenSpec.preRow_of_cond 8 hx (by as_aux_lemma => kernel_rfl) (fun k hk => by cases hk) (by as_aux_lemma => kernel_rfl) (laid_met os))) ?_
  intro W base args ds gs before hval hW _ _ _ hL _ _
  exact contract H enc W base args ds gs before hval hW hL

set_option maxHeartbeats 10000000 in
theorem closed : joinedFacts Tryd.prog 3 Tryd.f3 Rows.spotCutsSpec Rows.spotCutsRow = true := by
  unfold joinedFacts
  simp only [Bool.and_eq_true]
  repeat' apply And.intro
  all_goals as_aux_lemma => kernel_rfl

set_option maxHeartbeats 1000000 in
theorem said : Rows.SpotCutsSaid :=
  OpenClaim.holds_of_cond 3 Tryd.f3 rfl rfl rfl rfl rfl rfl rfl ⟨rfl, rfl, rfl, rfl, rfl⟩ rfl rfl rfl rfl rfl (by as_aux_lemma => kernel_rfl) Tryd.func3 closed
    (of_decide_eq_true (by as_aux_lemma => kernel_rfl)) (by unfold Func.isWrapper; first | (rw [if_pos (by decide +kernel)]; kernel_rfl) | (rw [if_neg (by decide +kernel)]; exact ⟨rfl, rfl⟩))
    (fun os started H enc _ F => by rw [OpenClaim.pre_eq_preRow]; exact lifted os started H enc F)

theorem plain (f : FuncId) (fn : Func) (hf : Tryd.pinned.checked.prog.funcNamed "cairnfield/cairnfieldkeep.SpotCuts" = some f) (hfn : Tryd.pinned.checked.prog.funcs[f]? = some fn) :
    false = Tryd.pinned.checked.prog.looks [] ∧ ∀ (j : Nat) t, fn.params[j]? = some t → Tryd.pinned.checked.prog.wantsStandIn t = false := by
  obtain rfl : f = 3 := Option.some.inj ((show Tryd.prog.funcNamed "cairnfield/cairnfieldkeep.SpotCuts" = some 3 by kernel_rfl).symm.trans hf) |>.symm
  obtain rfl : fn = Tryd.f3 := (Option.some.inj (Tryd.func3.symm.trans hfn)).symm
  refine ⟨by kernel_rfl, fun j t ht => ?_⟩
  rw [Tryd.params3] at ht
  have hm := Array.mem_of_getElem? ht
  simp only [List.mem_toArray, List.mem_cons, List.not_mem_nil, or_false] at hm
  repeat' (first | (rcases hm with rfl | hm) | (subst hm))
  all_goals first | exact (show Tryd.prog.wantsStandIn 22 = false by kernel_rfl) | exact (show Tryd.prog.wantsStandIn 3 = false by kernel_rfl)

theorem proved : Rows.SpotCutsCardSaid :=
  Claim7.holds_tied_plain_at .later [] _ _ _ _ said (fun _ h => by cases h) (by kernel_rfl) (fun _ h => by cases h) spotCuts_row_tie rfl ⟨rfl, rfl⟩ (by kernel_rfl) rfl plain (by kernel_rfl)
end SpotCuts
end Go.Proofs.YtdaanmmffiicdaaDoor
