/-
  SpotSets answers true for all marks and numbers, and changes no argument: setting and clearing marks affects exactly the given range. The table of math/bits lies as its initialiser lays it (tied on the card).
-/
import Derived.Test.YtdaanmmffiicdaaDoorSpotRow
import Derived.Test.YtdaanmmffiicdaaDoorSpotSet
namespace Go.Proofs.YtdaanmmffiicdaaDoor
open Go.RowKit

theorem lastOver_marks {m : List Int} {N : Nat} (hm : U64s m) (hl : m.length = (N + 63) / 64) : lastOver m N = false ↔ ∀ j, N ≤ j → j < 64 * m.length → mk m j = false := by
  unfold lastOver
  by_cases h : N % 64 = 0
  · rw [decide_eq_false (by omega)]
    refine ⟨fun _ j h1 h2 => by omega, fun _ => rfl⟩
  · rw [decide_eq_true h, Bool.true_and]
    obtain ⟨x, hx⟩ : ∃ x, m[m.length - 1]? = some x := ⟨_, List.getElem?_eq_getElem (by omega)⟩
    have hwf := hm x (List.mem_of_getElem? hx)
    have hx0 : 0 ≤ x ∧ x < 18446744073709551616 := by simp [Lit.wf, IntKind.min, IntKind.max, IntKind.signed, IntKind.bits] at hwf; omega
    obtain ⟨X, rfl⟩ : ∃ X : Nat, x = X := ⟨x.toNat, by omega⟩
    have hX : X < 2 ^ 64 := by omega
    have hg : (m.getD (m.length - 1) 0).toNat = X := by rw [List.getD_eq_getElem?_getD, hx]; rfl
    rw [hg]
    have hb : ∀ j, j / 64 = m.length - 1 → mk m j = X.testBit (j % 64) := fun j hj => mk_word (by rw [hj]; exact hx)
    constructor
    · intro h0 j h1 h2
      have hz : X / 2 ^ (N % 64) = 0 := by simpa using h0
      rw [hb j (by omega)]
      have h3 : (X / 2 ^ (N % 64)).testBit (j % 64 - N % 64) = X.testBit (j % 64) := by rw [Nat.testBit_div_two_pow]; congr 1; omega
      rw [← h3, hz, Nat.zero_testBit]
    · intro h0
      have hz : X / 2 ^ (N % 64) = 0 := by
        apply Nat.eq_of_testBit_eq
        intro i
        rw [Nat.zero_testBit, Nat.testBit_div_two_pow]
        by_cases hi : N % 64 + i < 64
        · have h4 := h0 (64 * (m.length - 1) + (N % 64 + i)) (by omega) (by omega)
          rw [hb _ (by omega), show (64 * (m.length - 1) + (N % 64 + i)) % 64 = N % 64 + i by omega] at h4
          rw [Nat.add_comm]; exact h4
        · exact Nat.testBit_lt_two_pow (Nat.lt_of_lt_of_le hX (Nat.pow_le_pow_right (by decide) (by omega)))
      rw [hz]; rfl

theorem chk_set {m m' : List Int} {N : Nat} (h : mchkE m N = 0) (hm : U64s m) (hm' : U64s m') (hl : m'.length = m.length) (hk : ∀ j, N ≤ j → mk m' j = mk m j) : mchkE m' N = 0 := by
  obtain ⟨N', h1, h2, h3, h4⟩ := mchkE_ok h
  obtain rfl : N = N' := by omega
  have h5 : lastOver m' N = false := (lastOver_marks hm' (by rw [hl]; exact h3)).2 (fun j h1 h2 => by rw [hk j h1]; exact (lastOver_marks hm h3).1 h4 j h1 (by rw [← hl]; exact h2))
  unfold mchkE
  rw [if_neg (by omega), if_neg (by rw [hl, h3]; omega), Int.toNat_natCast, if_neg (by rw [h5]; decide)]

set_option maxHeartbeats 2000000 in
theorem spotSets_any (A : Option Addr) (n c : Nat) (m : List Int) (z a l k : Int) (on : Bool) (w : World) (hr : Reads w w.heap.size 1 A n (m.map (.int .u64))) (hnc : n ≤ c) (hc : c ≤ maxLen) (hm : U64s m)
    (_ : (Lit.int .i64 z).wf = true) (_ : (Lit.int .i64 a).wf = true) (_ : (Lit.int .i64 l).wf = true) (hk : (Lit.int .i64 k).wf = true) (hT : Tab w) :
    Calls Tryd.prog 5 #[.slice A n c, .int .i64 z, .int .i64 a, .int .i64 l, .int .i64 k, .bool on] w fun e w' => e = .returned (.bool true) ∧ Below w.heap.size w w' := by
  have hn9 : n ≤ 9223372036854775807 := by unfold maxLen at hc; omega
  have HT := Lib.hid hT
  by_cases hE : mstE m z a l = 0
  · obtain ⟨N, K, L, rfl, rfl, rfl, hN, hlen, -, hKL, hch⟩ := mstE_ok hE
    have hal : m.length = n := by have := hr.1; simpa using this
    have H1 := Lib.hid (fun w hr => mSet_ok A n c m N K L on w hr hm hE)
    have H3 := Lib.hid (fun w hr => mHas_any A n c w.heap.size m N k w hr hn9 hm)
    have H2 := Lib.hid (fun A' c' m' w hr hm' => mHas_any A' n c' w.heap.size m' N k w hr hn9 hm')
    have H4 := Lib.hid (fun A' c' m' w hr hm' => mcheck_any A' n c' w.heap.size m' N w hr hn9 hm')
    have HC := Lib.hid hch
    have HM := Lib.hid hm
    have hkb := b64 hk
    have w1 : IntKind.i64.wrap ((K : Int) + L) = (K : Int) + L := IntWalk.i64_in _ (by omega)
    clear hE hm hch hlen hal hk hT
    go_enter Tryd.func5, Tryd.ntmps5
    go_wp2_with fail
    refine (marks_true _ HT.out).mono ?_
    rintro e w1' ⟨rfl, hb1⟩
    have hr1 := (hr.below hb1).more hb1.size
    go_wp2_with fail
    refine (H1.out _ hr1).mono ?_
    rintro e w2 ⟨hb2, A2, c2, m', rfl, hown, hl', hm', hmk⟩
    have hr2 := Reads.of_own hown
    have hb02 := below_step hb1 hb2
    have HR1 := Lib.hid ((hr1.below hb2).more hb2.size)
    have HR2 := Lib.hid hr2
    have hch' : mchkE m' N = 0 := chk_set HC.out HM.out hm' hl' (fun j hj => by rw [hmk j, if_neg (by omega)])
    have HH2 := H2.out A2 c2 m' w2 hr2 hm'
    have HH4 := H4.out A2 c2 m' w2 hr2 hm'
    have HH3 := H3.out w2 HR1.out
    have hst : mstE m' N k 1 = mstE m N k 1 := by unfold mstE; rw [HC.out, hch']
    rw [hst] at HH2
    rw [hch'] at HH4
    have HMK := Lib.hid hmk
    have HST := Lib.hid hst
    clear hown hr2 hb2 hb1 hr1 hch' hst hmk hm' hl'
    by_cases hE4 : mstE m N k 1 = 0
    · obtain ⟨N', K4, L', h1, rfl, h3, -, -, -, h4, -⟩ := mstE_ok hE4
      have hV1 : hasV m N K4 = mk m K4 := by unfold hasV; rw [if_pos hE4, Int.toNat_natCast]
      have hV2 : hasV m' N K4 = mk m' K4 := by unfold hasV; rw [if_pos (HST.out.trans hE4), Int.toNat_natCast]
      have hq := HMK.out K4
      rw [hE4, hV1] at HH3
      rw [hE4, hV2] at HH2
      by_cases hin : K ≤ K4 ∧ K4 < K + L
      · rw [if_pos hin] at hq
        rw [hq] at HH2
        generalize mk m K4 = y at *
        obtain ⟨i1, i2⟩ := hin
        have i3 : (K : Int) ≤ K4 := by omega
        have i4 : (K4 : Int) < (K : Int) + L := by omega
        have HH2 := Lib.hid HH2
        have HH3 := Lib.hid HH3
        have HH4 := Lib.hid HH4
        clear hE4 hV1 hV2 hq h1 h3 h4
        go_wp2_with fail
        refine HH2.out.mono ?_
        rintro e w3 ⟨rfl, rfl⟩
        go_wp2_with fail
        refine HH3.out.mono ?_
        rintro e w4 ⟨rfl, rfl⟩
        go_wp2_with fail
        refine HH4.out.mono ?_
        rintro e w5 ⟨rfl, rfl⟩
        go_wp2
        go_ret
        exact ⟨by first | rfl | simp, hb02⟩
      · rw [if_neg hin] at hq
        rw [hq] at HH2
        generalize mk m K4 = y at *
        have HH2 := Lib.hid HH2
        have HH3 := Lib.hid HH3
        have HH4 := Lib.hid HH4
        clear hE4 hV1 hV2 hq h1 h3 h4
        by_cases i3 : (K : Int) ≤ K4
        · have i4 : ¬ (K4 : Int) < (K : Int) + L := by omega
          clear hin
          go_wp2_with fail
          refine HH2.out.mono ?_
          rintro e w3 ⟨rfl, rfl⟩
          go_wp2_with fail
          refine HH3.out.mono ?_
          rintro e w4 ⟨rfl, rfl⟩
          go_wp2_with fail
          refine HH4.out.mono ?_
          rintro e w5 ⟨rfl, rfl⟩
          go_wp2
          go_ret
          exact ⟨by first | rfl | simp, hb02⟩
        · clear hin
          go_wp2_with fail
          refine HH2.out.mono ?_
          rintro e w3 ⟨rfl, rfl⟩
          go_wp2_with fail
          refine HH3.out.mono ?_
          rintro e w4 ⟨rfl, rfl⟩
          go_wp2_with fail
          refine HH4.out.mono ?_
          rintro e w5 ⟨rfl, rfl⟩
          go_wp2
          go_ret
          exact ⟨by first | rfl | simp, hb02⟩
    · generalize mstE m N k 1 = E4 at *
      generalize hasV m N k = v at *
      generalize hasV m' N k = v' at *
      have hE5 : (E4 != 0) = true := by simpa using hE4
      have hE6 : (E4 != E4) = false := by simp
      have HH2 := Lib.hid HH2
      have HH3 := Lib.hid HH3
      have HH4 := Lib.hid HH4
      clear hE4
      go_wp2_with fail
      refine HH2.out.mono ?_
      rintro e w3 ⟨rfl, rfl⟩
      go_wp2_with fail
      refine HH3.out.mono ?_
      rintro e w4 ⟨rfl, rfl⟩
      go_wp2_with fail
      refine HH4.out.mono ?_
      rintro e w5 ⟨rfl, rfl⟩
      go_wp2
      go_ret
      exact ⟨by first | rfl | simp, hb02⟩
  · have H1 := fun w hr => mSet_bad A n c w.heap.size m z a l on w hr hn9 hm hE
    generalize mstE m z a l = E2 at *
    have hE1 : (E2 != 0) = true := by simpa using hE
    have H1 := Lib.hid H1
    clear hE hm
    go_enter Tryd.func5, Tryd.ntmps5
    go_wp2_with fail
    refine (marks_true _ HT.out).mono ?_
    rintro e w1' ⟨rfl, hb1⟩
    have HR := Lib.hid ((hr.below hb1).more hb1.size)
    go_wp2_with fail
    refine (H1.out _ HR.out).mono ?_
    rintro e w2' ⟨rfl, rfl⟩
    go_wp2
    go_ret
    exact ⟨rfl, hb1⟩

namespace SpotSets
open Go.ChangeShapes Go.WideShapes Go.ChangeAt Go.RowKit
theorem own : ownKnob Tryd.prog.godebug = none := by kernel_rfl
theorem laidOut : laidOutB Tryd.prog = true := by kernel_rfl

theorem contract (H : Type) (enc : TypeId × Value → H) (W : World) (base : Nat) (args : Array Value) (ds gs : List (DataW H)) (before : List MemPlace)
    (hval0 : ∀ (j : Nat) t v, Tryd.f5.params[j]? = some t → args[j]? = some v → Value.okWide Tryd.prog W .any base t v)
    (hW : DataW.Whole enc Tryd.prog Tryd.f5.params.toList Rows.spotSetsSpec.vars false W args.toList ds gs before) (hL : laidMetH Tryd.prog Rows.spotSetsRow.laid W) :
    Calls Tryd.prog 5 args W fun e W' => ∃ v, e = .returned v ∧ Rows.spotSetsSpec.post enc Tryd.prog Tryd.f5 false true false false W args v W' := by
  have hval : ∀ (j : Nat) t v, Tryd.f5.params[j]? = some t → args[j]? = some v → Value.okWide Tryd.prog W .any base t v := hval0
  have hT : Tab W := tab_of hL
  have hW' := hW
  obtain ⟨p, q, hA0, hV, rfl, hfz, hnd⟩ := hW
  have hA : DataW.TrodAll enc Tryd.prog W 0 (fun _ => true) true Tryd.f5.params.toList args.toList ds p := hA0
  rw [Tryd.params5] at hA hval
  obtain ⟨v0, vs0, d0, ds0, p0, q0, hargs, rfl, rfl, h0, hA⟩ := trodAll_cons hA
  obtain ⟨v1, vs1, d1, ds1, p1, q1, rfl, rfl, rfl, h1, hA⟩ := trodAll_cons hA
  obtain ⟨v2, vs2, d2, ds2, p2, q2, rfl, rfl, rfl, h2, hA⟩ := trodAll_cons hA
  obtain ⟨v3, vs3, d3, ds3, p3, q3, rfl, rfl, rfl, h3, hA⟩ := trodAll_cons hA
  obtain ⟨v4, vs4, d4, ds4, p4, q4, rfl, rfl, rfl, h4, hA⟩ := trodAll_cons hA
  obtain ⟨v5, vs5, d5, ds5, p5, q5, rfl, rfl, rfl, h5, hA⟩ := trodAll_cons hA
  obtain ⟨rfl, rfl, rfl⟩ := trodAll_nil hA
  obtain rfl : args = #[v0, v1, v2, v3, v4, v5] := by cases args; simp_all
  obtain ⟨A0, n0, c0, xs0, rfl, hnc0, hc0, hr0, hx0⟩ := open_nums Tryd.underlying22 Tryd.underlying46 (by as_aux_lemma => kernel_rfl) (hval 0 _ v0 rfl rfl) (fun x hx => hW'.lt x (by simp [hx])) h0
  obtain ⟨i1, rfl, rfl, rfl, w1⟩ := open_int Tryd.underlying3 (hval 1 _ v1 rfl rfl) h1
  obtain ⟨i2, rfl, rfl, rfl, w2⟩ := open_int Tryd.underlying3 (hval 2 _ v2 rfl rfl) h2
  obtain ⟨i3, rfl, rfl, rfl, w3⟩ := open_int Tryd.underlying3 (hval 3 _ v3 rfl rfl) h3
  obtain ⟨i4, rfl, rfl, rfl, w4⟩ := open_int Tryd.underlying3 (hval 4 _ v4 rfl rfl) h4
  obtain ⟨i5, rfl, rfl, rfl⟩ := open_bool Tryd.underlying4 (hval 5 _ v5 rfl rfl) h5
  refine (spotSets_any A0 n0 c0 xs0 i1 i2 i3 i4 i5 W hr0 hnc0 hc0 hx0 w1 w2 w3 w4 hT).mono fun e W' ⟨he, hb⟩ => ?_
  subst he
  exact ⟨_, rfl, law_post laidOut Tryd.underlying4 rfl (by as_aux_lemma => kernel_rfl) rfl rfl hW' hb⟩

theorem laid_met (os : Os) : laidMet Tryd.prog Rows.spotSetsRow.laid ((laidWorld os).forCall (fun _ _ => 0) ⟨#[], #[.slice none 0 0, .int .i64 0, .int .i64 0, .int .i64 0, .int .i64 0, .bool false], []⟩).memory :=
  laidMet_of_run' 8 (by as_aux_lemma => kernel_rfl) (by as_aux_lemma => kernel_rfl)
theorem reads (os : Os) {H : Type} (enc : TypeId × Value → H) : ∃ places, DataW.whole enc Tryd.prog ((laidWorld os).forCall (fun _ _ => 0) ⟨#[], #[.slice none 0 0, .int .i64 0, .int .i64 0, .int .i64 0, .int .i64 0, .bool false], []⟩).memory Tryd.f5.params.toList Rows.spotSetsSpec.vars false #[Value.slice none 0 0, Value.int .i64 0, Value.int .i64 0, Value.int .i64 0, Value.int .i64 0, Value.bool false].toList 8 = some ([.nil, .lit (.int .i64 0), .lit (.int .i64 0), .lit (.int .i64 0), .lit (.int .i64 0), .lit (.bool false)], [], places) :=
  ⟨[], by as_aux_lemma => kernel_rfl⟩

set_option maxRecDepth 100000 in
theorem lifted (os : Os) (started : os.Started) (H : Type) (enc : TypeId × Value → H) (F : Stop.Interp) :
    ReturnsInHanded {} Tryd.checked os 5 .any ((OpenSpec.ofChange Rows.spotSetsSpec).preRow enc Tryd.prog Tryd.f5 Rows.spotSetsRow.domain false Rows.spotSetsRow.laid) (((OpenSpec.ofChange Rows.spotSetsSpec).at F).post enc Tryd.prog Tryd.f5 false true false false) := by
  obtain ⟨places, hx⟩ := reads os enc
  refine returnsInHanded_of_row (C := Tryd.checked) (s := OpenSpec.ofChange Rows.spotSetsSpec) own started (by as_aux_lemma => kernel_rfl) Tryd.func5
    (witness_row_at (enc := enc) (C := Tryd.checked) false (laidWorld os) #[.slice none 0 0, .int .i64 0, .int .i64 0, .int .i64 0, .int .i64 0, .bool false] rfl (by as_aux_lemma => kernel_rfl) (by as_aux_lemma => kernel_rfl) (by as_aux_lemma => kernel_rfl)
      (OpenSpec.preRow_of_cond 8 hx (by as_aux_lemma => kernel_rfl) (fun k hk => by cases hk) (by as_aux_lemma => kernel_rfl) (laid_met os))) ?_
  intro W base args ds gs before hval hW _ _ _ hL _ _
  exact contract H enc W base args ds gs before hval hW hL

set_option maxHeartbeats 10000000 in
theorem closed : joinedFacts Tryd.prog 5 Tryd.f5 Rows.spotSetsSpec Rows.spotSetsRow = true := by
  unfold joinedFacts
  simp only [Bool.and_eq_true]
  repeat' apply And.intro
  all_goals as_aux_lemma => kernel_rfl

set_option maxHeartbeats 1000000 in
theorem said : Rows.SpotSetsSaid :=
  OpenClaim.holds_of_cond 5 Tryd.f5 rfl rfl rfl rfl rfl rfl rfl ⟨rfl, rfl, rfl, rfl, rfl⟩ rfl rfl rfl rfl rfl (by as_aux_lemma => kernel_rfl) Tryd.func5 closed
    (of_decide_eq_true (by as_aux_lemma => kernel_rfl)) (by unfold Func.isWrapper; first | (rw [if_pos (by decide +kernel)]; kernel_rfl) | (rw [if_neg (by decide +kernel)]; exact ⟨rfl, rfl⟩))
    (fun os started H enc _ F => by rw [OpenClaim.pre_eq_preRow]; exact lifted os started H enc F)

theorem plain (f : FuncId) (fn : Func) (hf : Tryd.pinned.checked.prog.funcNamed "cairnfield/cairnfieldkeep.SpotSets" = some f) (hfn : Tryd.pinned.checked.prog.funcs[f]? = some fn) :
    false = Tryd.pinned.checked.prog.looks [] ∧ ∀ (j : Nat) t, fn.params[j]? = some t → Tryd.pinned.checked.prog.wantsStandIn t = false := by
  obtain rfl : f = 5 := Option.some.inj ((show Tryd.prog.funcNamed "cairnfield/cairnfieldkeep.SpotSets" = some 5 by kernel_rfl).symm.trans hf) |>.symm
  obtain rfl : fn = Tryd.f5 := (Option.some.inj (Tryd.func5.symm.trans hfn)).symm
  refine ⟨by kernel_rfl, fun j t ht => ?_⟩
  rw [Tryd.params5] at ht
  have hm := Array.mem_of_getElem? ht
  simp only [List.mem_toArray, List.mem_cons, List.not_mem_nil, or_false] at hm
  repeat' (first | (rcases hm with rfl | hm) | (subst hm))
  all_goals first | exact (show Tryd.prog.wantsStandIn 22 = false by kernel_rfl) | exact (show Tryd.prog.wantsStandIn 3 = false by kernel_rfl) | exact (show Tryd.prog.wantsStandIn 4 = false by kernel_rfl)

theorem proved : Rows.SpotSetsCardSaid :=
  Claim7.holds_tied_plain_at .later [] _ _ _ _ said (fun _ h => by cases h) (by kernel_rfl) (fun _ h => by cases h) spotSets_row_tie rfl ⟨rfl, rfl⟩ (by kernel_rfl) rfl plain (by kernel_rfl)
end SpotSets
end Go.Proofs.YtdaanmmffiicdaaDoor
