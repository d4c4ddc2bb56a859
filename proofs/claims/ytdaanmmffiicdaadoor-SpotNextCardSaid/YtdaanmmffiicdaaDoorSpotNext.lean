/-
  SpotNext answers true for all marks and numbers, and changes no argument: there is no set mark between a number and the one that Next returns. The table of math/bits lies as its initialiser lays it (tied on the card).
-/
import Derived.Test.YtdaanmmffiicdaaDoorSpotRow
namespace Go.Proofs.YtdaanmmffiicdaaDoor
open Go.RowKit

set_option maxHeartbeats 1000000 in
theorem mNext_bad (A : Option Addr) (n c B : Nat) (m : List Int) (z a : Int) (on : Bool) (w : World) (hr : Reads w B 1 A n (m.map (.int .u64))) (hn : n ≤ 9223372036854775807) (hm : U64s m) (hE : mstE m z a 0 ≠ 0) :
    Calls Tryd.prog 9 #[.slice A n c, .int .i64 z, .int .i64 a, .bool on] w fun e w' => e = .returned (.tuple #[.int .i64 0, .bool false, .int .i64 (mstE m z a 0)]) ∧ w' = w := by
  have H := mstretch_any A n c B m z a 0 w hr hn hm
  generalize mstE m z a 0 = E at *
  have hE1 : (E != 0) = true := by simpa using hE
  have H := Lib.hid H
  clear hE hm
  go_enter Tryd.func9, Tryd.ntmps9
  go_wp2_with fail
  refine H.out.mono ?_
  rintro e w' ⟨rfl, rfl⟩
  go_wp2
  go_ret3
  exact ⟨rfl, rfl⟩

set_option maxHeartbeats 1000000 in
theorem mNext_ok (A : Option Addr) (n c B : Nat) (m : List Int) (N a : Nat) (on : Bool) (w : World) (hr : Reads w B 1 A n (m.map (.int .u64))) (hn : n ≤ 9223372036854775807) (hm : U64s m) (hE : mstE m N a 0 = 0) (hT : Tab w) :
    Calls Tryd.prog 9 #[.slice A n c, .int .i64 N, .int .i64 a, .bool on] w fun e w' => (∃ k : Nat, e = .returned (.tuple #[.int .i64 k, .bool (decide (k < N)), .int .i64 0]) ∧ Nx m N a on k) ∧ w' = w := by
  have H := mstretch_any A n c B m N a 0 w hr hn hm
  have hl : m.length = n := by have := hr.1; simpa using this
  obtain ⟨N', K, L, h1, h2, h3, h4, h5, -, h6, -⟩ := mstE_ok hE
  have H2 := Lib.hid (next_any A n c B m N a on w hr (by omega) (by omega) (by omega) hm hT)
  rw [hE] at H
  have H := Lib.hid H
  clear hE hm hT hl h1 h2 h3 h4 h5 h6
  go_enter Tryd.func9, Tryd.ntmps9
  go_wp2_with fail
  refine H.out.mono ?_
  rintro e w' ⟨rfl, rfl⟩
  go_wp2_with fail
  refine H2.out.mono ?_
  rintro e w' ⟨⟨k, rfl, hk⟩, rfl⟩
  have HK := Lib.hid hk
  clear hk
  go_wp2
  go_ret3
  exact ⟨⟨k, by first | rfl | simp, HK.out⟩, rfl⟩

set_option maxHeartbeats 2000000 in
theorem spotNext_any (A : Option Addr) (n c : Nat) (m : List Int) (z a k : Int) (on : Bool) (w : World) (hr : Reads w w.heap.size 1 A n (m.map (.int .u64))) (hnc : n ≤ c) (hc : c ≤ maxLen) (hm : U64s m)
    (_ : (Lit.int .i64 z).wf = true) (_ : (Lit.int .i64 a).wf = true) (hk : (Lit.int .i64 k).wf = true) (hT : Tab w) :
    Calls Tryd.prog 4 #[.slice A n c, .int .i64 z, .int .i64 a, .int .i64 k, .bool on] w fun e w' => e = .returned (.bool true) ∧ Below w.heap.size w w' := by
  have hn9 : n ≤ 9223372036854775807 := by unfold maxLen at hc; omega
  have HT := Lib.hid hT
  by_cases hE : mstE m z a 0 = 0
  · obtain ⟨N, K, L, rfl, rfl, hL, hN, hlen, -, hKL, hch⟩ := mstE_ok hE
    have H1 := Lib.hid (fun w hr hT => mNext_ok A n c w.heap.size m N K on w hr hn9 hm hE hT)
    have HH := Lib.hid (fun (k : Int) (w : World) (hr : Reads w w.heap.size 1 A n (m.map (.int .u64))) => mHas_any A n c w.heap.size m N k w hr hn9 hm)
    have HC := Lib.hid hch
    clear hE hm hlen hch hT hL hKL
    go_enter Tryd.func4, Tryd.ntmps4
    go_wp2_with fail
    refine (marks_true _ HT.out).mono ?_
    rintro e w1' ⟨rfl, hb1⟩
    have HR := Lib.hid ((hr.below hb1).more hb1.size)
    have HT1 := Lib.hid (HT.out.below hb1)
    go_wp2_with fail
    refine (H1.out _ HR.out HT1.out).mono ?_
    rintro e w2' ⟨⟨t, rfl, hNx⟩, rfl⟩
    obtain ⟨n1, n2, n3, n4⟩ := hNx
    have HN3 := Lib.hid n3
    have HN4 := Lib.hid n4
    have a1 : ¬ (t : Int) < K := by omega
    have a2 : ¬ (N : Int) < t := by omega
    have hk' := b64 hk
    have H4 := Lib.hid (HH.out k _ HR.out)
    clear n3 n4 hk
    by_cases ht : t < N
    · have hEt : mstE m N t 1 = 0 := mstE_of (L := 1) HC.out (by omega)
      have hVt : hasV m N t = on := by unfold hasV; rw [if_pos hEt, Int.toNat_natCast]; exact HN4.out ht
      have H3 := HH.out t _ HR.out
      rw [hVt, hEt] at H3
      have H3 := Lib.hid H3
      have hd : decide (t < N) = true := decide_eq_true ht
      have ht2 : (t : Int) < N := by omega
      clear hEt hVt ht
      by_cases hE4 : mstE m N k 1 = 0
      · obtain ⟨N', K4, L', h1, rfl, h3, -, -, -, h4, -⟩ := mstE_ok hE4
        have hV4 : hasV m N K4 = mk m K4 := by unfold hasV; rw [if_pos hE4, Int.toNat_natCast]
        rw [hE4, hV4] at H4
        have HV : Hid (K ≤ K4 → K4 < t → mk m K4 ≠ on) := fun a b => HN3.out K4 a b
        generalize mk m K4 = v at *
        clear hE4 hV4 h1 h3 h4
        by_cases hlo : (K4 : Int) < K
        · go_wp2_with fail
          refine H3.out.mono ?_
          rintro e w3' ⟨rfl, rfl⟩
          go_wp2_with fail
          refine H4.out.mono ?_
          rintro e w4' ⟨rfl, rfl⟩
          go_wp2
          go_ret
          exact ⟨by first | rfl | simp, hb1⟩
        · by_cases hhi : (t : Int) ≤ K4
          · go_wp2_with fail
            refine H3.out.mono ?_
            rintro e w3' ⟨rfl, rfl⟩
            go_wp2_with fail
            refine H4.out.mono ?_
            rintro e w4' ⟨rfl, rfl⟩
            go_wp2
            go_ret
            exact ⟨by first | rfl | simp, hb1⟩
          · have hv := HV.out (by omega) (by omega)
            have hvn : (v != on) = true := by simpa using hv
            clear hv
            go_wp2_with fail
            refine H3.out.mono ?_
            rintro e w3' ⟨rfl, rfl⟩
            go_wp2_with fail
            refine H4.out.mono ?_
            rintro e w4' ⟨rfl, rfl⟩
            go_wp2
            go_ret
            exact ⟨by first | rfl | (simp; exact .inr (by simpa using hvn)), hb1⟩
      · generalize mstE m N k 1 = E4 at *
        generalize hasV m N k = v at *
        have hE5 : (E4 != 0) = true := by simpa using hE4
        clear hE4
        go_wp2_with fail
        refine H3.out.mono ?_
        rintro e w3' ⟨rfl, rfl⟩
        go_wp2_with fail
        refine H4.out.mono ?_
        rintro e w4' ⟨rfl, rfl⟩
        go_wp2
        go_ret
        exact ⟨by first | rfl | simp, hb1⟩
    · have hEt : mstE m N t 1 ≠ 0 := fun h => by
        obtain ⟨N', K', L', h1, h2, h3, -, -, -, h4, -⟩ := mstE_ok h
        omega
      have hVt : hasV m N t = false := by unfold hasV; rw [if_neg hEt]
      have H3 := HH.out t _ HR.out
      rw [hVt] at H3
      generalize mstE m N t 1 = Et at *
      have H3 := Lib.hid H3
      have hd : decide (t < N) = false := decide_eq_false ht
      have ht2 : ¬ (t : Int) < N := by omega
      clear hVt hEt ht
      by_cases hE4 : mstE m N k 1 = 0
      · obtain ⟨N', K4, L', h1, rfl, h3, -, -, -, h4, -⟩ := mstE_ok hE4
        have hV4 : hasV m N K4 = mk m K4 := by unfold hasV; rw [if_pos hE4, Int.toNat_natCast]
        rw [hE4, hV4] at H4
        have HV : Hid (K ≤ K4 → K4 < t → mk m K4 ≠ on) := fun a b => HN3.out K4 a b
        generalize mk m K4 = v at *
        clear hE4 hV4 h1 h3 h4
        by_cases hlo : (K4 : Int) < K
        · go_wp2_with fail
          refine H3.out.mono ?_
          rintro e w3' ⟨rfl, rfl⟩
          go_wp2_with fail
          refine H4.out.mono ?_
          rintro e w4' ⟨rfl, rfl⟩
          go_wp2
          go_ret
          exact ⟨by first | rfl | simp, hb1⟩
        · by_cases hhi : (t : Int) ≤ K4
          · go_wp2_with fail
            refine H3.out.mono ?_
            rintro e w3' ⟨rfl, rfl⟩
            go_wp2_with fail
            refine H4.out.mono ?_
            rintro e w4' ⟨rfl, rfl⟩
            go_wp2
            go_ret
            exact ⟨by first | rfl | simp, hb1⟩
          · have hv := HV.out (by omega) (by omega)
            have hvn : (v != on) = true := by simpa using hv
            clear hv
            go_wp2_with fail
            refine H3.out.mono ?_
            rintro e w3' ⟨rfl, rfl⟩
            go_wp2_with fail
            refine H4.out.mono ?_
            rintro e w4' ⟨rfl, rfl⟩
            go_wp2
            go_ret
            exact ⟨by first | rfl | (simp; exact .inr (by simpa using hvn)), hb1⟩
      · generalize mstE m N k 1 = E4 at *
        generalize hasV m N k = v at *
        have hE5 : (E4 != 0) = true := by simpa using hE4
        clear hE4
        go_wp2_with fail
        refine H3.out.mono ?_
        rintro e w3' ⟨rfl, rfl⟩
        go_wp2_with fail
        refine H4.out.mono ?_
        rintro e w4' ⟨rfl, rfl⟩
        go_wp2
        go_ret
        exact ⟨by first | rfl | simp, hb1⟩
  · have H1 := fun w hr => mNext_bad A n c w.heap.size m z a on w hr hn9 hm hE
    generalize mstE m z a 0 = E2 at *
    have hE1 : (E2 != 0) = true := by simpa using hE
    have H1 := Lib.hid H1
    clear hE hm
    go_enter Tryd.func4, Tryd.ntmps4
    go_wp2_with fail
    refine (marks_true _ HT.out).mono ?_
    rintro e w1' ⟨rfl, hb1⟩
    have HR := Lib.hid ((hr.below hb1).more hb1.size)
    go_wp2_with fail
    refine (H1.out _ HR.out).mono ?_
    rintro e w2' ⟨rfl, rfl⟩
    go_wp2
    go_ret
    exact ⟨rfl, hb1⟩

namespace SpotNext
open Go.ChangeShapes Go.WideShapes Go.ChangeAt Go.RowKit
theorem own : ownKnob Tryd.prog.godebug = none := by kernel_rfl
theorem laidOut : laidOutB Tryd.prog = true := by kernel_rfl

theorem contract (H : Type) (enc : TypeId × Value → H) (W : World) (base : Nat) (args : Array Value) (ds gs : List (DataW H)) (before : List MemPlace)
    (hval0 : ∀ (j : Nat) t v, Tryd.f4.params[j]? = some t → args[j]? = some v → Value.okWide Tryd.prog W .any base t v)
    (hW : DataW.Whole enc Tryd.prog Tryd.f4.params.toList Rows.spotNextSpec.vars false W args.toList ds gs before) (hL : laidMetH Tryd.prog Rows.spotNextRow.laid W) :
    Calls Tryd.prog 4 args W fun e W' => ∃ v, e = .returned v ∧ Rows.spotNextSpec.post enc Tryd.prog Tryd.f4 false true false false W args v W' := by
  have hval : ∀ (j : Nat) t v, Tryd.f4.params[j]? = some t → args[j]? = some v → Value.okWide Tryd.prog W .any base t v := hval0
  have hT : Tab W := tab_of hL
  have hW' := hW
  obtain ⟨p, q, hA0, hV, rfl, hfz, hnd⟩ := hW
  have hA : DataW.TrodAll enc Tryd.prog W 0 (fun _ => true) true Tryd.f4.params.toList args.toList ds p := hA0
  rw [Tryd.params4] at hA hval
  obtain ⟨v0, vs0, d0, ds0, p0, q0, hargs, rfl, rfl, h0, hA⟩ := trodAll_cons hA
  obtain ⟨v1, vs1, d1, ds1, p1, q1, rfl, rfl, rfl, h1, hA⟩ := trodAll_cons hA
  obtain ⟨v2, vs2, d2, ds2, p2, q2, rfl, rfl, rfl, h2, hA⟩ := trodAll_cons hA
  obtain ⟨v3, vs3, d3, ds3, p3, q3, rfl, rfl, rfl, h3, hA⟩ := trodAll_cons hA
  obtain ⟨v4, vs4, d4, ds4, p4, q4, rfl, rfl, rfl, h4, hA⟩ := trodAll_cons hA
  obtain ⟨rfl, rfl, rfl⟩ := trodAll_nil hA
  obtain rfl : args = #[v0, v1, v2, v3, v4] := by cases args; simp_all
  obtain ⟨A0, n0, c0, xs0, rfl, hnc0, hc0, hr0, hx0⟩ := open_nums Tryd.underlying22 Tryd.underlying46 (by as_aux_lemma => kernel_rfl) (hval 0 _ v0 rfl rfl) (fun x hx => hW'.lt x (by simp [hx])) h0
  obtain ⟨i1, rfl, rfl, rfl, w1⟩ := open_int Tryd.underlying3 (hval 1 _ v1 rfl rfl) h1
  obtain ⟨i2, rfl, rfl, rfl, w2⟩ := open_int Tryd.underlying3 (hval 2 _ v2 rfl rfl) h2
  obtain ⟨i3, rfl, rfl, rfl, w3⟩ := open_int Tryd.underlying3 (hval 3 _ v3 rfl rfl) h3
  obtain ⟨i4, rfl, rfl, rfl⟩ := open_bool Tryd.underlying4 (hval 4 _ v4 rfl rfl) h4
  refine (spotNext_any A0 n0 c0 xs0 i1 i2 i3 i4 W hr0 hnc0 hc0 hx0 w1 w2 w3 hT).mono fun e W' ⟨he, hb⟩ => ?_
  subst he
  exact ⟨_, rfl, law_post laidOut Tryd.underlying4 rfl (by as_aux_lemma => kernel_rfl) rfl rfl hW' hb⟩

theorem laid_met (os : Os) : laidMet Tryd.prog Rows.spotNextRow.laid ((laidWorld os).forCall (fun _ _ => 0) ⟨#[], #[.slice none 0 0, .int .i64 0, .int .i64 0, .int .i64 0, .bool false], []⟩).memory :=
  laidMet_of_run' 8 (by as_aux_lemma => kernel_rfl) (by as_aux_lemma => kernel_rfl)
theorem reads (os : Os) {H : Type} (enc : TypeId × Value → H) : ∃ places, DataW.whole enc Tryd.prog ((laidWorld os).forCall (fun _ _ => 0) ⟨#[], #[.slice none 0 0, .int .i64 0, .int .i64 0, .int .i64 0, .bool false], []⟩).memory Tryd.f4.params.toList Rows.spotNextSpec.vars false #[Value.slice none 0 0, Value.int .i64 0, Value.int .i64 0, Value.int .i64 0, Value.bool false].toList 8 = some ([.nil, .lit (.int .i64 0), .lit (.int .i64 0), .lit (.int .i64 0), .lit (.bool false)], [], places) :=
  ⟨[], by as_aux_lemma => kernel_rfl⟩

set_option maxRecDepth 100000 in
theorem lifted (os : Os) (started : os.Started) (H : Type) (enc : TypeId × Value → H) (F : Stop.Interp) :
    ReturnsInHanded {} Tryd.checked os 4 .any ((OpenSpec.ofChange Rows.spotNextSpec).preRow enc Tryd.prog Tryd.f4 Rows.spotNextRow.domain false Rows.spotNextRow.laid) (((OpenSpec.ofChange Rows.spotNextSpec).at F).post enc Tryd.prog Tryd.f4 false true false false) := by
  obtain ⟨places, hx⟩ := reads os enc
  refine returnsInHanded_of_row (C := Tryd.checked) (s := OpenSpec.ofChange Rows.spotNextSpec) own started (by as_aux_lemma => kernel_rfl) Tryd.func4
    (witness_row_at (enc := enc) (C := Tryd.checked) false (laidWorld os) #[.slice none 0 0, .int .i64 0, .int .i64 0, .int .i64 0, .bool false] rfl (by as_aux_lemma => kernel_rfl) (by as_aux_lemma => kernel_rfl) (by as_aux_lemma => kernel_rfl)
      (OpenSpec.preRow_of_cond 8 hx (by as_aux_lemma => kernel_rfl) (fun k hk => by cases hk) (by as_aux_lemma => kernel_rfl) (laid_met os))) ?_
  intro W base args ds gs before hval hW _ _ _ hL _ _
  exact contract H enc W base args ds gs before hval hW hL

set_option maxHeartbeats 10000000 in
theorem closed : joinedFacts Tryd.prog 4 Tryd.f4 Rows.spotNextSpec Rows.spotNextRow = true := by
  unfold joinedFacts
  simp only [Bool.and_eq_true]
  repeat' apply And.intro
  all_goals as_aux_lemma => kernel_rfl

set_option maxHeartbeats 1000000 in
theorem said : Rows.SpotNextSaid :=
  OpenClaim.holds_of_cond 4 Tryd.f4 rfl rfl rfl rfl rfl rfl rfl ⟨rfl, rfl, rfl, rfl, rfl⟩ rfl rfl rfl rfl rfl (by as_aux_lemma => kernel_rfl) Tryd.func4 closed
    (of_decide_eq_true (by as_aux_lemma => kernel_rfl)) (by unfold Func.isWrapper; first | (rw [if_pos (by decide +kernel)]; kernel_rfl) | (rw [if_neg (by decide +kernel)]; exact ⟨rfl, rfl⟩))
    (fun os started H enc _ F => by rw [OpenClaim.pre_eq_preRow]; exact lifted os started H enc F)

theorem plain (f : FuncId) (fn : Func) (hf : Tryd.pinned.checked.prog.funcNamed "cairnfield/cairnfieldkeep.SpotNext" = some f) (hfn : Tryd.pinned.checked.prog.funcs[f]? = some fn) :
    false = Tryd.pinned.checked.prog.looks [] ∧ ∀ (j : Nat) t, fn.params[j]? = some t → Tryd.pinned.checked.prog.wantsStandIn t = false := by
  obtain rfl : f = 4 := Option.some.inj ((show Tryd.prog.funcNamed "cairnfield/cairnfieldkeep.SpotNext" = some 4 by kernel_rfl).symm.trans hf) |>.symm
  obtain rfl : fn = Tryd.f4 := (Option.some.inj (Tryd.func4.symm.trans hfn)).symm
  refine ⟨by kernel_rfl, fun j t ht => ?_⟩
  rw [Tryd.params4] at ht
  have hm := Array.mem_of_getElem? ht
  simp only [List.mem_toArray, List.mem_cons, List.not_mem_nil, or_false] at hm
  repeat' (first | (rcases hm with rfl | hm) | (subst hm))
  all_goals first | exact (show Tryd.prog.wantsStandIn 22 = false by kernel_rfl) | exact (show Tryd.prog.wantsStandIn 3 = false by kernel_rfl) | exact (show Tryd.prog.wantsStandIn 4 = false by kernel_rfl)

theorem proved : Rows.SpotNextCardSaid :=
  Claim7.holds_tied_plain_at .later [] _ _ _ _ said (fun _ h => by cases h) (by kernel_rfl) (fun _ h => by cases h) spotNext_row_tie rfl ⟨rfl, rfl⟩ (by kernel_rfl) rfl plain (by kernel_rfl)
end SpotNext
end Go.Proofs.YtdaanmmffiicdaaDoor
