/-
  SpotRuns answers true for all marks and numbers, and changes no argument: the runs cover exactly the set marks and are maximal. The table of math/bits lies as its initialiser lays it (tied on the card).
-/
import Derived.Test.YtdaanmmffiicdaaDoorSpotRow
import Derived.Test.YtdaanmmffiicdaaDoorSpotRunsFn
namespace Go.Proofs.YtdaanmmffiicdaaDoor
open Go.RowKit

set_option maxHeartbeats 400000 in
theorem rin_any (r : Rn) (k : Nat) (w : World) (h0 : 0 ≤ r.loc) (hk : k ≤ 256) :
    Calls Tryd.prog 16 #[.agg #[.int .i64 r.loc, .int .i64 r.len], .int .i64 k] w fun e w' => e = .returned (.bool (pIn k r)) ∧ Below w.heap.size w w' := by
  obtain ⟨l, n⟩ := r
  unfold pIn
  dsimp only at *
  by_cases h1 : l ≤ (k : Int)
  · have w1 : IntKind.i64.wrap ((k : Int) - l) = (k : Int) - l := IntWalk.i64_in _ (by omega)
    go_enter Tryd.func16, Tryd.ntmps16
    go_wp2
    go_ret
    exact ⟨by simp [h1], below_new _ _⟩
  · rw [decide_eq_false h1, Bool.false_and]
    go_enter Tryd.func16, Tryd.ntmps16
    go_wp2
    go_ret
    exact ⟨rfl, below_new _ _⟩

set_option maxHeartbeats 400000 in
theorem rinClosure_any (g : Nat) (k : Nat) (r : Rn) (w : World) (h0 : 0 ≤ r.loc) (hk : k ≤ 256) (hg : g < w.heap.size) (hc : w.cell? ⟨g, 0, none⟩ = some (.int .i64 k)) :
    Calls Tryd.prog 15 #[.agg #[.int .i64 r.loc, .int .i64 r.len], .pointer (some ⟨g, 0, none⟩)] w fun e w' => e = .returned (.bool (pIn k r)) ∧ Below w.heap.size w w' := by
  have H := Lib.hid (fun w => rin_any r k w h0 hk)
  have hc' : ∀ o, (w.alloc o).cell? ⟨g, 0, none⟩ = some (.int .i64 k) := fun o => by rw [World.cell?_alloc_lt _ _ _ (by exact hg)]; exact hc
  obtain ⟨l, n⟩ := r
  dsimp only at *
  generalize pIn k ⟨l, n⟩ = b at *
  go_enter Tryd.func15, Tryd.ntmps15
  go_wp2_with fail
  refine (H.out _).mono ?_
  rintro e w1 ⟨rfl, hb1⟩
  go_wp2
  go_ret
  exact ⟨rfl, below_step (below_new _ _) hb1⟩

set_option maxRecDepth 100000 in
set_option maxHeartbeats 2000000 in
theorem spotRuns_any (A : Option Addr) (n c : Nat) (m : List Int) (z k : Int) (w : World) (hr : Reads w w.heap.size 1 A n (m.map (.int .u64))) (hnc : n ≤ c) (hc : c ≤ maxLen) (hm : U64s m)
    (_ : (Lit.int .i64 z).wf = true) (hk : (Lit.int .i64 k).wf = true) (hT : Tab w) :
    Calls Tryd.prog 6 #[.slice A n c, .int .i64 z, .int .i64 k] w fun e w' => e = .returned (.bool true) ∧ Below w.heap.size w w' := by
  have hn9 : n ≤ 9223372036854775807 := by unfold maxLen at hc; omega
  have HT := Lib.hid hT
  have hba := below_new w (.cells #[.int .i64 k] 3)
  have B0 := Blk.new w 3 #[.int .i64 k]
  by_cases hE : mchkE m z = 0
  · obtain ⟨N, rfl, hN, hlen, -⟩ := mchkE_ok hE
    have H1 := Lib.hid (fun w hr hT => mRuns_ok A n c m N w hr hm hE hT)
    have H2 := Lib.hid (fun w hr => mHas_any A n c w.heap.size m N k w hr hn9 hm)
    have hE3 : mstE m N ((0 : Nat) : Int) N = 0 := mstE_of (A := 0) hE (by omega)
    have hV3 : cntV m N ((0 : Nat) : Int) N = (cnt m 0 N : Int) := by unfold cntV; rw [if_pos hE3, Int.toNat_natCast, Int.toNat_natCast]
    have H3 := fun w hr hT => mCount_any A n c w.heap.size m N ((0 : Nat) : Int) N w hr hn9 hm hT
    rw [hV3, hE3] at H3
    have H3 := Lib.hid H3
    have hcl := cnt_le m 0 N
    clear hE hE3 hV3 hm hT hlen hk
    go_enter Tryd.func6, Tryd.ntmps6
    go_wp2_with fail
    refine (marks_true _ (HT.out.below hba)).mono ?_
    rintro e w1' ⟨rfl, hb1⟩
    have hb01 := below_step hba hb1
    have D1 := B0.below hb1 B0.lt
    have HT1 := Lib.hid (HT.out.below hb01)
    have hr1 := (hr.below hb01).more hb01.size
    clear hba B0 hb1
    go_wp2_with fail
    refine (H1.out _ hr1 HT1.out).mono ?_
    rintro e w2 ⟨hb2, A2, c2, l, rfl, hown, hP⟩
    have hrl := Reads.of_own hown
    have hb02 := below_step hb01 hb2
    have D2 := D1.below hb2 D1.lt
    have hr2 := (hr1.below hb2).more hb2.size
    have HT2 := Lib.hid (HT1.out.below hb2)
    have HG := Lib.hid (fun i r h => hP.get (Nat.le_refl _) i r h)
    have hsum := hP.sum
    rw [Nat.sub_zero] at hsum
    have HS := Lib.hid hsum
    have HPA := Lib.hid (fun k (hk : k < N) => hP.any (k := k) (Nat.zero_le _) hk)
    have hll := hP.le.2
    obtain ⟨q, hq⟩ : ∃ q, q = l.length := ⟨_, rfl⟩
    rw [← hq] at hrl hll
    rw [← hq]
    have HQ := Lib.hid hq
    clear hown hP hsum hq hb01 hb2 D1 hr1
    go_wp2
    go_loopw [9, 10, 11, 31] (fun sm _ _ i wr => ∃ (j : Nat) (s : Int), j ≤ q ∧ i = .int .i64 j ∧ sm = .int .i64 s ∧ 0 ≤ s ∧ s ≤ 256 * j ∧ Hid (s = lsum (l.take j)) ∧ Below w2.heap.size w2 wr) (fun _ _ _ i _ => q - (intOf i).toNat)
    case atStart => exact ⟨0, 0, Nat.zero_le _, rfl, rfl, by omega, by omega, rfl, Below.refl _ _⟩
    case round =>
      obtain ⟨j, s, hj, rfl, rfl, hs0, hs1, hs, hb⟩ := hrel
      by_cases hlt : j < q
      · obtain ⟨ad, r, rfl, had, hx, cx0, cx1⟩ := (hrl.below hb).run hlt
        obtain ⟨a, e, rfl, -, hae, heN, -⟩ := HG.out j r hx
        have HTk : Hid (l.take (j + 1) = l.take j ++ [⟨a, ((e - a : Nat) : Int)⟩]) := by
          show _ = _
          obtain ⟨h1, h2⟩ := List.getElem?_eq_some_iff.1 hx
          rw [← h2]
          exact List.take_succ_eq_append_getElem h1
        have HS2 : Hid (s + ((e - a : Nat) : Int) = lsum (l.take (j + 1))) := by
          show _ = _
          rw [HTk.out, lsum_append, hs.out]
          simp [lsum]
        obtain ⟨d, hd⟩ : ∃ d, d = e - a := ⟨_, rfl⟩
        dsimp only at cx0 cx1
        rw [← hd] at cx1 HS2
        have hb0 := hb.alloc hb.size (.cells #[.int .i64 a, .int .i64 d] 41)
        have g0 : decide ((a : Int) < 0) = false := decide_eq_false (by omega)
        have g1 : decide ((d : Int) < 1) = false := decide_eq_false (by omega)
        have g2 : decide (d < 1) = false := decide_eq_false (by omega)
        have w1 : IntKind.i64.wrap ((a : Int) + d) = ((e : Nat) : Int) := by rw [IntWalk.i64_in _ (by omega)]; omega
        have g3 : decide (N < e) = false := decide_eq_false (by omega)
        have w2' : IntKind.i64.wrap (s + (d : Int)) = s + d := IntWalk.i64_in _ (by omega)
        have B1 := Blk.new wr 41 #[.int .i64 a, .int .i64 d]
        have b0 := B1.cell 0
        have b1 := B1.cell 1
        simp only [List.getElem?_toArray, List.getElem?_cons_zero, List.getElem?_cons_succ] at b0 b1
        by_cases hj0 : j = 0
        · subst hj0
          have cy0 : wr.cell? ad = some (.int .i64 a) := by simpa [Addr.add] using cx0
          have cy1 : wr.cell? ⟨ad.block, ad.off + 1, none⟩ = some (.int .i64 d) := by simpa [Addr.add] using cx1
          have hjj : 0 + 1 ≤ q := by omega
          have hss : s + (d : Int) ≤ 256 * ((0 + 1 : Nat) : Int) := by omega
          clear hx hs hd B1 cx0 cx1
          go_wp2
          go_quiet (fail)
          go_wp2
          go_roundw
          case rel => exact ⟨0 + 1, s + d, hjj, by go_num, rfl, by omega, hss, HS2, below_drewN hb0 _⟩
          case measure => simp [intOf]; omega
        · obtain ⟨p, rfl⟩ : ∃ p, j = p + 1 := ⟨j - 1, by omega⟩
          obtain ⟨ad', r', e', had', hx', cp0, cp1⟩ := (hrl.below hb).run (j := p) (by omega)
          obtain rfl : ad' = ad := by injection e' with e'; exact e'.symm
          obtain ⟨a', e2, rfl, -, ha2, he2, hnx⟩ := HG.out p r' hx'
          have hlt3 := hnx _ hx
          obtain ⟨d', hd'⟩ : ∃ d', d' = e2 - a' := ⟨_, rfl⟩
          dsimp only at cp0 cp1 hlt3
          rw [← hd'] at cp1
          have hp1 : ((p + 1 : Nat) : Int) - 1 = p := by omega
          have g4 : decide (0 < p + 1) = true := decide_eq_true (by omega)
          have w5 : IntKind.i64.wrap ((a' : Int) + d') = ((e2 : Nat) : Int) := by rw [IntWalk.i64_in _ (by omega)]; omega
          have w6 : IntKind.i64.wrap (p : Int) = p := IntWalk.i64_in _ (by omega)
          have g5 : decide (a ≤ e2) = false := decide_eq_false (by omega)
          have cq0 := (World.cell?_alloc_lt wr (.cells #[.int .i64 a, .int .i64 d] 41) (ad'.add (p * 2)) (by rw [block_of_add]; have := hb.size; omega)).trans cp0
          have cq1 := (World.cell?_alloc_lt wr (.cells #[.int .i64 a, .int .i64 d] 41) ⟨(ad'.add (p * 2)).block, (ad'.add (p * 2)).off + 1, none⟩ (by dsimp only; rw [block_of_add]; have := hb.size; omega)).trans cp1
          have hpq : p < q := by omega
          have hpq2 : (p : Int) < q := by omega
          have hjj : p + 1 + 1 ≤ q := by omega
          have hss : s + (d : Int) ≤ 256 * ((p + 1 + 1 : Nat) : Int) := by omega
          clear hx hj0 hs hd B1 hx' hd' cp0 cp1 hnx e'
          go_wp2
          go_quiet (fail)
          go_wp2
          go_roundw
          case rel => exact ⟨p + 1 + 1, s + d, hjj, by go_num, rfl, by omega, hss, HS2, below_drewN hb0 _⟩
          case measure => simp [intOf]; omega
      · have hjq : j = q := by omega
        subst hjq
        rw [List.take_of_length_le (by rw [← HQ.out]; exact Nat.le_refl _), HS.out] at hs
        obtain rfl : s = (cnt m 0 N : Int) := hs.out
        have hbr := below_step hb02 hb
        have D3 := D2.below hb D2.lt
        have hrr := (hr2.below hb).more hb.size
        have hrq := (hrl.below hb).more hb.size
        have HT3 := Lib.hid (HT2.out.below hb)
        have k0 := D3.cell 0
        simp only [List.getElem?_toArray, List.getElem?_cons_zero] at k0
        have H2' := H2.out wr hrr
        have H3' := Lib.hid (H3.out wr hrr HT3.out)
        generalize hcc : cnt m 0 N = cc at *
        clear hs hs0 hs1 hcc hr2 hb hb02 D2 hrl
        by_cases hE4 : mstE m N k 1 = 0
        · obtain ⟨N', K4, L', h1, rfl, h3, -, -, -, h4, -⟩ := mstE_ok hE4
          have hKN : K4 < N := by omega
          have hV1 : hasV m N K4 = mk m K4 := by unfold hasV; rw [if_pos hE4, Int.toNat_natCast]
          rw [hE4, hV1] at H2'
          have hany := HPA.out K4 hKN
          have HCt := containsRun_any 15 (.pointer (some ⟨w.heap.size, 0, none⟩)) A2 j c2 _ l (pIn K4) wr hrq (Nat.le_refl _) (by omega) (plain_of (fn := Tryd.f15) Tryd.func15 (by kernel_rfl) (by kernel_rfl)) (fun w' s' hb' hs' => by
            obtain ⟨i, hi⟩ := List.mem_iff_getElem?.1 hs'
            obtain ⟨a, e, rfl, -⟩ := HG.out i s' hi
            exact rinClosure_any w.heap.size K4 _ w' (by dsimp only; omega) (by omega) (by have := hb'.size; have := D3.lt; omega) ((D3.below hb' D3.lt).cell 0))
          rw [hany] at HCt
          generalize mk m K4 = y at *
          have H2'' := Lib.hid H2'
          have HCt' := Lib.hid HCt
          have hyy : (y == y) = true := by simp
          clear hE4 hV1 hany h1 h3 h4 HCt H2'
          go_wp2_with fail
          refine H2''.out.mono ?_
          rintro e w3 ⟨rfl, rfl⟩
          go_wp2_with fail
          refine H3'.out.mono ?_
          rintro e w4 ⟨rfl, rfl⟩
          go_wp2_with fail
          refine HCt'.out.mono ?_
          rintro e w5 ⟨rfl, hb5⟩
          go_wp2
          go_ret
          exact ⟨by first | rfl | simp, below_step hbr hb5⟩
        · generalize mstE m N k 1 = E4 at *
          generalize hasV m N k = y at *
          have hE5 : (E4 != 0) = true := by simpa using hE4
          have H2'' := Lib.hid H2'
          clear hE4 H2'
          go_wp2_with fail
          refine H2''.out.mono ?_
          rintro e w3 ⟨rfl, rfl⟩
          go_wp2_with fail
          refine H3'.out.mono ?_
          rintro e w4 ⟨rfl, rfl⟩
          go_wp2
          go_ret
          exact ⟨by first | rfl | simp, hbr⟩
  · have H1 := fun w hr => mRuns_bad A n c w.heap.size m z w hr hn9 hm hE
    generalize mchkE m z = E2 at *
    have hE1 : (E2 != 0) = true := by simpa using hE
    have H1 := Lib.hid H1
    clear hE hm
    go_enter Tryd.func6, Tryd.ntmps6
    go_wp2_with fail
    refine (marks_true _ (HT.out.below hba)).mono ?_
    rintro e w1' ⟨rfl, hb1⟩
    have hb01 := below_step hba hb1
    have HR := Lib.hid ((hr.below hb01).more hb01.size)
    go_wp2_with fail
    refine (H1.out _ HR.out).mono ?_
    rintro e w2' ⟨rfl, rfl⟩
    go_wp2
    go_ret
    exact ⟨rfl, hb01⟩

namespace SpotRuns
open Go.ChangeShapes Go.WideShapes Go.ChangeAt Go.RowKit
theorem own : ownKnob Tryd.prog.godebug = none := by kernel_rfl
theorem laidOut : laidOutB Tryd.prog = true := by kernel_rfl

theorem contract (H : Type) (enc : TypeId × Value → H) (W : World) (base : Nat) (args : Array Value) (ds gs : List (DataW H)) (before : List MemPlace)
    (hval0 : ∀ (j : Nat) t v, Tryd.f6.params[j]? = some t → args[j]? = some v → Value.okWide Tryd.prog W .any base t v)
    (hW : DataW.Whole enc Tryd.prog Tryd.f6.params.toList Rows.spotRunsSpec.vars false W args.toList ds gs before) (hL : laidMetH Tryd.prog Rows.spotRunsRow.laid W) :
    Calls Tryd.prog 6 args W fun e W' => ∃ v, e = .returned v ∧ Rows.spotRunsSpec.post enc Tryd.prog Tryd.f6 false true false false W args v W' := by
  have hval : ∀ (j : Nat) t v, Tryd.f6.params[j]? = some t → args[j]? = some v → Value.okWide Tryd.prog W .any base t v := hval0
  have hT : Tab W := tab_of hL
  have hW' := hW
  obtain ⟨p, q, hA0, hV, rfl, hfz, hnd⟩ := hW
  have hA : DataW.TrodAll enc Tryd.prog W 0 (fun _ => true) true Tryd.f6.params.toList args.toList ds p := hA0
  rw [Tryd.params6] at hA hval
  obtain ⟨v0, vs0, d0, ds0, p0, q0, hargs, rfl, rfl, h0, hA⟩ := trodAll_cons hA
  obtain ⟨v1, vs1, d1, ds1, p1, q1, rfl, rfl, rfl, h1, hA⟩ := trodAll_cons hA
  obtain ⟨v2, vs2, d2, ds2, p2, q2, rfl, rfl, rfl, h2, hA⟩ := trodAll_cons hA
  obtain ⟨rfl, rfl, rfl⟩ := trodAll_nil hA
  obtain rfl : args = #[v0, v1, v2] := by cases args; simp_all
  obtain ⟨A0, n0, c0, xs0, rfl, hnc0, hc0, hr0, hx0⟩ := open_nums Tryd.underlying22 Tryd.underlying46 (by as_aux_lemma => kernel_rfl) (hval 0 _ v0 rfl rfl) (fun x hx => hW'.lt x (by simp [hx])) h0
  obtain ⟨i1, rfl, rfl, rfl, w1⟩ := open_int Tryd.underlying3 (hval 1 _ v1 rfl rfl) h1
  obtain ⟨i2, rfl, rfl, rfl, w2⟩ := open_int Tryd.underlying3 (hval 2 _ v2 rfl rfl) h2
  refine (spotRuns_any A0 n0 c0 xs0 i1 i2 W hr0 hnc0 hc0 hx0 w1 w2 hT).mono fun e W' ⟨he, hb⟩ => ?_
  subst he
  exact ⟨_, rfl, law_post laidOut Tryd.underlying4 rfl (by as_aux_lemma => kernel_rfl) rfl rfl hW' hb⟩

theorem laid_met (os : Os) : laidMet Tryd.prog Rows.spotRunsRow.laid ((laidWorld os).forCall (fun _ _ => 0) ⟨#[], #[.slice none 0 0, .int .i64 0, .int .i64 0], []⟩).memory :=
  laidMet_of_run' 8 (by as_aux_lemma => kernel_rfl) (by as_aux_lemma => kernel_rfl)
theorem reads (os : Os) {H : Type} (enc : TypeId × Value → H) : ∃ places, DataW.whole enc Tryd.prog ((laidWorld os).forCall (fun _ _ => 0) ⟨#[], #[.slice none 0 0, .int .i64 0, .int .i64 0], []⟩).memory Tryd.f6.params.toList Rows.spotRunsSpec.vars false #[Value.slice none 0 0, Value.int .i64 0, Value.int .i64 0].toList 8 = some ([.nil, .lit (.int .i64 0), .lit (.int .i64 0)], [], places) :=
  ⟨[], by as_aux_lemma => kernel_rfl⟩

set_option maxRecDepth 100000 in
theorem lifted (os : Os) (started : os.Started) (H : Type) (enc : TypeId × Value → H) (F : Stop.Interp) :
    ReturnsInHanded {} Tryd.checked os 6 .any ((OpenSpec.ofChange Rows.spotRunsSpec).preRow enc Tryd.prog Tryd.f6 Rows.spotRunsRow.domain false Rows.spotRunsRow.laid) (((OpenSpec.ofChange Rows.spotRunsSpec).at F).post enc Tryd.prog Tryd.f6 false true false false) := by
  obtain ⟨places, hx⟩ := reads os enc
  refine returnsInHanded_of_row (C := Tryd.checked) (s := OpenSpec.ofChange Rows.spotRunsSpec) own started (by as_aux_lemma => kernel_rfl) Tryd.func6
    (witness_row_at (enc := enc) (C := Tryd.checked) false (laidWorld os) #[.slice none 0 0, .int .i64 0, .int .i64 0] rfl (by as_aux_lemma => kernel_rfl) (by as_aux_lemma => kernel_rfl) (by as_aux_lemma => kernel_rfl)
      (OpenSpec.preRow_of_cond 8 hx (by as_aux_lemma => kernel_rfl) (fun k hk => by cases hk) (by as_aux_lemma => kernel_rfl) (laid_met os))) ?_
  intro W base args ds gs before hval hW _ _ _ hL _ _
  exact contract H enc W base args ds gs before hval hW hL

set_option maxHeartbeats 10000000 in
theorem closed : joinedFacts Tryd.prog 6 Tryd.f6 Rows.spotRunsSpec Rows.spotRunsRow = true := by
  unfold joinedFacts
  simp only [Bool.and_eq_true]
  repeat' apply And.intro
  all_goals as_aux_lemma => kernel_rfl

set_option maxHeartbeats 1000000 in
theorem said : Rows.SpotRunsSaid :=
  OpenClaim.holds_of_cond 6 Tryd.f6 rfl rfl rfl rfl rfl rfl rfl ⟨rfl, rfl, rfl, rfl, rfl⟩ rfl rfl rfl rfl rfl (by as_aux_lemma => kernel_rfl) Tryd.func6 closed
    (of_decide_eq_true (by as_aux_lemma => kernel_rfl)) (by unfold Func.isWrapper; first | (rw [if_pos (by decide +kernel)]; kernel_rfl) | (rw [if_neg (by decide +kernel)]; exact ⟨rfl, rfl⟩))
    (fun os started H enc _ F => by rw [OpenClaim.pre_eq_preRow]; exact lifted os started H enc F)

theorem plain (f : FuncId) (fn : Func) (hf : Tryd.pinned.checked.prog.funcNamed "cairnfield/cairnfieldkeep.SpotRuns" = some f) (hfn : Tryd.pinned.checked.prog.funcs[f]? = some fn) :
    false = Tryd.pinned.checked.prog.looks [] ∧ ∀ (j : Nat) t, fn.params[j]? = some t → Tryd.pinned.checked.prog.wantsStandIn t = false := by
  obtain rfl : f = 6 := Option.some.inj ((show Tryd.prog.funcNamed "cairnfield/cairnfieldkeep.SpotRuns" = some 6 by kernel_rfl).symm.trans hf) |>.symm
  obtain rfl : fn = Tryd.f6 := (Option.some.inj (Tryd.func6.symm.trans hfn)).symm
  refine ⟨by kernel_rfl, fun j t ht => ?_⟩
  rw [Tryd.params6] at ht
  have hm := Array.mem_of_getElem? ht
  simp only [List.mem_toArray, List.mem_cons, List.not_mem_nil, or_false] at hm
  repeat' (first | (rcases hm with rfl | hm) | (subst hm))
  all_goals first | exact (show Tryd.prog.wantsStandIn 22 = false by kernel_rfl) | exact (show Tryd.prog.wantsStandIn 3 = false by kernel_rfl)

theorem proved : Rows.SpotRunsCardSaid :=
  Claim7.holds_tied_plain_at .later [] _ _ _ _ said (fun _ h => by cases h) (by kernel_rfl) (fun _ h => by cases h) spotRuns_row_tie rfl ⟨rfl, rfl⟩ (by kernel_rfl) rfl plain (by kernel_rfl)
end SpotRuns
end Go.Proofs.YtdaanmmffiicdaaDoor
