/-
  RootSwaps answers true for all roots, numbers and maps, and changes no argument: replacing words by an injective map and by its inverse restores the roots.
-/
import Derived.Test.YthfjopnomkfegaaRootSwap
import Derived.Test.YthfjopnomkfegaaRootNamed
import Derived.Test.YthfjopnomkfegaaRepeat
namespace Go.Proofs.Ythfjopnomkfegaa
open Go.RowKit

/-- B is the way back of the first j places of t. -/
def BackTo (t B : List Int) (N j : Nat) : Prop := B.length = N ∧ (∀ k, k < j → ∃ x : Nat, t[k]? = some (x : Int) ∧ x < N ∧ B[x]? = some (k : Int)) ∧ (∀ (x : Nat) (b : Int), B[x]? = some b → b = -1 ∨ ∃ k : Nat, k < j ∧ b = k ∧ t[k]? = some (x : Int))

theorem BackTo.start (t : List Int) (N : Nat) : BackTo t (List.replicate N (-1)) N 0 :=
  ⟨List.length_replicate, fun k h => absurd h (Nat.not_lt_zero _), fun x b h => by
    obtain ⟨h1, rfl⟩ := List.getElem?_eq_some_iff.1 h
    exact .inl (by rw [List.getElem_replicate])⟩
theorem BackTo.step {t B : List Int} {N j x : Nat} (h : BackTo t B N j) (hx : t[j]? = some (x : Int)) (hxN : x < N) (hb : ∀ b, B[x]? = some b → b < 0) : BackTo t (B.set x (j : Int)) N (j + 1) := by
  obtain ⟨h1, h2, h3⟩ := h
  refine ⟨by rw [List.length_set]; exact h1, fun k hk => ?_, fun y b hy => ?_⟩
  · by_cases hkj : k = j
    · subst hkj
      exact ⟨x, hx, hxN, by rw [List.getElem?_set_self (by omega)]⟩
    · obtain ⟨y, q1, q2, q3⟩ := h2 k (by omega)
      refine ⟨y, q1, q2, ?_⟩
      by_cases hxy : x = y
      · subst hxy
        have := hb _ q3
        omega
      · rw [List.getElem?_set_ne hxy]; exact q3
  · by_cases hxy : x = y
    · subst hxy
      rw [List.getElem?_set_self (by omega)] at hy
      exact .inr ⟨j, by omega, (Option.some.inj hy).symm, hx⟩
    · rw [List.getElem?_set_ne hxy] at hy
      rcases h3 y b hy with h | ⟨k, q1, q2, q3⟩
      · exact .inl h
      · exact .inr ⟨k, by omega, q2, q3⟩
theorem BackTo.done {t B r : List Int} {N : Nat} (h : BackTo t B N N) (ht : t.length = N) (hr : ∀ v ∈ r, -1 ≤ v ∧ v < N) (hE : rootE r N = 0) : swapE (r.map (swapV t)) N B = 0 ∧ (r.map (swapV t)).map (swapV B) = r := by
  obtain ⟨h1, h2, h3⟩ := h
  have hv : ∀ v ∈ r, (v = -1 ∧ swapV t v = -1) ∨ ∃ x k : Nat, v = (k : Int) ∧ swapV t v = (x : Int) ∧ x < N ∧ B[x]? = some (k : Int) := by
    intro v hv
    have := hr v hv
    by_cases h0 : 0 ≤ v
    · obtain ⟨k, rfl⟩ : ∃ k : Nat, v = k := ⟨v.toNat, by omega⟩
      obtain ⟨x, q1, q2, q3⟩ := h2 k (by omega)
      refine .inr ⟨x, k, rfl, ?_, q2, q3⟩
      unfold swapV
      rw [if_pos h0, Int.toNat_natCast, List.getD_eq_getElem?_getD, q1]
      rfl
    · exact .inl ⟨by omega, by unfold swapV; rw [if_neg h0]; omega⟩
  constructor
  · obtain ⟨e1, e2, e3, -⟩ := rootE_ok hE
    refine swapE_of (rootE_of e1 e2 (by rw [List.length_map]; exact e3) (fun y hy => ?_)) (by rw [h1]) (fun b hb => ?_)
    · obtain ⟨v, hvr, rfl⟩ := List.mem_map.1 hy
      rcases hv v hvr with ⟨-, h⟩ | ⟨x, k, -, h, hx, -⟩ <;> rw [h] <;> omega
    · obtain ⟨x, hx⟩ := List.mem_iff_getElem?.1 hb
      rcases h3 x b hx with h | ⟨k, q1, q2, -⟩ <;> omega
  · rw [List.map_map]
    have : ∀ v ∈ r, (swapV B ∘ swapV t) v = v := by
      intro v hvr
      show swapV B (swapV t v) = v
      rcases hv v hvr with ⟨rfl, h⟩ | ⟨x, k, rfl, h, -, hB⟩
      · rw [h]; unfold swapV; rw [if_neg (by omega)]
      · rw [h]
        unfold swapV
        rw [if_pos (by omega), Int.toNat_natCast, List.getD_eq_getElem?_getD, hB]
        rfl
    rw [List.map_congr_left this]
    simp

set_option maxRecDepth 100000 in
set_option maxHeartbeats 2000000 in
theorem rootSwaps_any (A : Option Addr) (n c : Nat) (r : List Int) (M : Int) (A2 : Option Addr) (n2 c2 : Nat) (t : List Int) (w : World) (hr : Reads w w.heap.size 1 A n (r.map (.int .i64))) (hnc : n ≤ c) (hc : c ≤ maxLen) (hx : ∀ x ∈ r, (Lit.int .i64 x).wf = true) (wm : (Lit.int .i64 M).wf = true)
    (hr2 : Reads w w.heap.size 1 A2 n2 (t.map (.int .i64))) (hnc2 : n2 ≤ c2) (hc2 : c2 ≤ maxLen) (hx2 : ∀ x ∈ t, (Lit.int .i64 x).wf = true) :
    Calls Try.prog 4 #[.slice A n c, .int .i64 M, .slice A2 n2 c2] w fun e w' => e = .returned (.bool true) ∧ Below w.heap.size w w' := by
  have hn : n ≤ 9223372036854775807 := by unfold maxLen at hc; omega
  have hn2 : n2 ≤ 9223372036854775807 := by unfold maxLen at hc2; omega
  clear hnc hc hx wm hnc2 hc2 hx2
  have hrl : r.length = n := by have := hr.1; simpa using this
  have htl : t.length = n2 := by have := hr2.1; simpa using this
  by_cases hE : swapE r M t = 0
  · obtain ⟨h0, h1, h2⟩ := swapE_ok hE
    obtain ⟨r1, r2, r3, r4⟩ := rootE_ok h0
    have hMn : M = n2 := by omega
    subst hMn
    have hn32 : n ≤ 32 := by omega
    have hN : n2 ≤ 256 := by omega
    have H1 := Lib.hid (fun w hr hr2 => swap_ok A A2 n c n2 c2 r t w hr hr2 hE)
    have HB := Lib.hid (fun B (h : BackTo t B n2 n2) => h.done htl r4 h0)
    have H2 := Lib.hid (fun A A2 c c2 B w hr hr2 hE => swap_ok A A2 n c n2 c2 (r.map (swapV t)) B w hr hr2 hE)
    have HT := Lib.hid h2
    clear hE h0 h1 h2 r1 r2 r3 r4 hn hn2 hrl htl
    go_enter Try.func4, Try.ntmps4
    go_wp2_with fail
    refine (roots_true _).mono ?_
    rintro e w1 ⟨rfl, hb1⟩
    go_wp2_with fail
    refine (H1.out _ ((hr.below hb1).more hb1.size) ((hr2.below hb1).more hb1.size)).mono ?_
    rintro e w2 ⟨A3, c3, rfl, hownA, hb2⟩
    have hb02 := below_step hb1 hb2
    have hrA := Reads.of_own hownA
    have hv := Blk.new w2 3 #[.int .i64 (-1)]
    have hb3 := below_new w2 (.cells #[.int .i64 (-1)] 3)
    have HRp := Lib.hid (repeat_one w2.heap.size n2 (-1) _ hv (by omega))
    clear hownA hv hb1 hb2
    go_wp2_with fail
    refine HRp.out.mono ?_
    rintro e w4 ⟨g, rfl, hownB, hb4⟩
    have hb24 := below_step hb3 hb4
    have hownB := own_mono hownB (show w2.heap.size ≤ _ from by simp)
    have hgw2 := hb02.size
    have HAr := Lib.hid hrA
    have HO0 := Lib.hid hownB
    have hr2' := hr2.below hb02
    clear hb3 hb4 hrA HRp hownB
    go_wp2
    go_loopw [33] (fun i wr => ∃ (j : Nat) (B : List Int), j ≤ n2 ∧ i = .int .i64 j ∧ Hid (wr.ownsRow w2.heap.size 3 1 (.slice (some ⟨g, 0, none⟩) n2 n2) n2 (B.map (.int .i64))) ∧ Hid (BackTo t B n2 j) ∧ Below w2.heap.size w2 wr) (fun i _ => n2 - (intOf i).toNat)
    case atStart => exact ⟨0, _, Nat.zero_le _, rfl, HO0, BackTo.start t n2, hb24⟩
    case round =>
      obtain ⟨j, B, hj, rfl, HO, HK, hb⟩ := hrel
      have hbw := below_step hb02 hb
      by_cases hlt : j < n2
      · obtain ⟨ad, v, rfl, had, hx, cx⟩ := (hr2.below hbw).num (k := j) hlt
        have hv := HT.out v (List.mem_of_getElem? hx)
        by_cases h0 : v < 0
        · have g0 : decide (v < 0) = true := decide_eq_true h0
          clear hx hv
          go_wp2
          go_ret
          exact ⟨rfl, hbw⟩
        · obtain ⟨V, rfl⟩ : ∃ V : Nat, v = V := ⟨v.toNat, by omega⟩
          have g0 : decide ((V : Int) < 0) = false := decide_eq_false h0
          have hV : V < n2 := by omega
          have hown := HO.out
          obtain ⟨g', cap, hvv, hg, -⟩ := hown.form (by omega)
          obtain ⟨rfl, rfl⟩ : g = g' ∧ n2 = cap := by simpa using hvv
          have hBl : B.length = n2 := HK.out.1
          have hF0 := hown.frozenAt V
          have hc0 := hown.cellAt V (by have := hown.1; omega)
          rw [List.getElem?_map, List.getElem?_eq_getElem (by omega)] at hc0
          have hc1 : wr.cell? ⟨g, V, none⟩ = some (.int .i64 (B[V]'(by omega))) := hc0
          have HBV : Hid (B[V]? = some (B[V]'(by omega))) := by show _ = _; rw [List.getElem?_eq_getElem (by omega)]
          generalize B[V]'(by omega) = b at *
          by_cases h2 : 0 ≤ b
          · have g2 : decide (0 ≤ b) = true := decide_eq_true h2
            clear hx hv hown hvv hc0 HK HO hBl
            go_wp2
            go_ret
            exact ⟨rfl, hbw⟩
          · have g2 : decide (0 ≤ b) = false := decide_eq_false h2
            have HK2 := Lib.hid (HK.out.step hx hV (fun b' hb' => by rw [HBV.out] at hb'; injection hb' with hb'; omega))
            have hst := (hown.stored V (.int .i64 j)).1
            rw [← List.map_set] at hst
            have HO2 := Lib.hid hst
            have hbx := hb.setCell (p := ⟨g, V, none⟩) hg (.int .i64 j)
            have hj1 : j + 1 ≤ n2 := hlt
            clear hx hv hown hvv hc0 HK HO hBl hst HBV
            go_wp2
            go_roundw
            case rel => exact ⟨j + 1, _, hj1, by go_num, HO2, HK2, hbx⟩
            case measure => simp [intOf]; omega
      · have hjn : j = n2 := by omega
        have HK2 : Hid (BackTo t B n2 n2) := by have := HK.out; rw [hjn] at this; exact this
        obtain ⟨q1, q2⟩ := HB.out B HK2.out
        have hrB := Reads.of_own HO.out
        have H3 := H2.out A3 (some ⟨g, 0, none⟩) c3 n2 B wr ((HAr.out.below hb).more hb.size) hrB q1
        rw [q2] at H3
        have H3 := Lib.hid H3
        have g0 : decide (j < n2) = false := decide_eq_false hlt
        have hrr := hr
        clear hjn q1 q2 hrB HK HO
        go_wp2_with fail
        refine H3.out.mono ?_
        rintro e w9 ⟨A9, c9, rfl, hown9, hb9⟩
        have hb09 := below_step hbw hb9
        have HE9 := equal_int A9 A n c9 n c _ _ r r _ (Reads.of_own hown9) ((hr.below hb09).more hb09.size) (by omega) (by omega)
        rw [decide_eq_true rfl] at HE9
        have HE9 := Lib.hid HE9
        clear hown9
        go_wp2_with fail
        refine HE9.out.mono ?_
        rintro e w10 ⟨rfl, q, rfl⟩
        go_wp2
        go_ret
        exact ⟨by first | rfl | simp, below_drewN hb09 _⟩
  · have H1 := Lib.hid (fun w hr hr2 => swap_bad A A2 n c n2 c2 r t M w hr hn hr2 hn2 hE)
    have hE1 : (swapE r M t != 0) = true := by simpa using hE
    generalize swapE r M t = E at *
    clear hE
    go_enter Try.func4, Try.ntmps4
    go_wp2_with fail
    refine (roots_true _).mono ?_
    rintro e w1 ⟨rfl, hb1⟩
    go_wp2_with fail
    refine (H1.out _ ((hr.below hb1).more hb1.size) ((hr2.below hb1).more hb1.size)).mono ?_
    rintro e w2 ⟨rfl, hb2⟩
    go_wp2
    go_ret
    exact ⟨by first | rfl | simp, below_step hb1 hb2⟩

namespace RootSwaps
open Go.ChangeShapes Go.WideShapes Go.ChangeAt Go.RowKit
theorem own : ownKnob Try.prog.godebug = none := by kernel_rfl
theorem laidOut : laidOutB Try.prog = true := by kernel_rfl

set_option maxRecDepth 100000 in
theorem lifted (os : Os) (started : os.Started) (H : Type) (enc : TypeId × Value → H) :
    ReturnsInHanded {} Try.checked os 4 .any (Rows.rootSwapsSpec.pre6 enc Try.prog Try.f4 Rows.rootSwapsRow.domain false) (Rows.rootSwapsSpec.post enc Try.prog Try.f4 false true false false) := by
  refine returnsInHanded_of_change (C := Try.checked) own started (by as_aux_lemma => kernel_rfl) Try.func4
    (ChangeSpec.witness6 (enc := enc) (C := Try.checked) false ⟨#[], #[.slice none 0 0, .int .i64 0, .slice none 0 0], []⟩ 8 (by as_aux_lemma => kernel_rfl) (by as_aux_lemma => kernel_rfl) (by as_aux_lemma => kernel_rfl) (by as_aux_lemma => kernel_rfl)) ?_
  intro W base args ds gs before hval0 hW hcnd _
  have hval : ∀ (j : Nat) t v, Try.f4.params[j]? = some t → args[j]? = some v → Value.okWide Try.prog W .any base t v := hval0
  have hW' := hW
  obtain ⟨p, q, hA0, hV, rfl, hfz, hnd⟩ := hW
  have hA : DataW.TrodAll enc Try.prog W 0 (fun _ => true) true Try.f4.params.toList args.toList ds p := hA0
  rw [Try.params4] at hA hval
  obtain ⟨v0, vs0, d0, ds0, p0, q0, hargs, rfl, rfl, h0, hA⟩ := trodAll_cons hA
  obtain ⟨v1, vs1, d1, ds1, p1, q1, rfl, rfl, rfl, h1, hA⟩ := trodAll_cons hA
  obtain ⟨v2, vs2, d2, ds2, p2, q2, rfl, rfl, rfl, h2, hA⟩ := trodAll_cons hA
  obtain ⟨rfl, rfl, rfl⟩ := trodAll_nil hA
  obtain rfl : args = #[v0, v1, v2] := by cases args; simp_all
  obtain ⟨A0, n0, c0, xs0, rfl, hnc0, hc0, hr0, hx0⟩ := open_nums Try.underlying22 Try.underlying3 (by as_aux_lemma => kernel_rfl) (hval 0 _ v0 rfl rfl) (fun x hx => hW'.lt x (by simp [hx])) h0
  obtain ⟨i1, rfl, rfl, rfl, w1⟩ := open_int Try.underlying3 (hval 1 _ v1 rfl rfl) h1
  obtain ⟨A2, n2, c2, xs2, rfl, hnc2, hc2, hr2, hx2⟩ := open_nums Try.underlying22 Try.underlying3 (by as_aux_lemma => kernel_rfl) (hval 2 _ v2 rfl rfl) (fun x hx => hW'.lt x (by simp [hx])) h2
  refine (rootSwaps_any A0 n0 c0 xs0 i1 A2 n2 c2 xs2 W hr0 hnc0 hc0 hx0 w1 hr2 hnc2 hc2 hx2).mono fun e W' ⟨he, hb⟩ => ?_
  subst he
  exact ⟨_, rfl, law_post laidOut Try.underlying4 rfl (by as_aux_lemma => kernel_rfl) rfl rfl hW' hb⟩

set_option maxHeartbeats 10000000 in
theorem closed : joinedFacts Try.prog 4 Try.f4 Rows.rootSwapsSpec Rows.rootSwapsRow = true := by
  unfold joinedFacts
  simp only [Bool.and_eq_true]
  repeat' apply And.intro
  all_goals as_aux_lemma => kernel_rfl

set_option maxHeartbeats 1000000 in
theorem proved : Rows.RootSwapsSaid :=
  OpenClaim.holds_of_wide 4 Try.f4 rfl rfl rfl rfl rfl rfl rfl ⟨rfl, rfl, rfl, rfl, rfl⟩ rfl rfl rfl rfl rfl (by as_aux_lemma => kernel_rfl) Try.func4 closed
    (of_decide_eq_true (by as_aux_lemma => kernel_rfl)) (by unfold Func.isWrapper; first | (rw [if_pos (by decide +kernel)]; kernel_rfl) | (rw [if_neg (by decide +kernel)]; exact ⟨rfl, rfl⟩))
    (fun os started H enc _ => lifted os started H enc)
end RootSwaps
end Go.Proofs.Ythfjopnomkfegaa
