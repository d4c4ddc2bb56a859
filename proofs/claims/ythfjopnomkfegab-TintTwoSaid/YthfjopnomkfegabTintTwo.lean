/-
  TintTwo answers true for all arenas and lists, and changes no argument: the objects reachable from two lists together are those reachable from one or the other.
-/
import Derived.Test.YthfjopnomkfegabTintFns
import Derived.Test.YthfjopnomkfegabTintWords
import Derived.Test.YthfjopnomkfegabConcatInt
import Derived.Test.YthfjopnomkfegabGood
import Derived.Test.YthfjopnomkfegabLaw
import Derived.Test.YthfjopnomkfegabLawNums
namespace Go.Proofs.Ythfjopnomkfegab
open Go.RowKit

theorem Reached.two {a : List Int} {S : List Spot} {x y p q r : List Int} (hp : Reached a S x p) (hq : Reached a S y q) (hr : Reached a S (x ++ y) r) : (∀ z ∈ p, z ∈ r) ∧ (∀ z ∈ q, z ∈ r) ∧ (∀ z ∈ r, z ∈ p ++ q) :=
  ⟨hp.least (· ∈ r) (fun z hz => hr.roots z (List.mem_append_left _ hz)) hr.closed, hq.least (· ∈ r) (fun z hz => hr.roots z (List.mem_append_right _ hz)) hr.closed,
    hr.least (· ∈ p ++ q) (fun z hz => by
      rcases List.mem_append.1 hz with h | h
      · exact List.mem_append_left _ (hp.roots z h)
      · exact List.mem_append_right _ (hq.roots z h)) (fun z hz u hu => by
      rcases List.mem_append.1 hz with h | h
      · exact List.mem_append_left _ (hp.closed z h u hu)
      · exact List.mem_append_right _ (hq.closed z h u hu))⟩

set_option maxRecDepth 100000 in
set_option maxHeartbeats 2000000 in
theorem tintTwo_any (A : Option Addr) (n c : Nat) (a : List Int) (A2 : Option Addr) (n2 c2 : Nat) (x : List Int) (A3 : Option Addr) (n3 c3 : Nat) (y : List Int) (w : World) (hr : Reads w w.heap.size 1 A n (a.map (.int .u64))) (hnc : n ≤ c) (hc : c ≤ maxLen) (ha : ∀ x ∈ a, (Lit.int .u64 x).wf = true)
    (hr2 : Reads w w.heap.size 1 A2 n2 (x.map (.int .i64))) (hnc2 : n2 ≤ c2) (hc2 : c2 ≤ maxLen) (hx2 : ∀ z ∈ x, (Lit.int .i64 z).wf = true) (hm2 : n2 * 8 ≤ 140737488351232)
    (hr3 : Reads w w.heap.size 1 A3 n3 (y.map (.int .i64))) (hnc3 : n3 ≤ c3) (hc3 : c3 ≤ maxLen) (hx3 : ∀ z ∈ y, (Lit.int .i64 z).wf = true) (hm3 : n3 * 8 ≤ 140737488351232) :
    Calls Try.prog 3 #[.slice A n c, .slice A2 n2 c2, .slice A3 n3 c3] w fun e w' => e = .returned (.bool true) ∧ Below w.heap.size w w' := by
  clear hc hnc2 hc2 hnc3 hc3
  have hxl : x.length = n2 := by have := hr2.1; simpa using this
  have hyl : y.length = n3 := by have := hr3.1; simpa using this
  by_cases hE : checkE a = 0
  · have h0 := (checkE_ok.1 hE).1
    have H1 := Lib.hid (fun w hr hr2 => reach_ok A n c a A2 n2 c2 x w hr hnc ha hr2 (by omega) hx2 hE)
    have H2 := Lib.hid (fun w hr hr3 => reach_ok A n c a A3 n3 c3 y w hr hnc ha hr3 (by omega) hx3 hE)
    have H3 := Lib.hid (fun A4 n4 c4 w hr hr4 hn4 => reach_ok A n c a A4 n4 c4 (x ++ y) w hr hnc ha hr4 hn4 (fun z hz => by
      rcases List.mem_append.1 hz with h | h
      · exact hx2 z h
      · exact hx3 z h) hE)
    have HBb := Lib.hid (begsL_bounds h0)
    generalize spotsL a = S at *
    clear hE h0 ha hx2 hx3
    go_enter Try.func3, Try.ntmps3
    go_wp2_with fail
    refine (tints_true _).mono ?_
    rintro e w1 ⟨rfl, hb1⟩
    go_wp2_with fail
    refine (H1.out _ ((hr.below hb1).more hb1.size) ((hr2.below hb1).more hb1.size)).mono ?_
    rintro e w2 ⟨hb2, hcase1⟩
    have hb02 := below_step hb1 hb2
    obtain ⟨E1, V1, N1, C1, rfl, hc1⟩ : ∃ (E1 : Int) (V1 : Option Addr) (N1 C1 : Nat), e = .returned (.tuple #[.slice V1 N1 C1, .int .i64 E1]) ∧ ((E1 = 0 ∧ ∃ p : List Int, N1 = p.length ∧ Reached a S x p ∧ w2.ownsRow w1.heap.size 3 1 (.slice V1 N1 C1) N1 (p.map (.int .i64))) ∨ E1 ≠ 0) := by
      rcases hcase1 with ⟨L, A', c', h1, h2, h3⟩ | ⟨-, h2⟩
      · exact ⟨0, A', L.length, c', h2, .inl ⟨rfl, L, rfl, h1, h3⟩⟩
      · exact ⟨5, none, 0, 0, h2, .inr (by decide)⟩
    have HC1 := Lib.hid hc1
    clear hcase1 hc1
    go_wp2_with fail
    refine (H2.out _ ((hr.below hb02).more hb02.size) ((hr3.below hb02).more hb02.size)).mono ?_
    rintro e w3 ⟨hb3, hcase2⟩
    have hb03 := below_step hb02 hb3
    obtain ⟨E2, V2, N2, C2, rfl, hc2⟩ : ∃ (E2 : Int) (V2 : Option Addr) (N2 C2 : Nat), e = .returned (.tuple #[.slice V2 N2 C2, .int .i64 E2]) ∧ ((E2 = 0 ∧ ∃ p : List Int, N2 = p.length ∧ Reached a S y p ∧ w3.ownsRow w2.heap.size 3 1 (.slice V2 N2 C2) N2 (p.map (.int .i64))) ∨ E2 ≠ 0) := by
      rcases hcase2 with ⟨L, A', c', h1, h2, h3⟩ | ⟨-, h2⟩
      · exact ⟨0, A', L.length, c', h2, .inl ⟨rfl, L, rfl, h1, h3⟩⟩
      · exact ⟨5, none, 0, 0, h2, .inr (by decide)⟩
    have HC2 := Lib.hid hc2
    clear hcase2 hc2
    have hx := reads_new w3 [.int .i64 E1, .int .i64 E2] 25 2 1 rfl
    have hb8 := below_new w3 (.cells #[.int .i64 E1, .int .i64 E2] 25)
    have hb08 := below_step hb03 hb8
    by_cases hgood : E1 = 0 ∧ E2 = 0
    · obtain ⟨z1, z2⟩ := hgood
      obtain ⟨p, hpl, hp, hpo⟩ : ∃ p : List Int, N1 = p.length ∧ Reached a S x p ∧ w2.ownsRow w1.heap.size 3 1 (.slice V1 N1 C1) N1 (p.map (.int .i64)) := by
        rcases HC1.out with ⟨-, h⟩ | h
        · exact h
        · exact absurd z1 h
      obtain ⟨q, hql, hq, hqo⟩ : ∃ p : List Int, N2 = p.length ∧ Reached a S y p ∧ w3.ownsRow w2.heap.size 3 1 (.slice V2 N2 C2) N2 (p.map (.int .i64)) := by
        rcases HC2.out with ⟨-, h⟩ | h
        · exact h
        · exact absurd z2 h
      subst z1 z2
      have HX := Lib.hid (good_of (some ⟨w3.heap.size, 0, none⟩) 2 2 _ [0, 0] true _ (by decide) (by simpa using hx) (by decide))
      have hp256 : N1 ≤ 256 := by rw [hpl]; exact nodup_bound 256 p hp.once (fun x hx => HBb.out x (hp.begs x hx))
      have hq256 : N2 ≤ 256 := by rw [hql]; exact nodup_bound 256 q hq.once (fun x hx => HBb.out x (hq.begs x hx))
      have hrp := (Reads.of_own hpo).below (below_step hb3 hb8)
      have hrq := (Reads.of_own hqo).below hb8
      have HPp := Lib.hid hp
      have HQq := Lib.hid hq
      obtain ⟨k1, hk1⟩ : ∃ k, k = N1 := ⟨_, rfl⟩
      obtain ⟨k2, hk2⟩ : ∃ k, k = N2 := ⟨_, rfl⟩
      have hsz := (below_step hb3 hb8).size
      have hsz3 := hb8.size
      have hrp := hrp.more hsz
      have hrq := hrq.more hsz3
      rw [← hk1] at hrp hp256 hpl ⊢
      rw [← hk2] at hrq hq256 hql ⊢
      clear hx hp hq hpo hqo HC1 HC2 hb1 hb02 hb03 hb2 hb3 hb8 hk1 hk2 hsz hsz3 hpl hql
      go_wp2_with fail
      refine HX.out.mono ?_
      rintro e w9 ⟨rfl, rfl⟩
      generalize hW4 : (w3.alloc (.cells #[.int .i64 0, .int .i64 0] 25)) = W4 at *
      have hv := reads_new W4 [.slice A2 n2 c2, .slice A3 n3 c3] 23 2 1 rfl
      have hb9 := below_new W4 (.cells #[.slice A2 n2 c2, .slice A3 n3 c3] 23)
      have hb09 := below_step hb08 hb9
      have HCo := Lib.hid (concat2_int A2 n2 c2 (x.map (.int .i64)) A3 n3 c3 (y.map (.int .i64)) (some ⟨W4.heap.size, 0, none⟩) 2 _ (hv.more (by simp)) ((hr2.below hb09).more hb09.size) ((hr3.below hb09).more hb09.size) (ints_one x) (ints_one y) (by omega))
      clear hv hW4 HX
      go_wp2_with fail
      refine HCo.out.mono ?_
      rintro e w5 ⟨A5, c5, rfl, hown5, hb5⟩
      rw [← List.map_append] at hown5
      have hb05 := below_step hb09 hb5
      have hb45 := below_step hb9 hb5
      have hr5 := Reads.of_own hown5
      clear hown5 HCo
      go_wp2_with fail
      refine (H3.out _ _ _ _ ((hr.below hb05).more hb05.size) hr5 (by omega)).mono ?_
      rintro e w6 ⟨hb6, ⟨L, A6, c6, hL, rfl, hown6⟩ | ⟨⟨z, hz, hz2⟩, -⟩⟩
      · obtain ⟨t1, t2, t3⟩ := Reached.two HPp.out HQq.out hL
        have hL256 : L.length ≤ 256 := nodup_bound 256 L hL.once (fun x hx => HBb.out x (hL.begs x hx))
        have T1 : Hid (decide (∀ z ∈ p, z ∈ L) = true) := decide_eq_true t1
        have T2 : Hid (decide (∀ z ∈ q, z ∈ L) = true) := decide_eq_true t2
        have T3 : Hid (decide (∀ z ∈ L, z ∈ p ++ q) = true) := decide_eq_true t3
        have hb46 := below_step hb45 hb6
        have hb06 := below_step hb05 hb6
        obtain ⟨k3, hk3⟩ : ∃ k, k = L.length := ⟨_, rfl⟩
        rw [← hk3] at hown6 hL256 ⊢
        have hr6 := Reads.of_own hown6
        clear hown6 hk3 t1 t2 t3 hL hr5
        have HW1 := Lib.hid (within_two V1 A6 k1 C1 k3 c6 p L true w6 ((hrp.below hb46).more hb46.size) (by omega) hr6 (by omega) T1.out)
        go_wp2_with fail
        refine HW1.out.mono ?_
        rintro e w7 ⟨rfl, hb7⟩
        have hb47 := below_step hb46 hb7
        have hb07 := below_step hb06 hb7
        have hr7 := (hr6.below hb7).more hb7.size
        have HW2 := Lib.hid (within_two V2 A6 k2 C2 k3 c6 q L true w7 ((hrq.below hb47).more hb47.size) (by omega) hr7 (by omega) T2.out)
        clear HW1
        go_wp2_with fail
        refine HW2.out.mono ?_
        rintro e w8 ⟨rfl, hb8⟩
        have hb48 := below_step hb47 hb8
        have hb08' := below_step hb07 hb8
        have hr8 := (hr7.below hb8).more hb8.size
        have hv := reads_new w8 [.slice V1 k1 C1, .slice V2 k2 C2] 23 2 1 rfl
        have hb9 := below_new w8 (.cells #[.slice V1 k1 C1, .slice V2 k2 C2] 23)
        have hb49 := below_step hb48 hb9
        have hb09' := below_step hb08' hb9
        have HCo := Lib.hid (concat2_int V1 k1 C1 (p.map (.int .i64)) V2 k2 C2 (q.map (.int .i64)) (some ⟨w8.heap.size, 0, none⟩) 2 _ (hv.more (by simp)) ((hrp.below hb49).more hb49.size) ((hrq.below hb49).more hb49.size) (ints_one p) (ints_one q) (by omega))
        clear hv HW2
        go_wp2_with fail
        refine HCo.out.mono ?_
        rintro e w10 ⟨A10, c10, rfl, hown10, hb10⟩
        rw [← List.map_append] at hown10
        have hb8x := below_step hb9 hb10
        have hb0x := below_step hb09' hb10
        have HW3 := Lib.hid (within_two A6 A10 k3 c6 _ c10 L (p ++ q) true w10 ((hr8.below hb8x).more hb8x.size) (by omega) (Reads.of_own hown10) (by omega) T3.out)
        clear hown10 HCo
        go_wp2_with fail
        refine HW3.out.mono ?_
        rintro e w11 ⟨rfl, hb11⟩
        go_wp2
        go_ret
        exact ⟨by first | rfl | simp, below_step hb0x hb11⟩
      · exfalso
        rcases List.mem_append.1 hz with h | h
        · exact hz2 (HPp.out.begs z (HPp.out.roots z h))
        · exact hz2 (HQq.out.begs z (HQq.out.roots z h))
    · have hgb : ([E1, E2].all (· == 0)) = false := by
        simp only [List.all_cons, List.all_nil, Bool.and_true, Bool.and_eq_false_iff, beq_eq_false_iff_ne]
        by_cases h : E1 = 0
        · exact .inr (fun h2 => hgood ⟨h, h2⟩)
        · exact .inl h
      have HX := Lib.hid (good_of (some ⟨w3.heap.size, 0, none⟩) 2 2 _ [E1, E2] false _ hgb (by simpa using hx) (by decide))
      clear hx hgb hgood
      go_wp2_with fail
      refine HX.out.mono ?_
      rintro e w9 ⟨rfl, rfl⟩
      go_wp2
      go_ret
      exact ⟨by first | rfl | simp, hb08⟩
  · have H1 := Lib.hid (fun w hr => reach_bad A n c a A2 n2 c2 w hr hnc ha hE)
    have H2 := Lib.hid (fun w hr => reach_bad A n c a A3 n3 c3 w hr hnc ha hE)
    generalize checkE a = E at *
    go_enter Try.func3, Try.ntmps3
    go_wp2_with fail
    refine (tints_true _).mono ?_
    rintro e w1 ⟨rfl, hb1⟩
    go_wp2_with fail
    refine (H1.out _ ((hr.below hb1).more hb1.size)).mono ?_
    rintro e w2 ⟨rfl, hb2⟩
    have hb02 := below_step hb1 hb2
    go_wp2_with fail
    refine (H2.out _ ((hr.below hb02).more hb02.size)).mono ?_
    rintro e w3 ⟨rfl, hb3⟩
    have hb03 := below_step hb02 hb3
    have hx := reads_new w3 [.int .i64 E, .int .i64 E] 25 2 1 rfl
    have hb8 := below_new w3 (.cells #[.int .i64 E, .int .i64 E] 25)
    have HX := Lib.hid (good_of (some ⟨w3.heap.size, 0, none⟩) 2 2 _ [E, E] false _ (by simp [hE]) (by simpa using hx) (by decide))
    clear hx
    go_wp2_with fail
    refine HX.out.mono ?_
    rintro e w9 ⟨rfl, rfl⟩
    go_wp2
    go_ret
    exact ⟨by first | rfl | simp, below_step hb03 hb8⟩

namespace TintTwo
open Go.ChangeShapes Go.WideShapes Go.ChangeAt Go.RowKit
theorem own : ownKnob Try.prog.godebug = none := by kernel_rfl
theorem laidOut : laidOutB Try.prog = true := by kernel_rfl

set_option maxRecDepth 100000 in
theorem lifted (os : Os) (started : os.Started) (H : Type) (enc : TypeId × Value → H) :
    ReturnsInHanded {} Try.checked os 3 .any (Rows.tintTwoSpec.pre6 enc Try.prog Try.f3 Rows.tintTwoRow.domain false) (Rows.tintTwoSpec.post enc Try.prog Try.f3 false true false false) := by
  refine returnsInHanded_of_change_sized (C := Try.checked) own started (by as_aux_lemma => kernel_rfl) Try.func3
    (ChangeSpec.witness6 (enc := enc) (C := Try.checked) false ⟨#[], #[.slice none 0 0, .slice none 0 0, .slice none 0 0], []⟩ 8 (by as_aux_lemma => kernel_rfl) (by as_aux_lemma => kernel_rfl) (by as_aux_lemma => kernel_rfl) (by as_aux_lemma => kernel_rfl)) ?_
  intro W base args ds gs before hval0 hW hcnd hsz _
  have hval : ∀ (j : Nat) t v, Try.f3.params[j]? = some t → args[j]? = some v → Value.okWide Try.prog W .any base t v := hval0
  have hW' := hW
  obtain ⟨p, q, hA0, hV, rfl, hfz, hnd⟩ := hW
  have hA : DataW.TrodAll enc Try.prog W 0 (fun _ => true) true Try.f3.params.toList args.toList ds p := hA0
  rw [Try.params3] at hA hval
  obtain ⟨v0, vs0, d0, ds0, p0, q0, hargs, rfl, rfl, h0, hA⟩ := trodAll_cons hA
  obtain ⟨v1, vs1, d1, ds1, p1, q1, rfl, rfl, rfl, h1, hA⟩ := trodAll_cons hA
  obtain ⟨v2, vs2, d2, ds2, p2, q2, rfl, rfl, rfl, h2, hA⟩ := trodAll_cons hA
  obtain ⟨rfl, rfl, rfl⟩ := trodAll_nil hA
  obtain rfl : args = #[v0, v1, v2] := by cases args; simp_all
  obtain ⟨A0, n0, c0, xs0, rfl, hnc0, hc0, hr0, hx0⟩ := open_nums Try.underlying22 Try.underlying77 (by as_aux_lemma => kernel_rfl) (hval 0 _ v0 rfl rfl) (fun x hx => hW'.lt x (by simp [hx])) h0
  obtain ⟨A1, n1, c1, xs1, rfl, hnc1, hc1, hr1, hx1, hd1⟩ := open_nums2 Try.underlying23 Try.underlying3 (by as_aux_lemma => kernel_rfl) (hval 1 _ v1 rfl rfl) (fun x hx => hW'.lt x (by simp [hx])) h1
  have hm1 : n1 * 8 ≤ 140737488351232 := by
    rcases hd1 with h0 | ⟨D, E, rfl, hD⟩
    · omega
    · have h5 : (D.length + E.length) * Try.prog.bytesOf 3 ≤ reachBytes := sized_slice hsz (j := 1) (t := 23) (e := 3) rfl rfl Try.underlying23
      rw [k_int_bytes, hD] at h5
      simp only [reachBytes] at h5
      omega
  obtain ⟨A2, n2, c2, xs2, rfl, hnc2, hc2, hr2, hx2, hd2⟩ := open_nums2 Try.underlying23 Try.underlying3 (by as_aux_lemma => kernel_rfl) (hval 2 _ v2 rfl rfl) (fun x hx => hW'.lt x (by simp [hx])) h2
  have hm2 : n2 * 8 ≤ 140737488351232 := by
    rcases hd2 with h0 | ⟨D, E, rfl, hD⟩
    · omega
    · have h5 : (D.length + E.length) * Try.prog.bytesOf 3 ≤ reachBytes := sized_slice hsz (j := 2) (t := 23) (e := 3) rfl rfl Try.underlying23
      rw [k_int_bytes, hD] at h5
      simp only [reachBytes] at h5
      omega
  refine (tintTwo_any A0 n0 c0 xs0 A1 n1 c1 xs1 A2 n2 c2 xs2 W hr0 hnc0 hc0 hx0 hr1 hnc1 hc1 hx1 hm1 hr2 hnc2 hc2 hx2 hm2).mono fun e W' ⟨he, hb⟩ => ?_
  subst he
  exact ⟨_, rfl, law_post laidOut Try.underlying4 rfl (by as_aux_lemma => kernel_rfl) rfl rfl hW' hb⟩

set_option maxHeartbeats 10000000 in
theorem closed : joinedFacts Try.prog 3 Try.f3 Rows.tintTwoSpec Rows.tintTwoRow = true := by
  unfold joinedFacts
  simp only [Bool.and_eq_true]
  repeat' apply And.intro
  all_goals as_aux_lemma => kernel_rfl

set_option maxHeartbeats 1000000 in
theorem proved : Rows.TintTwoSaid :=
  OpenClaim.holds_of_wide 3 Try.f3 rfl rfl rfl rfl rfl rfl rfl ⟨rfl, rfl, rfl, rfl, rfl⟩ rfl rfl rfl rfl rfl (by as_aux_lemma => kernel_rfl) Try.func3 closed
    (of_decide_eq_true (by as_aux_lemma => kernel_rfl)) (by unfold Func.isWrapper; first | (rw [if_pos (by decide +kernel)]; kernel_rfl) | (rw [if_neg (by decide +kernel)]; exact ⟨rfl, rfl⟩))
    (fun os started H enc _ => lifted os started H enc)
end TintTwo
end Go.Proofs.Ythfjopnomkfegab
