/-
  SameOrder answers true for all arenas and lists, and changes no argument: isomorphism is an equivalence relation.
-/
import Derived.Test.YtjpleagcdncbfabFormsFns
import Derived.Test.YtjpleagcdncbfabGood
import Derived.Test.YtjpleagcdncbfabLaw
import Derived.Test.YtjpleagcdncbfabLawNums
namespace Go.Proofs.Ytjpleagcdncbfab
open Go.RowKit

def eqF (os : List Ob) (fr : List Int) (os' : List Ob) (fr' : List Int) : Bool := decide (os = os') && decide (fr = fr')
/-- Alike, as it answers: a Bool and an error. -/
def AlikeIs (a f b g : List Int) (x : Bool) (E : Int) : Prop :=
  (E = 0 ∧ ∃ os fr os' fr', FormIs a f os fr ∧ FormIs b g os' fr' ∧ x = eqF os fr os' fr') ∨ (E != 0) = true
theorem eqF_iff {os os' : List Ob} {fr fr' : List Int} : eqF os fr os' fr' = true ↔ os = os' ∧ fr = fr' := by
  unfold eqF
  simp
theorem order_law {a f b g c h : List Int} {x y z u v : Bool} (h1 : AlikeIs a f b g x 0) (h2 : AlikeIs b g a f y 0) (h3 : AlikeIs b g c h z 0) (h4 : AlikeIs a f c h u 0) (h5 : AlikeIs a f a f v 0) :
    x = y ∧ v = true ∧ (x = false ∨ z = false ∨ u = true) := by
  rcases h1 with ⟨-, oa, fa, ob, fb, p1, p2, rfl⟩ | h
  · rcases h2 with ⟨-, ob2, fb2, oa2, fa2, p3, p4, rfl⟩ | h
    · rcases h3 with ⟨-, ob3, fb3, oc, fc, p5, p6, rfl⟩ | h
      · rcases h4 with ⟨-, oa4, fa4, oc4, fc4, p7, p8, rfl⟩ | h
        · rcases h5 with ⟨-, oa5, fa5, oa6, fa6, p9, p10, rfl⟩ | h
          · obtain ⟨rfl, rfl⟩ := p1.unique p4
            obtain ⟨rfl, rfl⟩ := p1.unique p7
            obtain ⟨rfl, rfl⟩ := p1.unique p9
            obtain ⟨rfl, rfl⟩ := p1.unique p10
            obtain ⟨rfl, rfl⟩ := p2.unique p3
            obtain ⟨rfl, rfl⟩ := p2.unique p5
            obtain ⟨rfl, rfl⟩ := p6.unique p8
            refine ⟨?_, eqF_iff.2 ⟨rfl, rfl⟩, ?_⟩
            · rw [Bool.eq_iff_iff, eqF_iff, eqF_iff]
              exact ⟨fun ⟨a, b⟩ => ⟨a.symm, b.symm⟩, fun ⟨a, b⟩ => ⟨a.symm, b.symm⟩⟩
            · cases h1 : eqF oa fa ob fb
              · exact .inl rfl
              · cases h2 : eqF ob fb oc fc
                · exact .inr (.inl rfl)
                · obtain ⟨rfl, rfl⟩ := eqF_iff.1 h1
                  obtain ⟨rfl, rfl⟩ := eqF_iff.1 h2
                  exact .inr (.inr (eqF_iff.2 ⟨rfl, rfl⟩))
          · cases h
        · cases h
      · cases h
    · cases h
  · cases h

set_option maxRecDepth 100000 in
set_option maxHeartbeats 2000000 in
theorem sameOrder_any (A : Option Addr) (n c : Nat) (a : List Int) (A2 : Option Addr) (n2 c2 : Nat) (f : List Int) (B : Option Addr) (m d : Nat) (b : List Int) (B2 : Option Addr) (m2 d2 : Nat) (g : List Int) (C : Option Addr) (p q : Nat) (o : List Int) (C2 : Option Addr) (p2 q2 : Nat) (h : List Int) (w : World)
    (hr : Reads w w.heap.size 1 A n (a.map (.int .u64))) (hnc : n ≤ c) (hc : c ≤ maxLen) (ha : ∀ x ∈ a, (Lit.int .u64 x).wf = true)
    (hr2 : Reads w w.heap.size 1 A2 n2 (f.map (.int .i64))) (hnc2 : n2 ≤ c2) (hc2 : c2 ≤ maxLen) (hx2 : ∀ x ∈ f, (Lit.int .i64 x).wf = true) (hn2 : n2 * 8 ≤ 140737488351232)
    (hs : Reads w w.heap.size 1 B m (b.map (.int .u64))) (hmd : m ≤ d) (hd : d ≤ maxLen) (hb : ∀ x ∈ b, (Lit.int .u64 x).wf = true)
    (hs2 : Reads w w.heap.size 1 B2 m2 (g.map (.int .i64))) (hmd2 : m2 ≤ d2) (hd2 : d2 ≤ maxLen) (hy2 : ∀ x ∈ g, (Lit.int .i64 x).wf = true) (hm2 : m2 * 8 ≤ 140737488351232)
    (ht : Reads w w.heap.size 1 C p (o.map (.int .u64))) (hpq : p ≤ q) (hq : q ≤ maxLen) (ho : ∀ x ∈ o, (Lit.int .u64 x).wf = true)
    (ht2 : Reads w w.heap.size 1 C2 p2 (h.map (.int .i64))) (hpq2 : p2 ≤ q2) (hq2 : q2 ≤ maxLen) (hz2 : ∀ x ∈ h, (Lit.int .i64 x).wf = true) (hp2 : p2 * 8 ≤ 140737488351232) :
    Calls Try.prog 3 #[.slice A n c, .slice A2 n2 c2, .slice B m d, .slice B2 m2 d2, .slice C p q, .slice C2 p2 q2] w fun e w' => e = .returned (.bool true) ∧ Below w.heap.size w w' := by
  have hal : ∀ (A : Option Addr) (n c : Nat) (a : List Int) (A2 : Option Addr) (n2 c2 : Nat) (f : List Int) (B : Option Addr) (m d : Nat) (b : List Int) (B2 : Option Addr) (m2 d2 : Nat) (g : List Int) (w' : World), Below w.heap.size w w' → Reads w w.heap.size 1 A n (a.map (.int .u64)) → n ≤ c → (∀ x ∈ a, (Lit.int .u64 x).wf = true) →
      Reads w w.heap.size 1 A2 n2 (f.map (.int .i64)) → (∀ x ∈ f, (Lit.int .i64 x).wf = true) → n2 * 8 ≤ 140737488351232 → Reads w w.heap.size 1 B m (b.map (.int .u64)) → m ≤ d → (∀ x ∈ b, (Lit.int .u64 x).wf = true) → Reads w w.heap.size 1 B2 m2 (g.map (.int .i64)) → (∀ x ∈ g, (Lit.int .i64 x).wf = true) → m2 * 8 ≤ 140737488351232 →
      Calls Try.prog 6 #[.slice A n c, .slice A2 n2 c2, .slice B m d, .slice B2 m2 d2] w' fun e w'' => Below w'.heap.size w' w'' ∧ ∃ (x : Bool) (E : Int), AlikeIs a f b g x E ∧ e = .returned (.tuple #[.bool x, .int .i64 E]) := by
    intro A n c a A2 n2 c2 f B m d b B2 m2 d2 g w' hb h1 h2 h3 h4 h5 h6 h7 h8 h9 h10 h11 h12
    refine Calls.mono (alike_any A n c a A2 n2 c2 f B m d b B2 m2 d2 g w' ((h1.below hb).more hb.size) h2 h3 ((h4.below hb).more hb.size) h6 h5 ((h7.below hb).more hb.size) h8 h9 ((h10.below hb).more hb.size) h12 h11) ?_
    rintro e w'' ⟨hb', ⟨-, -, os, fr, os', fr', h1, h2, rfl⟩ | ⟨-, er, her, rfl⟩⟩
    · exact ⟨hb', _, 0, .inl ⟨rfl, os, fr, os', fr', h1, h2, rfl⟩, rfl⟩
    · exact ⟨hb', false, er, .inr her, rfl⟩
  have H1 := Lib.hid (fun w' hb' => hal A n c a A2 n2 c2 f B m d b B2 m2 d2 g w' hb' hr hnc ha hr2 hx2 hn2 hs hmd hb hs2 hy2 hm2)
  have H2 := Lib.hid (fun w' hb' => hal B m d b B2 m2 d2 g A n c a A2 n2 c2 f w' hb' hs hmd hb hs2 hy2 hm2 hr hnc ha hr2 hx2 hn2)
  have H3 := Lib.hid (fun w' hb' => hal B m d b B2 m2 d2 g C p q o C2 p2 q2 h w' hb' hs hmd hb hs2 hy2 hm2 ht hpq ho ht2 hz2 hp2)
  have H4 := Lib.hid (fun w' hb' => hal A n c a A2 n2 c2 f C p q o C2 p2 q2 h w' hb' hr hnc ha hr2 hx2 hn2 ht hpq ho ht2 hz2 hp2)
  have H5 := Lib.hid (fun w' hb' => hal A n c a A2 n2 c2 f A n c a A2 n2 c2 f w' hb' hr hnc ha hr2 hx2 hn2 hr hnc ha hr2 hx2 hn2)
  clear hal hr hr2 hs hs2 ht ht2 ha hx2 hb hy2 ho hz2 hnc hnc2 hmd hmd2 hpq hpq2 hc hc2 hd hd2 hq hq2 hn2 hm2 hp2
  go_enter Try.func3, Try.ntmps3
  go_wp2_with fail
  refine (forms_true _).mono ?_
  rintro e w1 ⟨rfl, hb1⟩
  go_wp2_with fail
  refine (H1.out _ hb1).mono ?_
  rintro e w2 ⟨hb2, x, E1, hx, rfl⟩
  have hb02 := below_step hb1 hb2
  have HX := Lib.hid hx
  clear hx
  go_wp2_with fail
  refine (H2.out _ hb02).mono ?_
  rintro e w3 ⟨hb3, y, E2, hy, rfl⟩
  have hb03 := below_step hb02 hb3
  have HY := Lib.hid hy
  clear hy
  go_wp2_with fail
  refine (H3.out _ hb03).mono ?_
  rintro e w4 ⟨hb4, z, E3, hz, rfl⟩
  have hb04 := below_step hb03 hb4
  have HZ := Lib.hid hz
  clear hz
  go_wp2_with fail
  refine (H4.out _ hb04).mono ?_
  rintro e w5 ⟨hb5, u, E4, hu, rfl⟩
  have hb05 := below_step hb04 hb5
  have HU := Lib.hid hu
  clear hu
  go_wp2_with fail
  refine (H5.out _ hb05).mono ?_
  rintro e w6 ⟨hb6, v, E5, hv, rfl⟩
  have hb06 := below_step hb05 hb6
  have HV := Lib.hid hv
  clear hv
  have hx0 := reads_new w6 [.int .i64 E1, .int .i64 E2, .int .i64 E3, .int .i64 E4, .int .i64 E5] 25 5 1 rfl
  have hbn := below_new w6 (.cells #[.int .i64 E1, .int .i64 E2, .int .i64 E3, .int .i64 E4, .int .i64 E5] 25)
  have hb07 := below_step hb06 hbn
  by_cases hg : E1 = 0 ∧ E2 = 0 ∧ E3 = 0 ∧ E4 = 0 ∧ E5 = 0
  · obtain ⟨rfl, rfl, rfl, rfl, rfl⟩ := hg
    obtain ⟨r1, r2, r3⟩ := order_law HX.out HY.out HZ.out HU.out HV.out
    subst r1 r2
    have HG := Lib.hid (good_of (some ⟨w6.heap.size, 0, none⟩) 5 5 _ [0, 0, 0, 0, 0] true _ (by decide) (by simpa using hx0) (by decide))
    clear hx0 HX HY HZ HU HV
    go_wp2_with fail
    refine HG.out.mono ?_
    rintro e w8 ⟨rfl, rfl⟩
    have zx : (x == x) = true := by cases x <;> rfl
    rcases r3 with rfl | rfl | rfl
    · go_wp2
      go_ret
      exact ⟨by first | rfl | simp, hb07⟩
    · cases x
      · go_wp2
        go_ret
        exact ⟨by first | rfl | simp, hb07⟩
      · go_wp2
        go_ret
        exact ⟨by first | rfl | simp, hb07⟩
    · cases x <;> cases z
      all_goals
        go_wp2
        go_ret
        exact ⟨by first | rfl | simp, hb07⟩
  · have hgb : ([E1, E2, E3, E4, E5].all (· == 0)) = false := by
      cases hh : ([E1, E2, E3, E4, E5].all (· == 0))
      · rfl
      · simp only [List.all_cons, List.all_nil, Bool.and_true, Bool.and_eq_true, beq_iff_eq] at hh
        exact absurd ⟨hh.1, hh.2.1, hh.2.2.1, hh.2.2.2.1, hh.2.2.2.2⟩ hg
    have HG := Lib.hid (good_of (some ⟨w6.heap.size, 0, none⟩) 5 5 _ [E1, E2, E3, E4, E5] false _ hgb (by simpa using hx0) (by decide))
    clear hx0 HX HY HZ HU HV hg hgb
    go_wp2_with fail
    refine HG.out.mono ?_
    rintro e w8 ⟨rfl, rfl⟩
    go_wp2
    go_ret
    exact ⟨by first | rfl | simp, hb07⟩

namespace SameOrder
open Go.ChangeShapes Go.WideShapes Go.ChangeAt Go.RowKit
theorem own : ownKnob Try.prog.godebug = none := by kernel_rfl
theorem laidOut : laidOutB Try.prog = true := by kernel_rfl

set_option maxRecDepth 100000 in
theorem lifted (os : Os) (started : os.Started) (H : Type) (enc : TypeId × Value → H) :
    ReturnsInHanded {} Try.checked os 3 .any (Rows.sameOrderSpec.pre6 enc Try.prog Try.f3 Rows.sameOrderRow.domain false) (Rows.sameOrderSpec.post enc Try.prog Try.f3 false true false false) := by
  refine returnsInHanded_of_change_sized (C := Try.checked) own started (by as_aux_lemma => kernel_rfl) Try.func3
    (ChangeSpec.witness6 (enc := enc) (C := Try.checked) false ⟨#[], #[.slice none 0 0, .slice none 0 0, .slice none 0 0, .slice none 0 0, .slice none 0 0, .slice none 0 0], []⟩ 8 (by as_aux_lemma => kernel_rfl) (by as_aux_lemma => kernel_rfl) (by as_aux_lemma => kernel_rfl) (by as_aux_lemma => kernel_rfl)) ?_
  intro W base args ds gs before hval0 hW hcnd hsz _
  have hval : ∀ (j : Nat) t v, Try.f3.params[j]? = some t → args[j]? = some v → Value.okWide Try.prog W .any base t v := hval0
  have hW' := hW
  obtain ⟨p, q, hA0, hV, rfl, hfz, hnd⟩ := hW
  have hA : DataW.TrodAll enc Try.prog W 0 (fun _ => true) true Try.f3.params.toList args.toList ds p := hA0
  rw [Try.params3] at hA hval
  obtain ⟨v0, vs0, d0, ds0, p0, q0, hargs, rfl, rfl, h0, hA⟩ := trodAll_cons hA
  obtain ⟨v1, vs1, d1, ds1, p1, q1, rfl, rfl, rfl, h1, hA⟩ := trodAll_cons hA
  obtain ⟨v2, vs2, d2, ds2, p2, q2, rfl, rfl, rfl, h2, hA⟩ := trodAll_cons hA
  obtain ⟨v3, vs3, d3, ds3, p3, q3, rfl, rfl, rfl, h3, hA⟩ := trodAll_cons hA
  obtain ⟨v4, vs4, d4, ds4, p4, q4, rfl, rfl, rfl, h4, hA⟩ := trodAll_cons hA
  obtain ⟨v5, vs5, d5, ds5, p5, q5, rfl, rfl, rfl, h5, hA⟩ := trodAll_cons hA
  obtain ⟨rfl, rfl, rfl⟩ := trodAll_nil hA
  obtain rfl : args = #[v0, v1, v2, v3, v4, v5] := by cases args; simp_all
  obtain ⟨A0, n0, c0, xs0, rfl, hnc0, hc0, hr0, hx0⟩ := open_nums Try.underlying22 Try.underlying56 (by as_aux_lemma => kernel_rfl) (hval 0 _ v0 rfl rfl) (fun x hx => hW'.lt x (by simp [hx])) h0
  obtain ⟨A1, n1, c1, xs1, rfl, hnc1, hc1, hr1, hx1, hd1⟩ := open_nums2 Try.underlying23 Try.underlying3 (by as_aux_lemma => kernel_rfl) (hval 1 _ v1 rfl rfl) (fun x hx => hW'.lt x (by simp [hx])) h1
  have hm1 : n1 * 8 ≤ 140737488351232 := by
    rcases hd1 with h0 | ⟨D, E, rfl, hD⟩
    · omega
    · have h5 : (D.length + E.length) * Try.prog.bytesOf 3 ≤ reachBytes := sized_slice hsz (j := 1) (t := 23) (e := 3) rfl rfl Try.underlying23
      rw [k_int_bytes, hD] at h5
      simp only [reachBytes] at h5
      omega
  obtain ⟨A2, n2, c2, xs2, rfl, hnc2, hc2, hr2, hx2⟩ := open_nums Try.underlying22 Try.underlying56 (by as_aux_lemma => kernel_rfl) (hval 2 _ v2 rfl rfl) (fun x hx => hW'.lt x (by simp [hx])) h2
  obtain ⟨A3, n3, c3, xs3, rfl, hnc3, hc3, hr3, hx3, hd3⟩ := open_nums2 Try.underlying23 Try.underlying3 (by as_aux_lemma => kernel_rfl) (hval 3 _ v3 rfl rfl) (fun x hx => hW'.lt x (by simp [hx])) h3
  have hm3 : n3 * 8 ≤ 140737488351232 := by
    rcases hd3 with h0 | ⟨D, E, rfl, hD⟩
    · omega
    · have h5 : (D.length + E.length) * Try.prog.bytesOf 3 ≤ reachBytes := sized_slice hsz (j := 3) (t := 23) (e := 3) rfl rfl Try.underlying23
      rw [k_int_bytes, hD] at h5
      simp only [reachBytes] at h5
      omega
  obtain ⟨A4, n4, c4, xs4, rfl, hnc4, hc4, hr4, hx4⟩ := open_nums Try.underlying22 Try.underlying56 (by as_aux_lemma => kernel_rfl) (hval 4 _ v4 rfl rfl) (fun x hx => hW'.lt x (by simp [hx])) h4
  obtain ⟨A5, n5, c5, xs5, rfl, hnc5, hc5, hr5, hx5, hd5⟩ := open_nums2 Try.underlying23 Try.underlying3 (by as_aux_lemma => kernel_rfl) (hval 5 _ v5 rfl rfl) (fun x hx => hW'.lt x (by simp [hx])) h5
  have hm5 : n5 * 8 ≤ 140737488351232 := by
    rcases hd5 with h0 | ⟨D, E, rfl, hD⟩
    · omega
    · have h5 : (D.length + E.length) * Try.prog.bytesOf 3 ≤ reachBytes := sized_slice hsz (j := 5) (t := 23) (e := 3) rfl rfl Try.underlying23
      rw [k_int_bytes, hD] at h5
      simp only [reachBytes] at h5
      omega
  refine (sameOrder_any A0 n0 c0 xs0 A1 n1 c1 xs1 A2 n2 c2 xs2 A3 n3 c3 xs3 A4 n4 c4 xs4 A5 n5 c5 xs5 W hr0 hnc0 hc0 hx0 hr1 hnc1 hc1 hx1 hm1 hr2 hnc2 hc2 hx2 hr3 hnc3 hc3 hx3 hm3 hr4 hnc4 hc4 hx4 hr5 hnc5 hc5 hx5 hm5).mono fun e W' ⟨he, hb⟩ => ?_
  subst he
  exact ⟨_, rfl, law_post laidOut Try.underlying4 rfl (by as_aux_lemma => kernel_rfl) rfl rfl hW' hb⟩

set_option maxHeartbeats 10000000 in
theorem closed : joinedFacts Try.prog 3 Try.f3 Rows.sameOrderSpec Rows.sameOrderRow = true := by
  unfold joinedFacts
  simp only [Bool.and_eq_true]
  repeat' apply And.intro
  all_goals as_aux_lemma => kernel_rfl

set_option maxHeartbeats 1000000 in
theorem proved : Rows.SameOrderSaid :=
  OpenClaim.holds_of_wide 3 Try.f3 rfl rfl rfl rfl rfl rfl rfl ⟨rfl, rfl, rfl, rfl, rfl⟩ rfl rfl rfl rfl rfl (by as_aux_lemma => kernel_rfl) Try.func3 closed
    (of_decide_eq_true (by as_aux_lemma => kernel_rfl)) (by unfold Func.isWrapper; first | (rw [if_pos (by decide +kernel)]; kernel_rfl) | (rw [if_neg (by decide +kernel)]; exact ⟨rfl, rfl⟩))
    (fun os started H enc _ => lifted os started H enc)
end SameOrder
end Go.Proofs.Ytjpleagcdncbfab
