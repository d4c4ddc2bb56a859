/-
  GapOrders answers true for all runs and numbers, and changes no argument: First and Best return ranges that are large enough, the first one and a smallest one, respectively. No condition.
-/
import Derived.Test.YtdlmnnibgpfdbaaGapFirst
import Derived.Test.YtdlmnnibgpfdbaaLawRuns
namespace Go.Proofs.Ytdlmnnibgpfdbaa
open Go.RowKit

theorem bestGo_facts (l : List Rn) : ∀ (L : List Int) (b : Int), (bestGo l b L = b ∨ bestGo l b L ∈ L) ∧ lenAt l (bestGo l b L) ≤ lenAt l b ∧ ∀ y ∈ L, lenAt l (bestGo l b L) ≤ lenAt l y := by
  intro L
  induction L with
  | nil => intro b; exact ⟨.inl rfl, Int.le_refl _, fun y h => by cases h⟩
  | cons i t ih =>
    intro b
    simp only [bestGo]
    by_cases h : lenAt l i < lenAt l b
    · rw [if_pos h]
      obtain ⟨h1, h2, h3⟩ := ih i
      refine ⟨.inr ?_, by omega, fun y hy => ?_⟩
      · rcases h1 with h1 | h1
        · rw [h1]; exact List.mem_cons_self
        · exact List.mem_cons_of_mem _ h1
      · rcases List.mem_cons.1 hy with rfl | hy
        · exact h2
        · exact h3 y hy
    · rw [if_neg h]
      obtain ⟨h1, h2, h3⟩ := ih b
      refine ⟨?_, h2, fun y hy => ?_⟩
      · rcases h1 with h1 | h1
        · exact .inl h1
        · exact .inr (List.mem_cons_of_mem _ h1)
      · rcases List.mem_cons.1 hy with rfl | hy
        · omega
        · exact h3 y hy

theorem lenAt_of {l : List Rn} {j : Nat} {r : Rn} (h : l[j]? = some r) : lenAt l j = r.len := by unfold lenAt; rw [Int.toNat_natCast, h]

theorem orders_facts {l : List Rn} {n : Int} (h : fitsE l n = 0) : ∃ (p q : Nat) (r s : Rn), firstV l n = p ∧ bestV l n = q ∧ l[p]? = some r ∧ l[q]? = some s ∧ n ≤ r.len ∧ n ≤ s.len ∧ p ≤ q ∧ s.len ≤ r.len ∧
    ∀ (k : Nat) (x : Rn), l[k]? = some x → n ≤ x.len → p ≤ k ∧ s.len ≤ x.len := by
  obtain ⟨h1, h2⟩ := fitsL_ok h
  have hrise := fitIx_rise n l 0
  have hin : ∀ (k : Nat) (x : Rn), l[k]? = some x → n ≤ x.len → (k : Int) ∈ fitIx n 0 l := fun k x hk hx => fitIx_mem.2 ⟨k, x, hk, hx, by simp⟩
  have hm : ∀ x ∈ fitsL l n, ∃ (j : Nat) (r : Rn), l[j]? = some r ∧ n ≤ r.len ∧ x = (j : Int) := fun x hx => fitsL_mem hx
  obtain ⟨b, hb⟩ : ∃ b, b = bestV l n := ⟨_, rfl⟩
  obtain ⟨f, hf⟩ : ∃ f, f = firstV l n := ⟨_, rfl⟩
  rw [← hb, ← hf]
  unfold bestV at hb
  rw [← hf] at hb
  unfold firstV at hf
  rw [← h1] at hrise hin h2
  generalize fitsL l n = L at *
  obtain ⟨x, t, rfl⟩ := List.exists_cons_of_ne_nil h2
  obtain rfl : f = x := hf
  obtain ⟨p, r, hp, hpn, rfl⟩ := hm f List.mem_cons_self
  obtain ⟨b1, b2, b3⟩ := bestGo_facts l ((p : Int) :: t) p
  rw [← hb] at b1 b2 b3
  have hbm : b ∈ (p : Int) :: t := by
    rcases b1 with b1 | b1
    · rw [b1]; exact List.mem_cons_self
    · exact b1
  obtain ⟨q, s, hq, hqn, rfl⟩ := hm b hbm
  have hle : ∀ y ∈ (p : Int) :: t, (p : Int) ≤ y := by
    intro y hy
    rcases List.mem_cons.1 hy with rfl | hy
    · exact Int.le_refl _
    · exact Int.le_of_lt ((List.pairwise_cons.1 hrise).1 y hy)
  refine ⟨p, q, r, s, rfl, rfl, hp, hq, hpn, hqn, by have := hle _ hbm; omega, by rw [lenAt_of hp, lenAt_of hq] at b2; exact b2, fun k x hk hx => ?_⟩
  have := hin k x hk hx
  have h5 := b3 _ this
  rw [lenAt_of hq, lenAt_of hk] at h5
  exact ⟨by have := hle _ this; omega, h5⟩

set_option maxHeartbeats 400000 in
theorem gapOrders_bad (A : Option Addr) (m c : Nat) (l : List Rn) (n k : Int) (w : World) (hr : Reads w w.heap.size 2 A m (runsC l)) (hm : m * 16 ≤ 140737488351232) (hE : fitsE l n ≠ 0) :
    Calls Try.prog 5 #[.slice A m c, .int .i64 n, .int .i64 k] w fun e w' => e = .returned (.bool true) ∧ Below w.heap.size w w' := by
  have H1 := Lib.hid (fun w hr => first_any A m c l n w hr hm)
  have H2 := Lib.hid (fun w hr => best_any A m c l n w hr hm)
  have hl := fitsL_bad hE
  have hb : bestV l n = 0 := by unfold bestV firstV; rw [hl]; rfl
  have hf : firstV l n = 0 := by unfold firstV; rw [hl]; rfl
  rw [hf] at H1
  rw [hb] at H2
  clear hb hf hl
  generalize fitsE l n = E at *
  have hE1 : (E != 0) = true := by simpa using hE
  have hE2 : (E == E) = true := by simp
  clear hE
  go_enter Try.func5, Try.ntmps5
  go_wp2_with (go_at_call 20; refine (holes_true _).mono ?_; rintro e w1 ⟨rfl, hb1⟩)
  go_wp2_with fail
  refine (H1.out _ ((hr.below hb1).more hb1.size)).mono ?_
  rintro e w2 ⟨rfl, hb2⟩
  have hb02 := below_step hb1 hb2
  go_wp2_with fail
  refine (H2.out _ ((hr.below hb02).more hb02.size)).mono ?_
  rintro e w3 ⟨rfl, hb3⟩
  go_wp2
  go_ret
  exact ⟨rfl, below_step hb02 hb3⟩

set_option maxRecDepth 100000 in
set_option maxHeartbeats 1000000 in
theorem gapOrders_ok (A : Option Addr) (m c : Nat) (l : List Rn) (n k : Int) (w : World) (hr : Reads w w.heap.size 2 A m (runsC l)) (hm : m * 16 ≤ 140737488351232) (hE : fitsE l n = 0) :
    Calls Try.prog 5 #[.slice A m c, .int .i64 n, .int .i64 k] w fun e w' => e = .returned (.bool true) ∧ Below w.heap.size w w' := by
  have H1 := fun w hr => first_any A m c l n w hr hm
  have H2 := fun w hr => best_any A m c l n w hr hm
  have hll : l.length = m := by have := hr.1; rw [runsC_length] at this; omega
  obtain ⟨p, q, r, s, hp, hq, hlp, hlq, f1, f2, f3, f4, f5⟩ := orders_facts hE
  rw [hp, hE] at H1
  rw [hq, hE] at H2
  have H1 := Lib.hid H1
  have H2 := Lib.hid H2
  have hpm := (List.getElem?_eq_some_iff.1 hlp).1
  have hqm := (List.getElem?_eq_some_iff.1 hlq).1
  rw [hll] at hpm hqm
  have F5 := Lib.hid f5
  have LP := Lib.hid hlp
  have LQ := Lib.hid hlq
  have HL := Lib.hid hll
  obtain ⟨rl, rn⟩ := r
  obtain ⟨sl, sn⟩ := s
  dsimp only at *
  clear hE hp hq hlp hlq f5 hll
  go_enter Try.func5, Try.ntmps5
  go_wp2_with (go_at_call 20; refine (holes_true _).mono ?_; rintro e w1 ⟨rfl, hb1⟩)
  go_wp2_with fail
  refine (H1.out _ ((hr.below hb1).more hb1.size)).mono ?_
  rintro e w2 ⟨rfl, hb2⟩
  have hb02 := below_step hb1 hb2
  go_wp2_with fail
  refine (H2.out _ ((hr.below hb02).more hb02.size)).mono ?_
  rintro e w3 ⟨rfl, hb3⟩
  have hb03 := below_step hb02 hb3
  have hr3 := hr.below hb03
  obtain ⟨ad, r1, rfl, had, e1, p0, p1⟩ := hr3.run hpm
  obtain rfl : ⟨rl, rn⟩ = r1 := Option.some.inj (LP.out.symm.trans e1)
  obtain ⟨ad2, r2, e3, -, e2, q0, q1⟩ := hr3.run hqm
  obtain rfl : ad = ad2 := by injection e3
  obtain rfl : ⟨sl, sn⟩ = r2 := Option.some.inj (LQ.out.symm.trans e2)
  dsimp only at *
  have g0 : decide ((p : Int) < 0) = false := decide_eq_false (by omega)
  have g1 : decide (rn < n) = false := decide_eq_false (by omega)
  have g2 : decide (sn < n) = false := decide_eq_false (by omega)
  have g3 : decide (rn < sn) = false := decide_eq_false (by omega)
  have g4 : decide (q < p) = false := decide_eq_false (by omega)
  have g5 : decide (m ≤ p) = false := decide_eq_false (by omega)
  have g6 : decide (m ≤ q) = false := decide_eq_false (by omega)
  clear e1 e2 e3 hb1 hb2 hb02 hb3 f1 f2 f3 f4 p0 q0
  by_cases hk0 : k < 0
  · have d0 : decide (k < 0) = true := decide_eq_true hk0
    go_wp2
    go_quiet (fail)
    go_wp2
    go_quiet (fail)
    go_wp2
    go_ret
    exact ⟨rfl, below_drewN (below_drewN hb03 _) _⟩
  · obtain ⟨k, rfl⟩ : ∃ k' : Nat, k = k' := ⟨k.toNat, by omega⟩
    have d0 : decide ((k : Int) < 0) = false := decide_eq_false (by omega)
    by_cases hkm : (m : Int) ≤ k
    · have d1 : decide (m ≤ k) = true := decide_eq_true (by omega)
      go_wp2
      go_quiet (fail)
      go_wp2
      go_quiet (fail)
      go_wp2
      go_ret
      exact ⟨rfl, below_drewN (below_drewN hb03 _) _⟩
    · have hkm' : k < m := by omega
      have d1 : decide (m ≤ k) = false := decide_eq_false (by omega)
      obtain ⟨ad2, x, e3, -, e2, x0, x1⟩ := hr3.run hkm'
      obtain rfl : ad = ad2 := by injection e3
      have HX := Lib.hid (F5.out k x e2)
      obtain ⟨xl, xn⟩ := x
      dsimp only at *
      clear x0 e2 e3 hk0
      by_cases hx : xn < n
      · have d2 : decide (xn < n) = true := decide_eq_true hx
        go_wp2
        go_quiet (fail)
        go_wp2
        go_quiet (fail)
        go_wp2
        go_ret
        exact ⟨rfl, below_drewN (below_drewN hb03 _) _⟩
      · obtain ⟨x2, x3⟩ := HX.out (by omega)
        have x4 : decide (p ≤ k) = true := decide_eq_true (by omega)
        have x5 : decide (sn ≤ xn) = true := decide_eq_true x3
        have d2 : decide (xn < n) = false := decide_eq_false hx
        go_wp2
        go_quiet (fail)
        go_wp2
        go_quiet (fail)
        go_wp2
        go_ret
        exact ⟨by simp, below_drewN (below_drewN hb03 _) _⟩

theorem gapOrders_any (A : Option Addr) (m c : Nat) (l : List Rn) (n k : Int) (w : World) (hr : Reads w w.heap.size 2 A m (runsC l)) (_ : m ≤ c) (_ : c ≤ maxLen) (hm : m * 16 ≤ 140737488351232) (_ : (Lit.int .i64 n).wf = true) (_ : (Lit.int .i64 k).wf = true) :
    Calls Try.prog 5 #[.slice A m c, .int .i64 n, .int .i64 k] w fun e w' => e = .returned (.bool true) ∧ Below w.heap.size w w' := by
  by_cases hE : fitsE l n = 0
  · exact gapOrders_ok A m c l n k w hr hm hE
  · exact gapOrders_bad A m c l n k w hr hm hE

namespace GapOrders
open Go.ChangeShapes Go.WideShapes Go.ChangeAt Go.RowKit
theorem own : ownKnob Try.prog.godebug = none := by kernel_rfl
theorem laidOut : laidOutB Try.prog = true := by kernel_rfl

set_option maxRecDepth 100000 in
theorem lifted (os : Os) (started : os.Started) (H : Type) (enc : TypeId × Value → H) :
    ReturnsInHanded {} Try.checked os 5 .any (Rows.gapOrdersSpec.pre6 enc Try.prog Try.f5 Rows.gapOrdersRow.domain false) (Rows.gapOrdersSpec.post enc Try.prog Try.f5 false true false false) := by
  refine returnsInHanded_of_change_sized (C := Try.checked) own started (by as_aux_lemma => kernel_rfl) Try.func5
    (ChangeSpec.witness6 (enc := enc) (C := Try.checked) false ⟨#[], #[.slice none 0 0, .int .i64 0, .int .i64 0], []⟩ 8 (by as_aux_lemma => kernel_rfl) (by as_aux_lemma => kernel_rfl) (by as_aux_lemma => kernel_rfl) (by as_aux_lemma => kernel_rfl)) ?_
  intro W base args ds gs before hval0 hW hcnd hsz _
  have hval : ∀ (j : Nat) t v, Try.f5.params[j]? = some t → args[j]? = some v → Value.okWide Try.prog W .any base t v := hval0
  have hW' := hW
  obtain ⟨p, q, hA0, hV, rfl, hfz, hnd⟩ := hW
  have hA : DataW.TrodAll enc Try.prog W 0 (fun _ => true) true Try.f5.params.toList args.toList ds p := hA0
  rw [Try.params5] at hA hval
  obtain ⟨v0, vs0, d0, ds0, p0, q0, hargs, rfl, rfl, h0, hA⟩ := trodAll_cons hA
  obtain ⟨v1, vs1, d1, ds1, p1, q1, rfl, rfl, rfl, h1, hA⟩ := trodAll_cons hA
  obtain ⟨v2, vs2, d2, ds2, p2, q2, rfl, rfl, rfl, h2, hA⟩ := trodAll_cons hA
  obtain ⟨rfl, rfl, rfl⟩ := trodAll_nil hA
  obtain rfl : args = #[v0, v1, v2] := by cases args; simp_all
  obtain ⟨A0, n0, c0, l0, rfl, hnc0, hc0, hr0, hd0⟩ := open_runs (hval 0 _ v0 rfl rfl) (fun x hx => hW'.lt x (by simp [hx])) h0
  have hm0 : n0 * 16 ≤ 140737488351232 := by
    rcases hd0 with h0 | ⟨D, E, rfl, hD⟩
    · omega
    · have h5 : (D.length + E.length) * Try.prog.bytesOf 56 ≤ reachBytes := sized_slice hsz (j := 0) (t := 53) (e := 56) rfl rfl Try.underlying53
      rw [k_run_bytes, hD] at h5
      simp only [reachBytes] at h5
      omega
  obtain ⟨i1, rfl, rfl, rfl, w1⟩ := open_int Try.underlying3 (hval 1 _ v1 rfl rfl) h1
  obtain ⟨i2, rfl, rfl, rfl, w2⟩ := open_int Try.underlying3 (hval 2 _ v2 rfl rfl) h2
  refine (gapOrders_any A0 n0 c0 l0 i1 i2 W hr0 hnc0 hc0 hm0 w1 w2).mono fun e W' ⟨he, hb⟩ => ?_
  subst he
  exact ⟨_, rfl, law_post laidOut Try.underlying4 rfl (by as_aux_lemma => kernel_rfl) rfl rfl hW' hb⟩

set_option maxHeartbeats 10000000 in
theorem closed : joinedFacts Try.prog 5 Try.f5 Rows.gapOrdersSpec Rows.gapOrdersRow = true := by
  unfold joinedFacts
  simp only [Bool.and_eq_true]
  repeat' apply And.intro
  all_goals as_aux_lemma => kernel_rfl

set_option maxHeartbeats 1000000 in
theorem proved : Rows.GapOrdersSaid :=
  OpenClaim.holds_of_wide 5 Try.f5 rfl rfl rfl rfl rfl rfl rfl ⟨rfl, rfl, rfl, rfl, rfl⟩ rfl rfl rfl rfl rfl (by as_aux_lemma => kernel_rfl) Try.func5 closed
    (of_decide_eq_true (by as_aux_lemma => kernel_rfl)) (by unfold Func.isWrapper; first | (rw [if_pos (by decide +kernel)]; kernel_rfl) | (rw [if_neg (by decide +kernel)]; exact ⟨rfl, rfl⟩))
    (fun os started H enc _ => lifted os started H enc)
end GapOrders
end Go.Proofs.Ytdlmnnibgpfdbaa
