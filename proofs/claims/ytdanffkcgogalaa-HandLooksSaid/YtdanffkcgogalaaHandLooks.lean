/-
  HandLooks answers true for all slots, every word and every name, and changes no argument: an opened handle is found, what was found is found still, a closed one is not. No condition.
-/
import Derived.Test.YtdanffkcgogalaaHandLaw
import Derived.Test.YtdanffkcgogalaaLawSlots
namespace Go.Proofs.Ytdanffkcgogalaa
open Go.RowKit

set_option maxHeartbeats 1000000 in
theorem handLooks_bad (A : Option Addr) (n c : Nat) (l : List Slot) (loc other : Int) (w : World) (hr : Reads w w.heap.size 3 A n (slotsC l)) (hE : openE l loc ≠ 0) :
    Calls Try.prog 10 #[.slice A n c, .int .i64 loc, .int .u64 other] w fun e w' => e = .returned (.bool true) ∧ Below w.heap.size w w' := by
  have H := fun w B hr hB => open_bad A n c B l loc w hr hB hE
  have HH := Lib.hid H
  clear H
  generalize openE l loc = E at *
  have hE1 : (E != 0) = true := by simpa using hE
  have hE2 : (E == 0) = false := by simpa using hE
  go_enter Try.func10, Try.ntmps10
  go_wp2_with (first
    | (go_at_call 26; refine (hands_true _).mono ?_; rintro e w1 ⟨rfl, hb1⟩)
    | (go_at_call 28; refine (HH.out _ _ (hr.below hb1) hb1.size).mono ?_; rintro e w2 ⟨rfl, hb2⟩))
  all_goals
    go_ret
    exact ⟨by simp, below_step hb1 hb2⟩

set_option maxHeartbeats 1000000 in
theorem handLooks_ok (A : Option Addr) (n c : Nat) (l : List Slot) (loc other : Int) (w : World) (hr : Reads w w.heap.size 3 A n (slotsC l)) (hE : openE l loc = 0) (v0 : 0 ≤ other) (v1 : other < 18446744073709551616) :
    Calls Try.prog 10 #[.slice A n c, .int .i64 loc, .int .u64 other] w fun e w' => e = .returned (.bool true) ∧ Below w.heap.size w w' := by
  obtain ⟨hC, l0, l1, i, s, hi, hs, hfr⟩ := openE_ok hE
  have H1 := fun w B hr hB => open_ok A n c B l loc i s w hr hB hE hi hs hfr
  have hlen := (handE_ok.1 hC).1
  have hil := (List.getElem?_eq_some_iff.1 hs).1
  obtain ⟨g0, g1, _, _, _, _⟩ := slotE_ok.1 (slotE_of hC hs)
  have hop : s.opn = false := by simp [slotFree] at hfr; exact hfr.1
  have g2 : s.gen < 65535 := by simp [slotFree] at hfr; exact hfr.2
  have hll : l.length = n := by have := hr.1; rw [slotsC_length] at this; omega
  -- the plain facts
  have hC2 : handE (l.set i ⟨s.gen + 1, true, loc⟩) = 0 := handE_set hC (slotE_ok.2 ⟨by dsimp; omega, by dsimp; omega, l0, l1, (fun _ => by dsimp; omega), (fun h => by cases h)⟩)
  have hF := found_opened (loc := loc) hlen hs
  have hC3 : handE ((l.set i ⟨s.gen + 1, true, loc⟩).set i ⟨s.gen + 1, false, 0⟩) = 0 := handE_set hC2 (slotE_ok.2 ⟨by dsimp; omega, by dsimp; omega, by dsimp; omega, by dsimp; omega, (fun h => by cases h), fun _ => rfl⟩)
  have hN : findS ((l.set i ⟨s.gen + 1, true, loc⟩).set i ⟨s.gen + 1, false, 0⟩) (i + (s.gen + 1) * 65536) = none := notfound_closed hF.1 rfl
  have hO : lookE l other ≠ 0 ∨ (lookE (l.set i ⟨s.gen + 1, true, loc⟩) other = 0 ∧ lookV (l.set i ⟨s.gen + 1, true, loc⟩) other = lookV l other) := by
    unfold lookE lookV
    simp only [hC, hC2, ne_eq, not_true_eq_false, ↓reduceIte]
    cases h : findS l other with
    | none => exact .inl (by decide)
    | some t =>
      right
      rw [found_findS (found_kept (u := ⟨s.gen + 1, true, loc⟩) hs hop (findS_some.1 h))]
      exact ⟨rfl, rfl⟩
  have n0 : 0 ≤ (i : Int) + (s.gen + 1) * 65536 := by omega
  have n1 : (i : Int) + (s.gen + 1) * 65536 < 18446744073709551616 := by omega
  have eV : lookV (l.set i ⟨s.gen + 1, true, loc⟩) (i + (s.gen + 1) * 65536) = loc := by unfold lookV; rw [if_neg (by simpa using hC2), found_findS hF]
  have eE : lookE (l.set i ⟨s.gen + 1, true, loc⟩) (i + (s.gen + 1) * 65536) = 0 := by unfold lookE; rw [if_neg (by simpa using hC2), found_findS hF]
  have eS : lookE ((l.set i ⟨s.gen + 1, true, loc⟩).set i ⟨s.gen + 1, false, 0⟩) (i + (s.gen + 1) * 65536) = 9 := by unfold lookE; rw [if_neg (by simpa using hC3), hN]
  -- the contracts
  have L1 := fun (w : World) (A' : Option Addr) c' hr => look_any A' n c' w.heap.size (l.set i ⟨s.gen + 1, true, loc⟩) (i + (s.gen + 1) * 65536) w hr (Nat.le_refl _) n0 n1
  rw [eV, eE] at L1
  have L2 := fun (w : World) (A' : Option Addr) c' l' hr => look_any A' n c' w.heap.size l' other w hr (Nat.le_refl _) v0 v1
  have C1 := fun (w : World) (A' : Option Addr) c' hr => close_ok A' n c' w.heap.size (l.set i ⟨s.gen + 1, true, loc⟩) (i + (s.gen + 1) * 65536) i ⟨s.gen + 1, true, loc⟩ w hr (Nat.le_refl _) hC2 n0 n1 hF
  have L3 := fun (w : World) (A' : Option Addr) c' hr => look_any A' n c' w.heap.size ((l.set i ⟨s.gen + 1, true, loc⟩).set i ⟨s.gen + 1, false, 0⟩) (i + (s.gen + 1) * 65536) w hr (Nat.le_refl _) n0 n1
  rw [eS] at L3
  have K1 := fun (w : World) (A' : Option Addr) c' hr => handCheck_any A' n c' w.heap.size (l.set i ⟨s.gen + 1, true, loc⟩) w hr (Nat.le_refl _)
  rw [hC2] at K1
  have K2 := fun (w : World) (A' : Option Addr) c' hr => handCheck_any A' n c' w.heap.size ((l.set i ⟨s.gen + 1, true, loc⟩).set i ⟨s.gen + 1, false, 0⟩) w hr (Nat.le_refl _)
  rw [hC3] at K2
  dsimp only at C1
  have H1 := Lib.hid H1
  have L1 := Lib.hid L1
  have L2 := Lib.hid L2
  have L3 := Lib.hid L3
  have C1 := Lib.hid C1
  have K1 := Lib.hid K1
  have K2 := Lib.hid K2
  clear eV eE eS hN hF hC2 hC3 hE hC hi hs hfr hop hll hlen hil
  generalize (i : Int) + (s.gen + 1) * 65536 = nm at *
  generalize (l.set i ⟨s.gen + 1, true, loc⟩).set i ⟨s.gen + 1, false, 0⟩ = ly at *
  generalize l.set i ⟨s.gen + 1, true, loc⟩ = lx at *
  generalize hg : lookE l other = gE at *
  generalize hv : lookV l other = gV at *
  generalize hg2 : lookE lx other = iE at *
  generalize hv2 : lookV lx other = iV at *
  have hg := Lib.hid hg
  have hv := Lib.hid hv
  have hg2 := Lib.hid hg2
  have hv2 := Lib.hid hv2
  have hO' : ((gE != 0) = true ∧ (gE == 0) = false) ∨ ((gE != 0) = false ∧ (gE == 0) = true ∧ iE = 0 ∧ iV = gV) := by
    by_cases h : gE = 0
    · rcases hO with h2 | h2
      · exact absurd h h2
      · exact .inr ⟨by simpa using h, by simpa using h, h2⟩
    · exact .inl ⟨by simpa using h, by simpa using h⟩
  clear hO
  rcases hO' with ⟨o1, o2⟩ | ⟨o1, o2, rfl, rfl⟩
  all_goals
    go_enter Try.func10, Try.ntmps10
    go_wp2_with fail
    refine (hands_true _).mono ?_
    rintro e w1 ⟨rfl, hb1⟩
    go_wp2_with fail
    refine (H1.out _ _ (hr.below hb1) hb1.size).mono ?_
    rintro e w2 ⟨hb2, A2, c2, rfl, hown⟩
    have hr2 := Reads.of_own hown
    have hb02 := below_step hb1 hb2
    clear hown hb1 hb2
    go_wp2_with fail
    refine (L1.out _ _ _ hr2).mono ?_
    rintro e w3 ⟨rfl, hb3⟩
    have hr3 := (hr2.below hb3).more hb3.size
    have hb03 := below_step hb02 hb3
    clear hr2 hb02 hb3
    go_wp2_with fail
    refine (L2.out _ _ _ _ ((hr.below hb03).more hb03.size)).mono ?_
    rw [hg.out, hv.out]
    rintro e w4 ⟨rfl, hb4⟩
    have hr4 := (hr3.below hb4).more hb4.size
    have hb04 := below_step hb03 hb4
    clear hr3 hb03 hb4
    go_wp2_with fail
    refine (L2.out _ _ _ _ hr4).mono ?_
    rw [hg2.out, hv2.out]
    rintro e w5 ⟨rfl, hb5⟩
    have hr5 := (hr4.below hb5).more hb5.size
    have hb05 := below_step hb04 hb5
    clear hr4 hb04 hb5
    go_wp2_with fail
    refine (C1.out _ _ _ hr5).mono ?_
    rintro e w6 ⟨hb6, A6, c6, rfl, hown⟩
    have hx6 := (hr5.below hb6).more hb6.size
    have hr6 := Reads.of_own hown
    have hb06 := below_step hb05 hb6
    clear hr5 hb05 hb6 hown
    go_wp2_with fail
    refine (L3.out _ _ _ hr6).mono ?_
    rintro e w7 ⟨rfl, hb7⟩
    have hx7 := (hx6.below hb7).more hb7.size
    have hr7 := (hr6.below hb7).more hb7.size
    have hb07 := below_step hb06 hb7
    clear hx6 hr6 hb06 hb7
    go_wp2_with fail
    refine (K1.out _ _ _ hx7).mono ?_
    rintro e w8 ⟨rfl, hb8⟩
    have hr8 := (hr7.below hb8).more hb8.size
    have hb08 := below_step hb07 hb8
    clear hx7 hr7 hb07 hb8
    go_wp2_with fail
    refine (K2.out _ _ _ hr8).mono ?_
    rintro e w9 ⟨rfl, hb9⟩
    have hb09 := below_step hb08 hb9
    clear hr8 hb08 hb9 hr
    go_wp2
    all_goals
      go_ret
      exact ⟨by simp, hb09⟩

theorem handLooks_any (A : Option Addr) (n c : Nat) (l : List Slot) (loc other : Int) (w : World) (hr : Reads w w.heap.size 3 A n (slotsC l)) (_ : n ≤ c) (_ : c ≤ maxLen) (_ : (Lit.int .i64 loc).wf = true) (hv : (Lit.int .u64 other).wf = true) :
    Calls Try.prog 10 #[.slice A n c, .int .i64 loc, .int .u64 other] w fun e w' => e = .returned (.bool true) ∧ Below w.heap.size w w' := by
  obtain ⟨v0, v1⟩ := bu64 hv
  by_cases hE : openE l loc = 0
  · exact handLooks_ok A n c l loc other w hr hE v0 (by omega)
  · exact handLooks_bad A n c l loc other w hr hE

namespace HandLooks
open Go.ChangeShapes Go.WideShapes Go.ChangeAt Go.RowKit
theorem own : ownKnob Try.prog.godebug = none := by kernel_rfl
theorem laidOut : laidOutB Try.prog = true := by kernel_rfl

set_option maxRecDepth 100000 in
theorem lifted (os : Os) (started : os.Started) (H : Type) (enc : TypeId × Value → H) :
    ReturnsInHanded {} Try.checked os 10 .any (Rows.handLooksSpec.pre6 enc Try.prog Try.f10 Rows.handLooksRow.domain false) (Rows.handLooksSpec.post enc Try.prog Try.f10 false true false false) := by
  refine returnsInHanded_of_change (C := Try.checked) own started (by kernel_rfl) Try.func10
    (ChangeSpec.witness6 (enc := enc) (C := Try.checked) false ⟨#[], #[.slice none 0 0, .int .i64 0, .int .u64 0], []⟩ 8 (by kernel_rfl) (by kernel_rfl) (by kernel_rfl) (by kernel_rfl)) ?_
  intro W base args ds gs before hval0 hW hcnd _
  have hval : ∀ (j : Nat) t v, Try.f10.params[j]? = some t → args[j]? = some v → Value.okWide Try.prog W .any base t v := hval0
  have hW' := hW
  obtain ⟨p, q, hA0, hV, rfl, hfz, hnd⟩ := hW
  have hA : DataW.TrodAll enc Try.prog W 0 (fun _ => true) true Try.f10.params.toList args.toList ds p := hA0
  rw [Try.params10] at hA hval
  obtain ⟨v0, vs0, d0, ds0, p0, q0, hargs, rfl, rfl, h0, hA⟩ := trodAll_cons hA
  obtain ⟨v1, vs1, d1, ds1, p1, q1, rfl, rfl, rfl, h1, hA⟩ := trodAll_cons hA
  obtain ⟨v2, vs2, d2, ds2, p2, q2, rfl, rfl, rfl, h2, hA⟩ := trodAll_cons hA
  obtain ⟨rfl, rfl, rfl⟩ := trodAll_nil hA
  obtain rfl : args = #[v0, v1, v2] := by cases args; simp_all
  obtain ⟨A0, n0, c0, l0, rfl, hnc0, hc0, hr0⟩ := open_slots (hval 0 _ v0 rfl rfl) (fun x hx => hW'.lt x (by simp [hx])) h0
  obtain ⟨i1, rfl, rfl, rfl, w1⟩ := open_int Try.underlying3 (hval 1 _ v1 rfl rfl) h1
  obtain ⟨i2, rfl, rfl, rfl, w2⟩ := open_int Try.underlying27 (hval 2 _ v2 rfl rfl) h2
  refine (handLooks_any A0 n0 c0 l0 i1 i2 W hr0 hnc0 hc0 w1 w2).mono fun e W' ⟨he, hb⟩ => ?_
  subst he
  exact ⟨_, rfl, law_post laidOut Try.underlying4 rfl (by kernel_rfl) rfl rfl hW' hb⟩

theorem proved : Rows.HandLooksSaid :=
  OpenClaim.holds_of_wide 10 Try.f10 rfl rfl rfl rfl rfl rfl rfl ⟨rfl, rfl, rfl, rfl, rfl⟩ rfl rfl rfl rfl rfl (by kernel_rfl) Try.func10 (by kernel_rfl)
    (of_decide_eq_true (by kernel_rfl)) (by unfold Func.isWrapper; first | (rw [if_pos (by decide +kernel)]; kernel_rfl) | (rw [if_neg (by decide +kernel)]; exact ⟨rfl, rfl⟩))
    (fun os started H enc _ => lifted os started H enc)
end HandLooks
end Go.Proofs.Ytdanffkcgogalaa
