/-
  PinTurns answers true for all pins and words, and changes no argument: pinning and unpinning restores the pins and does not affect other words.
-/
import Derived.Test.YthfjopnomkfegaaPinDrop
import Derived.Test.YthfjopnomkfegaaLawPins
import Derived.Test.YthfjopnomkfegaaLaw
import Derived.Test.YthfjopnomkfegaaLawNums
namespace Go.Proofs.Ythfjopnomkfegaa
open Go.RowKit

theorem pins_facts : findE [] 4 = 0 ∧ countP [] 4 = 0 := by decide
theorem pins_more {i : Nat} (h : PlaceOf [] 4 i) : moreP [] 4 i 1 = [⟨4, 1⟩] := by
  have := h.le
  simp only [List.length_nil] at this
  have : i = 0 := by omega
  subst this
  decide

set_option maxHeartbeats 400000 in
theorem pins_true (w : World) : Calls Try.prog 20 #[] w fun e w' => e = .returned (.bool true) ∧ Below w.heap.size w w' := by
  have H := Lib.hid (padd_any none 0 0 [] 4 w Reads.none_ (by omega))
  go_enter Try.func20, Try.ntmps20
  go_wp2_with fail
  refine H.out.mono ?_
  rintro e w1 ⟨hb1, ⟨-, i, hi, -, -, A', c', rfl, -⟩ | ⟨hno, -⟩⟩
  · rw [pins_facts.2] at *
    have hm := pins_more hi
    rw [show (0 : Int) + 1 = 1 by omega, hm]
    clear hi hm
    go_wp2
    go_ret
    exact ⟨by first | rfl | simp, hb1⟩
  · exact absurd ⟨pins_facts.1, 0, ⟨Nat.le_refl _, fun k y h => by omega, fun k y _ h => by simp at h⟩, by rw [pins_facts.2]; decide, .inr (by decide)⟩ hno

set_option maxRecDepth 100000 in
set_option maxHeartbeats 2000000 in
theorem pinTurns_any (A : Option Addr) (n c : Nat) (l : List Rn) (x z : Int) (w : World) (hr : Reads w w.heap.size 2 A n (runsC l)) (hnc : n ≤ c) (hc : c ≤ maxLen) (hm : n * 16 ≤ 140737488351232) (hx : (Lit.int .i64 x).wf = true) (hz : (Lit.int .i64 z).wf = true) :
    Calls Try.prog 5 #[.slice A n c, .int .i64 x, .int .i64 z] w fun e w' => e = .returned (.bool true) ∧ Below w.heap.size w w' := by
  have hn : n ≤ 1000000000000000000 := by omega
  clear hnc hc hm hx hz
  have H1 := Lib.hid (fun w hr => padd_any A n c l x w hr hn)
  have H2 := Lib.hid pdrop_any
  have H3 := Lib.hid (fun w hr => pmany_any A n c l z w hr hn)
  have H4 := Lib.hid (fun A n c l w hr hn => pmany_any A n c l z w hr hn)
  have hl : l.length = n := by have := hr.1; rw [runsC_length] at this; omega
  have HL := Lib.hid hl
  clear hl
  go_enter Try.func5, Try.ntmps5
  go_wp2_with fail
  refine (pins_true _).mono ?_
  rintro e w1 ⟨rfl, hb1⟩
  go_wp2_with fail
  refine (H1.out _ ((hr.below hb1).more hb1.size)).mono ?_
  rintro e w2 ⟨hb2, ⟨hF, i, hi, hC, hsp, A2, c2, rfl, hown2⟩ | ⟨-, er, her, rfl⟩⟩
  · have hb02 := below_step hb1 hb2
    obtain ⟨hok, hth⟩ := findE_zero.1 hF
    have hC0 : 0 ≤ countP l x := by
      cases hh : hasAt l x i
      · rw [countP_none (place_none hok.rise hi hh)]; exact Int.le_refl _
      · obtain ⟨y, hy, rfl⟩ := hasAt_some hh
        have hym := List.mem_of_getElem? hy
        rw [countP_some hok hym]
        have := (bad_no.1 (hok.ok y hym)).2.1
        omega
    have hok2 : PinsOk (moreP l x i (countP l x + 1)) := hok.more hi hth (by omega) (by omega) hsp
    obtain ⟨hpl, hget⟩ := PlaceOf.more (v := countP l x + 1) hok hi
    have hcm := fun z => countP_more (z := z) hok hok2 hi
    have hless := less_more hok hi
    have hh2 : hasAt (moreP l x i (countP l x + 1)) x i = true := by unfold hasAt; rw [hget]; simp
    have hF2 : findE (moreP l x i (countP l x + 1)) x = 0 := findE_zero.2 ⟨hok2, hth⟩
    have hFz := findE_same hok hok2 z
    obtain ⟨C, hCe⟩ : ∃ C, C = countP l x := ⟨_, rfl⟩
    rw [← hCe] at hown2 hok2 hpl hget hcm hless hh2 hF2 hFz hC hC0 ⊢
    obtain ⟨l2, hl2⟩ : ∃ l2, l2 = moreP l x i (C + 1) := ⟨_, rfl⟩
    rw [← hl2] at hown2 hok2 hpl hget hcm hless hh2 hF2 hFz ⊢
    have hcx : countP l2 x = C + 1 := by rw [hcm x, if_pos rfl]
    have HCM : Hid (countP l2 z = if z = x then C + 1 else countP l z) := hcm z
    have HCE := Lib.hid hCe
    have HPL := Lib.hid hpl
    have HLess := Lib.hid hless
    have HOK2 := Lib.hid (pinE_ok.2 hok2)
    have HFZ := Lib.hid hFz
    have HCX := Lib.hid hcx
    have HX2 : Hid (findE l2 x = 0 ∧ ∃ i, PlaceOf l2 x i ∧ hasAt l2 x i = true) := ⟨hF2, i, hpl, hh2⟩
    have hl16 := hok2.len
    obtain ⟨n2, hn2⟩ : ∃ n2, n2 = l2.length := ⟨_, rfl⟩
    rw [← hn2] at hown2 hl16 ⊢
    have hr2 := Reads.of_own hown2
    have H2' := Lib.hid (H2.out A2 n2 c2 l2 x w2 hr2 (by omega))
    have HCv : Hid (countP l2 x - 1 = C) := by show _ = _; rw [hcx]; omega
    clear hF hi hsp hok hth hok2 hpl hget hcm hless hh2 hF2 hFz hCe hl2 hcx hn2 hown2
    go_wp2_with fail
    refine H2'.out.mono ?_
    rintro e w3 ⟨hb3, ⟨-, j, hj, -, A3, c3, rfl, hown3⟩ | ⟨hno, -⟩⟩
    · have hji := hj.unique HPL.out
      subst hji
      have e1 : lessP l2 j x (countP l2 x - 1) = l := by rw [HCv.out]; exact HLess.out
      rw [e1, HL.out] at hown3
      rw [e1, HL.out, HCv.out]
      have hb03 := below_step hb02 hb3
      have hrB := Reads.of_own hown3
      have hr23 := (hr2.below hb3).more hb3.size
      have H3' := Lib.hid (H3.out w3 ((hr.below hb03).more hb03.size))
      clear hj e1 hown3
      go_wp2_with fail
      refine H3'.out.mono ?_
      rintro e w4 ⟨hb4, hcase⟩
      have hb04 := below_step hb03 hb4
      have hr24 := (hr23.below hb4).more hb4.size
      have hrB4 := (hrB.below hb4).more hb4.size
      have H4' := Lib.hid (H4.out A2 n2 c2 l2 w4 hr24 (by omega))
      have HCk := Lib.hid (fun w hr => pcheck_any A2 n2 c2 l2 w hr (by omega))
      have wC : IntKind.i64.wrap (C + 1 - 1) = C := by rw [show C + 1 - 1 = C by omega]; exact IntWalk.i64_in _ (by omega)
      have wC1 : C + 1 - 1 = C := by omega
      have wC2 : IntKind.i64.wrap C = C := IntWalk.i64_in _ (by omega)
      have zC : (C != C) = false := by simp
      rw [HOK2.out] at HCk
      rcases hcase with ⟨hz0, rfl⟩ | ⟨hz0, rfl⟩
      · have hz2 : findE l2 z = 0 := by rw [← HFZ.out]; exact hz0
        have HZ2 := Lib.hid hz2
        clear hz0 hz2
        go_wp2_with fail
        refine H4'.out.mono ?_
        rintro e w5 ⟨hb5, ⟨-, rfl⟩ | ⟨hbad, -⟩⟩
        · have hb05 := below_step hb04 hb5
          have hr25 := (hr24.below hb5).more hb5.size
          have hrB5 := (hrB4.below hb5).more hb5.size
          go_wp2_with fail
          refine (HCk.out _ hr25).mono ?_
          rintro e w6 ⟨rfl, hb6⟩
          have hb06 := below_step hb05 hb6
          have HEq := Lib.hid (equal_pin A3 A n c3 c _ _ l w6 (hrB5.below hb6) ((hr.below hb06)) hn)
          by_cases hzx : z = x
          · subst hzx
            have e2 : countP l2 z = C + 1 := by rw [HCM.out, if_pos rfl]
            have e3 : countP l z = C := HCE.out.symm
            rw [e2, e3]
            have wC3 : IntKind.i64.wrap (C + 1) = C + 1 := IntWalk.i64_in _ (by omega)
            clear e2 e3
            go_wp2_with fail
            refine HEq.out.mono ?_
            rintro e w7 ⟨rfl, q7, rfl⟩
            go_wp2
            go_ret
            exact ⟨by first | rfl | simp, below_drewN hb06 _⟩
          · have e2 : countP l2 z = countP l z := by rw [HCM.out, if_neg hzx]
            rw [e2]
            have z1 : (z == x) = false := by simpa using hzx
            have z2 : (z != x) = true := by simpa using hzx
            generalize countP l z = K at *
            clear e2 hzx
            go_wp2_with fail
            refine HEq.out.mono ?_
            rintro e w7 ⟨rfl, q7, rfl⟩
            go_wp2
            go_ret
            exact ⟨by first | rfl | simp, below_drewN hb06 _⟩
        · simp [HZ2.out] at hbad
      · have hz2 : (findE l2 z != 0) = true := by rw [← HFZ.out]; exact hz0
        have HZ2 := Lib.hid hz2
        obtain ⟨E, hE⟩ : ∃ E, E = findE l z := ⟨_, rfl⟩
        have HE2 : Hid (findE l2 z = E) := by show _ = _; rw [hE]; exact HFZ.out.symm
        rw [← hE] at hz0 ⊢
        clear hz2 hE
        go_wp2_with fail
        refine H4'.out.mono ?_
        rintro e w5 ⟨hb5, ⟨hbad, -⟩ | ⟨-, rfl⟩⟩
        · have h9 := HZ2.out
          rw [hbad] at h9
          cases h9
        · rw [HE2.out]
          have hb05 := below_step hb04 hb5
          have hr25 := (hr24.below hb5).more hb5.size
          have hrB5 := (hrB4.below hb5).more hb5.size
          have zE : (E != E) = false := by simp
          go_wp2_with fail
          refine (HCk.out _ hr25).mono ?_
          rintro e w6 ⟨rfl, hb6⟩
          have hb06 := below_step hb05 hb6
          have HEq := Lib.hid (equal_pin A3 A n c3 c _ _ l w6 (hrB5.below hb6) ((hr.below hb06)) hn)
          go_wp2_with fail
          refine HEq.out.mono ?_
          rintro e w7 ⟨rfl, q7, rfl⟩
          go_wp2
          go_ret
          exact ⟨by first | rfl | simp, below_drewN hb06 _⟩
    · exact absurd HX2.out hno
  · have her2 := her
    clear her
    go_wp2
    go_ret
    exact ⟨by first | rfl | simp, below_step hb1 hb2⟩

namespace PinTurns
open Go.ChangeShapes Go.WideShapes Go.ChangeAt Go.RowKit
theorem own : ownKnob Try.prog.godebug = none := by kernel_rfl
theorem laidOut : laidOutB Try.prog = true := by kernel_rfl

set_option maxRecDepth 100000 in
theorem lifted (os : Os) (started : os.Started) (H : Type) (enc : TypeId × Value → H) :
    ReturnsInHanded {} Try.checked os 5 .any (Rows.pinTurnsSpec.pre6 enc Try.prog Try.f5 Rows.pinTurnsRow.domain false) (Rows.pinTurnsSpec.post enc Try.prog Try.f5 false true false false) := by
  refine returnsInHanded_of_change_sized (C := Try.checked) own started (by as_aux_lemma => kernel_rfl) Try.func5
    (ChangeSpec.witness6 (enc := enc) (C := Try.checked) false ⟨#[], #[.slice none 0 0, .int .i64 0, .int .i64 0], []⟩ 8 (by as_aux_lemma => kernel_rfl) (by as_aux_lemma => kernel_rfl) (by as_aux_lemma => kernel_rfl) (by as_aux_lemma => kernel_rfl)) ?_
  intro W base args ds gs before hval0 hW hcnd hsz _
  have hval : ∀ (j : Nat) t v, Try.f5.params[j]? = some t → args[j]? = some v → Value.okWide Try.prog W .any base t v := hval0
  have hW' := hW
  obtain ⟨p, q, hA0, hV, rfl, hfz, hnd⟩ := hW
  have hA : DataW.TrodAll enc Try.prog W 0 (fun _ => true) true Try.f5.params.toList args.toList ds p := hA0
  rw [Try.params5] at hA hval
  obtain ⟨v0, vs0, d0, ds0, p0, q0, hargs, rfl, rfl, h0, hA⟩ := trodAll_cons hA
  obtain ⟨v1, vs1, d1, ds1, p1, q1, rfl, rfl, rfl, h1, hA⟩ := trodAll_cons hA
  obtain ⟨v2, vs2, d2, ds2, p2, q2, rfl, rfl, rfl, h2, hA⟩ := trodAll_cons hA
  obtain ⟨rfl, rfl, rfl⟩ := trodAll_nil hA
  obtain rfl : args = #[v0, v1, v2] := by cases args; simp_all
  obtain ⟨A0, n0, c0, l0, rfl, hnc0, hc0, hr0, hd0⟩ := open_pins (hval 0 _ v0 rfl rfl) (fun x hx => hW'.lt x (by simp [hx])) h0
  have hm0 : n0 * 16 ≤ 140737488351232 := by
    rcases hd0 with h0 | ⟨D, E, rfl, hD⟩
    · omega
    · have h5 : (D.length + E.length) * Try.prog.bytesOf 45 ≤ reachBytes := sized_slice hsz (j := 0) (t := 37) (e := 45) rfl rfl Try.underlying37
      rw [k_pin_bytes, hD] at h5
      simp only [reachBytes] at h5
      omega
  obtain ⟨i1, rfl, rfl, rfl, w1⟩ := open_int Try.underlying3 (hval 1 _ v1 rfl rfl) h1
  obtain ⟨i2, rfl, rfl, rfl, w2⟩ := open_int Try.underlying3 (hval 2 _ v2 rfl rfl) h2
  refine (pinTurns_any A0 n0 c0 l0 i1 i2 W hr0 hnc0 hc0 hm0 w1 w2).mono fun e W' ⟨he, hb⟩ => ?_
  subst he
  exact ⟨_, rfl, law_post laidOut Try.underlying4 rfl (by as_aux_lemma => kernel_rfl) rfl rfl hW' hb⟩

set_option maxHeartbeats 10000000 in
theorem closed : joinedFacts Try.prog 5 Try.f5 Rows.pinTurnsSpec Rows.pinTurnsRow = true := by
  unfold joinedFacts
  simp only [Bool.and_eq_true]
  repeat' apply And.intro
  all_goals as_aux_lemma => kernel_rfl

set_option maxHeartbeats 1000000 in
theorem proved : Rows.PinTurnsSaid :=
  OpenClaim.holds_of_wide 5 Try.f5 rfl rfl rfl rfl rfl rfl rfl ⟨rfl, rfl, rfl, rfl, rfl⟩ rfl rfl rfl rfl rfl (by as_aux_lemma => kernel_rfl) Try.func5 closed
    (of_decide_eq_true (by as_aux_lemma => kernel_rfl)) (by unfold Func.isWrapper; first | (rw [if_pos (by decide +kernel)]; kernel_rfl) | (rw [if_neg (by decide +kernel)]; exact ⟨rfl, rfl⟩))
    (fun os started H enc _ => lifted os started H enc)
end PinTurns
end Go.Proofs.Ythfjopnomkfegaa
