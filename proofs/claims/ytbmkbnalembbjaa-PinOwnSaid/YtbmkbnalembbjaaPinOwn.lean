/-
  PinOwn answers true for all pins, hands and numbers, and changes no argument: what is handed in stays as it was, and what is handed back shares nothing with it.
-/
import Derived.Test.YtbmkbnalembbjaaPinOwnW
import Derived.Test.YtbmkbnalembbjaaLawPins
import Derived.Test.YtbmkbnalembbjaaLawSlots2
import Derived.Test.YtbmkbnalembbjaaLaw
import Derived.SizedLaws
namespace Go.Proofs.Ytbmkbnalembbjaa
open Go.RowKit

theorem pinOwn_any (A : Option Addr) (n c : Nat) (l : List Rn) (H : Option Addr) (hn hc : Nat) (sl : List Slot) (x v : Int) (w : World) (hr : Reads w w.heap.size 2 A n (runsC l)) (_ : n ≤ c) (_ : c ≤ maxLen) (hm : n * 16 ≤ 140737488351232)
    (hh : Reads w w.heap.size 3 H hn (slotsC sl)) (_ : hn ≤ hc) (_ : hc ≤ maxLen) (hk : hn * 24 ≤ 140737488351232) (_ : (Lit.int .i64 x).wf = true) (hv : (Lit.int .u64 v).wf = true) :
    Calls Try.prog 4 #[.slice A n c, .slice H hn hc, .int .i64 x, .int .u64 v] w fun e w' => e = .returned (.bool true) ∧ Below w.heap.size w w' := by
  have h1 : 0 ≤ v ∧ v < 18446744073709551616 := by simp [Lit.wf, IntKind.min, IntKind.max, IntKind.signed, IntKind.bits] at hv; omega
  exact pinOwn_walk A n c l H hn hc sl x v w hr hh (by omega) (by omega) h1.1 h1.2

namespace PinOwn
open Go.ChangeShapes Go.WideShapes Go.ChangeAt Go.RowKit
theorem own : ownKnob Try.prog.godebug = none := by kernel_rfl
theorem laidOut : laidOutB Try.prog = true := by kernel_rfl

set_option maxRecDepth 100000 in
theorem lifted (os : Os) (started : os.Started) (H : Type) (enc : TypeId × Value → H) :
    ReturnsInHanded {} Try.checked os 4 .any (Rows.pinOwnSpec.pre6 enc Try.prog Try.f4 Rows.pinOwnRow.domain false) (Rows.pinOwnSpec.post enc Try.prog Try.f4 false true false false) := by
  refine returnsInHanded_of_change_sized (C := Try.checked) own started (by as_aux_lemma => kernel_rfl) Try.func4
    (ChangeSpec.witness6 (enc := enc) (C := Try.checked) false ⟨#[], #[.slice none 0 0, .slice none 0 0, .int .i64 0, .int .u64 0], []⟩ 8 (by as_aux_lemma => kernel_rfl) (by as_aux_lemma => kernel_rfl) (by as_aux_lemma => kernel_rfl) (by as_aux_lemma => kernel_rfl)) ?_
  intro W base args ds gs before hval0 hW hcnd hsz _
  have hval : ∀ (j : Nat) t v, Try.f4.params[j]? = some t → args[j]? = some v → Value.okWide Try.prog W .any base t v := hval0
  have hW' := hW
  obtain ⟨p, q, hA0, hV, rfl, hfz, hnd⟩ := hW
  have hA : DataW.TrodAll enc Try.prog W 0 (fun _ => true) true Try.f4.params.toList args.toList ds p := hA0
  rw [Try.params4] at hA hval
  obtain ⟨v0, vs0, d0, ds0, p0, q0, hargs, rfl, rfl, h0, hA⟩ := trodAll_cons hA
  obtain ⟨v1, vs1, d1, ds1, p1, q1, rfl, rfl, rfl, h1, hA⟩ := trodAll_cons hA
  obtain ⟨v2, vs2, d2, ds2, p2, q2, rfl, rfl, rfl, h2, hA⟩ := trodAll_cons hA
  obtain ⟨v3, vs3, d3, ds3, p3, q3, rfl, rfl, rfl, h3, hA⟩ := trodAll_cons hA
  obtain ⟨rfl, rfl, rfl⟩ := trodAll_nil hA
  obtain rfl : args = #[v0, v1, v2, v3] := by cases args; simp_all
  obtain ⟨A0, n0, c0, l0, rfl, hnc0, hc0, hr0, hd0⟩ := open_pins (hval 0 _ v0 rfl rfl) (fun x hx => hW'.lt x (by simp [hx])) h0
  have hm0 : n0 * 16 ≤ 140737488351232 := by
    rcases hd0 with h0 | ⟨D, E, rfl, hD⟩
    · omega
    · have h5 : (D.length + E.length) * Try.prog.bytesOf 47 ≤ reachBytes := sized_slice hsz (j := 0) (t := 25) (e := 47) rfl rfl Try.underlying25
      rw [k_pin_bytes, hD] at h5
      simp only [reachBytes] at h5
      omega
  obtain ⟨A1, n1, c1, l1, rfl, hnc1, hc1, hr1, hd1⟩ := open_slots2 (hval 1 _ v1 rfl rfl) (fun x hx => hW'.lt x (by simp [hx])) h1
  have hm1 : n1 * 24 ≤ 140737488351232 := by
    rcases hd1 with h0 | ⟨D, E, rfl, hD⟩
    · omega
    · have h5 : (D.length + E.length) * Try.prog.bytesOf 50 ≤ reachBytes := sized_slice hsz (j := 1) (t := 27) (e := 50) rfl rfl Try.underlying27
      rw [k_slot_bytes, hD] at h5
      simp only [reachBytes] at h5
      omega
  obtain ⟨i2, rfl, rfl, rfl, w2⟩ := open_int Try.underlying3 (hval 2 _ v2 rfl rfl) h2
  obtain ⟨i3, rfl, rfl, rfl, w3⟩ := open_int Try.underlying37 (hval 3 _ v3 rfl rfl) h3
  refine (pinOwn_any A0 n0 c0 l0 A1 n1 c1 l1 i2 i3 W hr0 hnc0 hc0 hm0 hr1 hnc1 hc1 hm1 w2 w3).mono fun e W' ⟨he, hb⟩ => ?_
  subst he
  exact ⟨_, rfl, law_post laidOut Try.underlying4 rfl (by as_aux_lemma => kernel_rfl) rfl rfl hW' hb⟩

set_option maxHeartbeats 10000000 in
theorem closed : joinedFacts Try.prog 4 Try.f4 Rows.pinOwnSpec Rows.pinOwnRow = true := by
  unfold joinedFacts
  simp only [Bool.and_eq_true]
  repeat' apply And.intro
  all_goals as_aux_lemma => kernel_rfl

set_option maxHeartbeats 1000000 in
theorem proved : Rows.PinOwnSaid :=
  OpenClaim.holds_of_wide 4 Try.f4 rfl rfl rfl rfl rfl rfl rfl ⟨rfl, rfl, rfl, rfl, rfl⟩ rfl rfl rfl rfl rfl (by as_aux_lemma => kernel_rfl) Try.func4 closed
    (of_decide_eq_true (by as_aux_lemma => kernel_rfl)) (by unfold Func.isWrapper; first | (rw [if_pos (by decide +kernel)]; kernel_rfl) | (rw [if_neg (by decide +kernel)]; exact ⟨rfl, rfl⟩))
    (fun os started H enc _ => lifted os started H enc)
end PinOwn
end Go.Proofs.Ytbmkbnalembbjaa
