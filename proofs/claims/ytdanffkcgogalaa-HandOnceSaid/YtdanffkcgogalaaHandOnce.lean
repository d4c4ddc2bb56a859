/-
  HandOnce answers true for all slots, every name and every list of words, and changes no argument: the name of a closed handle is never given again, and stays stale. No condition.
-/
import Derived.Test.YtdanffkcgogalaaHandLaw
import Derived.Test.YtdanffkcgogalaaLawSlots
namespace Go.Proofs.Ytdanffkcgogalaa
open Go.RowKit

/-- The name is stale now and will be: its slot is shut at its count, or past it. -/
def Stale (l : List Slot) (v : Int) : Prop := ∀ (i : Nat) (s : Slot), v % 65536 = (i : Int) → l[i]? = some s → (v < i + s.gen * 65536) ∨ ((i : Int) + s.gen * 65536 = v ∧ s.opn = false)

theorem stale_find {l : List Slot} {v : Int} (h : Stale l v) : findS l v = none := by
  cases hf : findS l v with
  | none => rfl
  | some s =>
    obtain ⟨h1, h2, h3, h4⟩ := findS_some.1 hf
    rcases h _ _ h1 h2 with h5 | ⟨_, h5⟩
    · omega
    · rw [h3] at h5; cases h5

theorem stale_closed {l : List Slot} {v : Int} {i : Nat} {s : Slot} (hf : Found l v i s) : Stale (l.set i ⟨s.gen, false, 0⟩) v := by
  intro j t hj ht
  obtain ⟨h1, h2, h3, h4⟩ := hf
  have e : j = i := by omega
  subst e
  have hi := (List.getElem?_eq_some_iff.1 h2).1
  rw [List.getElem?_set_self hi] at ht
  cases ht
  exact .inr ⟨h4, rfl⟩

theorem stale_open {l : List Slot} {v : Int} {i : Nat} {s : Slot} {loc : Int} (hst : Stale l v) (hs : l[i]? = some s) : Stale (l.set i ⟨s.gen + 1, true, loc⟩) v ∧ ((i : Int) < 65536 → (i : Int) + (s.gen + 1) * 65536 ≠ v) := by
  constructor
  · intro j t hj ht
    by_cases e : i = j
    · subst e
      have hi := (List.getElem?_eq_some_iff.1 hs).1
      rw [List.getElem?_set_self hi] at ht
      cases ht
      left
      dsimp only
      rcases hst i s hj hs with h | ⟨h, _⟩ <;> omega
    · rw [List.getElem?_set_ne e] at ht
      exact hst j t hj ht
  · intro h6 he
    have hj : v % 65536 = (i : Int) := by omega
    rcases hst i s hj hs with h | ⟨h, _⟩ <;> omega

theorem stale_close {l : List Slot} {v u : Int} {i : Nat} {s : Slot} (hst : Stale l v) (hs : l[i]? = some s) : Stale (l.set i ⟨s.gen, false, 0⟩) v := by
  intro j t hj ht
  by_cases e : i = j
  · subst e
    have hi := (List.getElem?_eq_some_iff.1 hs).1
    rw [List.getElem?_set_self hi] at ht
    cases ht
    rcases hst i s hj hs with h | ⟨h, _⟩
    · exact .inl h
    · exact .inr ⟨h, rfl⟩
  · rw [List.getElem?_set_ne e] at ht
    exact hst j t hj ht

set_option maxHeartbeats 1000000 in
theorem handOnce_bad (A : Option Addr) (n c : Nat) (l : List Slot) (v : Int) (x : Value) (w : World) (hr : Reads w w.heap.size 3 A n (slotsC l)) (v0 : 0 ≤ v) (v1 : v < 18446744073709551616) (hE : handE l ≠ 0 ∨ findS l v = none) :
    Calls Try.prog 9 #[.slice A n c, .int .u64 v, x] w fun e w' => e = .returned (.bool true) ∧ Below w.heap.size w w' := by
  have H : ∀ (w : World) B, Reads w B 3 A n (slotsC l) → B ≤ w.heap.size → Calls Try.prog 27 #[.slice A n c, .int .u64 v] w fun e w' => (∃ E : Int, (E != 0) = true ∧ e = .returned (.tuple #[.slice none 0 0, .int .i64 E])) ∧ Below w.heap.size w w' := by
    intro w B hr hB
    by_cases hC : handE l = 0
    · exact (close_stale A n c B l v w hr hB hC v0 v1 (fun i s hf => by
        rcases hE with h | h
        · exact h hC
        · rw [found_findS hf] at h; cases h)).mono fun e w' ⟨h1, h2⟩ => ⟨⟨9, by decide, h1⟩, h2⟩
    · exact (close_bad A n c B l v w hr hB hC).mono fun e w' ⟨h1, h2⟩ => ⟨⟨handE l, by simpa using hC, h1⟩, h2⟩
  have HH := Lib.hid H
  clear H hE
  go_enter Try.func9, Try.ntmps9
  go_wp2_with (first
    | (go_at_call 26; refine (hands_true _).mono ?_; rintro e w1 ⟨rfl, hb1⟩)
    | (go_at_call 27; refine (HH.out _ _ (hr.below hb1) hb1.size).mono ?_; rintro e w2 ⟨⟨E, hE, rfl⟩, hb2⟩))
  all_goals
    go_ret
    exact ⟨by simp, below_step hb1 hb2⟩

set_option maxHeartbeats 2000000 in
theorem handOnce_ok (A : Option Addr) (n c : Nat) (l : List Slot) (v : Int) (i0 : Nat) (s0 : Slot) (A2 : Option Addr) (m c2 : Nat) (xs : List Int) (w : World) (hr : Reads w w.heap.size 3 A n (slotsC l)) (v0 : 0 ≤ v) (v1 : v < 18446744073709551616) (hC : handE l = 0) (hF : Found l v i0 s0)
    (hr2 : Reads w w.heap.size 1 A2 m (xs.map (.int .i64))) (hm : m ≤ 9223372036854775807) (hx : ∀ x ∈ xs, (Lit.int .i64 x).wf = true) :
    Calls Try.prog 9 #[.slice A n c, .int .u64 v, .slice A2 m c2] w fun e w' => e = .returned (.bool true) ∧ Below w.heap.size w w' := by
  have hll : l.length = n := by have := hr.1; rw [slotsC_length] at this; omega
  have hxl : xs.length = m := by have := hr2.1; simpa using this
  have hlen := (handE_ok.1 hC).1
  obtain ⟨g0, g1, _, _, _, _⟩ := slotE_ok.1 (slotE_of hC hF.2.1)
  have C1 := Lib.hid (fun (w : World) B hr hB => close_ok A n c B l v i0 s0 w hr hB hC v0 v1 hF)
  have HL0 : Hid (handE (l.set i0 ⟨s0.gen, false, 0⟩) = 0 ∧ Stale (l.set i0 ⟨s0.gen, false, 0⟩) v ∧ (l.set i0 ⟨s0.gen, false, 0⟩).length = n) :=
    ⟨handE_set hC (slotE_ok.2 ⟨g0, g1, by dsimp; omega, by dsimp; omega, (fun h => by cases h), fun _ => rfl⟩), stale_closed hF, by simpa using hll⟩
  have HX := Lib.hid hxl
  have hx := Lib.hid hx
  generalize l.set i0 ⟨s0.gen, false, 0⟩ = l1 at *
  have hn16 : n ≤ 16 := by omega
  clear hF hC hll hxl hlen
  go_enter Try.func9, Try.ntmps9
  go_wp2_with (first
    | (go_at_call 26; refine (hands_true _).mono ?_; rintro e w1 ⟨rfl, hb1⟩)
    | (go_at_call 27; refine (C1.out _ _ (hr.below hb1) hb1.size).mono ?_; rintro e w2 ⟨hb2, A1, c1, rfl, hown⟩))
  have hr1 := Reads.of_own hown
  have hb02 := below_step hb1 hb2
  clear hown hb1 hb2 hr
  go_loopw [0, 30] (fun h i wr => ∃ (j : Nat) (A' : Option Addr) (c' : Nat) (L : List Slot), j ≤ m ∧ i = .int .i64 j ∧ h = .slice A' n c' ∧ Reads wr wr.heap.size 3 A' n (slotsC L) ∧ handE L = 0 ∧ Stale L v ∧ L.length = n ∧ Below w.heap.size w wr) (fun _ i _ => m - (intOf i).toNat)
  case atStart => exact ⟨0, A1, c1, l1, Nat.zero_le _, rfl, rfl, hr1, HL0.out.1, HL0.out.2.1, HL0.out.2.2, hb02⟩
  case round =>
    obtain ⟨j, A', c', L, hj, rfl, rfl, hrL, hC, hst, hLn, hb⟩ := hrel
    clear hr1 HL0 hb02
    have fin : Hid (lookE L v = 9) := by show _ = _; unfold lookE; rw [if_neg (by simpa using hC), stale_find hst]
    have HLk := Lib.hid (look_any A' n c' wr.heap.size L v wr hrL (Nat.le_refl _) v0 v1)
    by_cases hlt : j < m
    · have hl : j < xs.length := by rw [HX.out]; exact hlt
      have hbx := b64 (hx.out _ (List.getElem_mem hl))
      obtain ⟨ad, u, rfl, hadb, hxx, hcx⟩ := hr2.at_ hlt
      rw [List.getElem?_map, List.getElem?_eq_getElem hl] at hxx
      obtain rfl : u = .int .i64 xs[j] := by simpa using hxx.symm
      have hcell : wr.cell? (ad.add j) = some (.int .i64 xs[j]) := by rw [hb.cell (p := ad.add j) (by rw [block_of_add]; exact hadb)]; exact hcx
      clear hxx hcx
      generalize xs[j] = a at *
      obtain ⟨hbx1, hbx2⟩ := hbx
      by_cases h60 : 60 ≤ j
      · have h60' : (60 : Int) ≤ j := by omega
        clear hC hst hLn
        go_wp2_with (go_at_call 29; refine HLk.out.mono ?_; rw [fin.out]; rintro e w3 ⟨rfl, hb3⟩)
        go_ret
        exact ⟨rfl, below_step hb hb3⟩
      · have h60' : ¬ (60 : Int) ≤ j := by omega
        by_cases hE : openE L a = 0
        · obtain ⟨_, l0, l1, i, s, hi, hs, hfr⟩ := openE_ok hE
          have hil := (List.getElem?_eq_some_iff.1 hs).1
          obtain ⟨q0, q1, _, _, _, _⟩ := slotE_ok.1 (slotE_of hC hs)
          have hop : s.opn = false := by simp [slotFree] at hfr; exact hfr.1
          have q2 : s.gen < 65535 := by simp [slotFree] at hfr; exact hfr.2
          have O1 := Lib.hid (open_ok A' n c' wr.heap.size L a i s wr hrL (Nat.le_refl _) hE hi hs hfr)
          obtain ⟨st1, st2⟩ := stale_open (loc := a) hst hs
          have st2 := st2 (by omega)
          have hC2 : handE (L.set i ⟨s.gen + 1, true, a⟩) = 0 := handE_set hC (slotE_ok.2 ⟨by dsimp; omega, by dsimp; omega, l0, l1, (fun _ => by dsimp; omega), (fun h => by cases h)⟩)
          have hF2 := found_opened (loc := a) (by omega) hs
          have hs2 := hF2.2.1
          have n0 : 0 ≤ (i : Int) + (s.gen + 1) * 65536 := by omega
          have n1 : (i : Int) + (s.gen + 1) * 65536 < 18446744073709551616 := by omega
          have C2 := Lib.hid (fun (w : World) (A' : Option Addr) c' hr => close_ok A' n c' w.heap.size (L.set i ⟨s.gen + 1, true, a⟩) (i + (s.gen + 1) * 65536) i ⟨s.gen + 1, true, a⟩ w hr (Nat.le_refl _) hC2 n0 n1 hF2)
          have hC3 : handE ((L.set i ⟨s.gen + 1, true, a⟩).set i ⟨s.gen + 1, false, 0⟩) = 0 := handE_set hC2 (slotE_ok.2 ⟨by dsimp; omega, by dsimp; omega, by dsimp; omega, by dsimp; omega, (fun h => by cases h), fun _ => rfl⟩)
          have st3 : Stale ((L.set i ⟨s.gen + 1, true, a⟩).set i ⟨s.gen + 1, false, 0⟩) v := stale_close (u := 0) st1 hs2
          have hL2 : (L.set i ⟨s.gen + 1, true, a⟩).length = n := by simpa using hLn
          have hL3 : ((L.set i ⟨s.gen + 1, true, a⟩).set i ⟨s.gen + 1, false, 0⟩).length = n := by simpa using hLn
          have F2 : Hid (handE (L.set i ⟨s.gen + 1, true, a⟩) = 0 ∧ Stale (L.set i ⟨s.gen + 1, true, a⟩) v ∧ (L.set i ⟨s.gen + 1, true, a⟩).length = n) := ⟨hC2, st1, hL2⟩
          have F3 : Hid (handE ((L.set i ⟨s.gen + 1, true, a⟩).set i ⟨s.gen + 1, false, 0⟩) = 0 ∧ Stale ((L.set i ⟨s.gen + 1, true, a⟩).set i ⟨s.gen + 1, false, 0⟩) v ∧ ((L.set i ⟨s.gen + 1, true, a⟩).set i ⟨s.gen + 1, false, 0⟩).length = n) := ⟨hC3, st3, hL3⟩
          dsimp only at C2
          clear hC hst hLn hE hi hs hfr hop hC2 hF2 hs2 hC3 st3 st1 hL2 hL3 hil
          generalize (L.set i ⟨s.gen + 1, true, a⟩).set i ⟨s.gen + 1, false, 0⟩ = L3 at *
          generalize L.set i ⟨s.gen + 1, true, a⟩ = L2 at *
          generalize (i : Int) + (s.gen + 1) * 65536 = nm at *
          have e1 : (nm == v) = false := by simpa using st2
          have e2 : (nm != v) = true := by simpa using st2
          clear st2
          go_wp2_with (first
            | (go_at_call 28; refine O1.out.mono ?_; rintro e w3 ⟨hb3, A3, c3, rfl, hown3⟩; have hr3 := Reads.of_own hown3; clear hown3)
            | (go_at_call 27; refine (C2.out _ _ _ hr3).mono ?_; rintro e w4 ⟨hb4, A4, c4, rfl, hown4⟩; have hr4 := Reads.of_own hown4; clear hown4))
          · go_roundw
            case rel => exact ⟨j + 1, A4, c4, L3, by omega, by go_num, rfl, hr4, F3.out.1, F3.out.2.1, F3.out.2.2, below_step (below_step hb hb3) hb4⟩
            case measure => simp [intOf]; omega
          · go_roundw
            case rel => exact ⟨j + 1, A3, c3, L2, by omega, by go_num, rfl, hr3, F2.out.1, F2.out.2.1, F2.out.2.2, below_step hb hb3⟩
            case measure => simp [intOf]; omega
        · have O1 := Lib.hid (open_bad A' n c' wr.heap.size L a wr hrL (Nat.le_refl _) hE)
          have F0 : Hid (handE L = 0 ∧ Stale L v ∧ L.length = n) := ⟨hC, hst, hLn⟩
          generalize openE L a = E at *
          have hE1 : (E != 0) = true := by simpa using hE
          have hE2 : (E == 0) = false := by simpa using hE
          clear hC hst hLn hE
          go_wp2_with (go_at_call 28; refine O1.out.mono ?_; rintro e w3 ⟨rfl, hb3⟩)
          go_roundw
          case rel => exact ⟨j + 1, A', c', L, by omega, by go_num, rfl, (hrL.below hb3).more hb3.size, F0.out.1, F0.out.2.1, F0.out.2.2, below_step hb hb3⟩
          case measure => simp [intOf]; omega
    · clear hC hst hLn
      go_wp2_with (go_at_call 29; refine HLk.out.mono ?_; rw [fin.out]; rintro e w3 ⟨rfl, hb3⟩)
      go_ret
      exact ⟨rfl, below_step hb hb3⟩

theorem handOnce_any (A : Option Addr) (n c : Nat) (l : List Slot) (v : Int) (A2 : Option Addr) (m c2 : Nat) (xs : List Int) (w : World) (hr : Reads w w.heap.size 3 A n (slotsC l)) (_ : n ≤ c) (_ : c ≤ maxLen) (hv : (Lit.int .u64 v).wf = true)
    (hr2 : Reads w w.heap.size 1 A2 m (xs.map (.int .i64))) (h3 : m ≤ c2) (h4 : c2 ≤ maxLen) (hx : ∀ x ∈ xs, (Lit.int .i64 x).wf = true) :
    Calls Try.prog 9 #[.slice A n c, .int .u64 v, .slice A2 m c2] w fun e w' => e = .returned (.bool true) ∧ Below w.heap.size w w' := by
  obtain ⟨v0, v1⟩ := bu64 hv
  by_cases hC : handE l = 0
  · cases hf : findS l v with
    | none => exact handOnce_bad A n c l v _ w hr v0 (by omega) (.inr hf)
    | some s => exact handOnce_ok A n c l v _ s A2 m c2 xs w hr v0 (by omega) hC (findS_some.1 hf) hr2 (by unfold maxLen at h4; omega) hx
  · exact handOnce_bad A n c l v _ w hr v0 (by omega) (.inl hC)

namespace HandOnce
open Go.ChangeShapes Go.WideShapes Go.ChangeAt Go.RowKit
theorem own : ownKnob Try.prog.godebug = none := by kernel_rfl
theorem laidOut : laidOutB Try.prog = true := by kernel_rfl

set_option maxRecDepth 100000 in
theorem lifted (os : Os) (started : os.Started) (H : Type) (enc : TypeId × Value → H) :
    ReturnsInHanded {} Try.checked os 9 .any (Rows.handOnceSpec.pre6 enc Try.prog Try.f9 Rows.handOnceRow.domain false) (Rows.handOnceSpec.post enc Try.prog Try.f9 false true false false) := by
  refine returnsInHanded_of_change (C := Try.checked) own started (by kernel_rfl) Try.func9
    (ChangeSpec.witness6 (enc := enc) (C := Try.checked) false ⟨#[], #[.slice none 0 0, .int .u64 0, .slice none 0 0], []⟩ 8 (by kernel_rfl) (by kernel_rfl) (by kernel_rfl) (by kernel_rfl)) ?_
  intro W base args ds gs before hval0 hW hcnd _
  have hval : ∀ (j : Nat) t v, Try.f9.params[j]? = some t → args[j]? = some v → Value.okWide Try.prog W .any base t v := hval0
  have hW' := hW
  obtain ⟨p, q, hA0, hV, rfl, hfz, hnd⟩ := hW
  have hA : DataW.TrodAll enc Try.prog W 0 (fun _ => true) true Try.f9.params.toList args.toList ds p := hA0
  rw [Try.params9] at hA hval
  obtain ⟨v0, vs0, d0, ds0, p0, q0, hargs, rfl, rfl, h0, hA⟩ := trodAll_cons hA
  obtain ⟨v1, vs1, d1, ds1, p1, q1, rfl, rfl, rfl, h1, hA⟩ := trodAll_cons hA
  obtain ⟨v2, vs2, d2, ds2, p2, q2, rfl, rfl, rfl, h2, hA⟩ := trodAll_cons hA
  obtain ⟨rfl, rfl, rfl⟩ := trodAll_nil hA
  obtain rfl : args = #[v0, v1, v2] := by cases args; simp_all
  obtain ⟨A0, n0, c0, l0, rfl, hnc0, hc0, hr0⟩ := open_slots (hval 0 _ v0 rfl rfl) (fun x hx => hW'.lt x (by simp [hx])) h0
  obtain ⟨i1, rfl, rfl, rfl, w1⟩ := open_int Try.underlying27 (hval 1 _ v1 rfl rfl) h1
  obtain ⟨A2, n2, c2, xs2, rfl, hnc2, hc2, hr2, hx2⟩ := open_nums Try.underlying57 Try.underlying3 (by kernel_rfl) (hval 2 _ v2 rfl rfl) (fun x hx => hW'.lt x (by simp [hx])) h2
  refine (handOnce_any A0 n0 c0 l0 i1 A2 n2 c2 xs2 W hr0 hnc0 hc0 w1 hr2 hnc2 hc2 hx2).mono fun e W' ⟨he, hb⟩ => ?_
  subst he
  exact ⟨_, rfl, law_post laidOut Try.underlying4 rfl (by kernel_rfl) rfl rfl hW' hb⟩

theorem proved : Rows.HandOnceSaid :=
  OpenClaim.holds_of_wide 9 Try.f9 rfl rfl rfl rfl rfl rfl rfl ⟨rfl, rfl, rfl, rfl, rfl⟩ rfl rfl rfl rfl rfl (by kernel_rfl) Try.func9 (by kernel_rfl)
    (of_decide_eq_true (by kernel_rfl)) (by unfold Func.isWrapper; first | (rw [if_pos (by decide +kernel)]; kernel_rfl) | (rw [if_neg (by decide +kernel)]; exact ⟨rfl, rfl⟩))
    (fun os started H enc _ => lifted os started H enc)
end HandOnce
end Go.Proofs.Ytdanffkcgogalaa
