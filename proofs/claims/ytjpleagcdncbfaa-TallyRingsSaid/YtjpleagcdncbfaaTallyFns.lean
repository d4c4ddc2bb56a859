/-
  package tally: Counts; the closed fact 'tallies'.
-/
import Derived.Test.YtjpleagcdncbfaaTallyCounter
import Derived.Test.YtjpleagcdncbfaaTintFns
namespace Go.Proofs.Ytjpleagcdncbfaa
open Go.RowKit

set_option maxHeartbeats 400000 in
theorem counts_bad (A : Option Addr) (n c : Nat) (a : List Int) (A2 : Option Addr) (n2 c2 : Nat) (w : World) (hr : Reads w w.heap.size 1 A n (a.map (.int .u64))) (hnc : n ≤ c) (ha : ∀ x ∈ a, (Lit.int .u64 x).wf = true) (hE : checkE a ≠ 0) :
    Calls Try.prog 27 #[.slice A n c, .slice A2 n2 c2] w fun e w' => e = .returned (.tuple #[.slice none 0 0, .int .i64 (checkE a)]) ∧ Below w.heap.size w w' := by
  have H := Lib.hid (fun w hr => counter_bad A n c a A2 n2 c2 w hr hnc ha hE)
  have hE1 : (checkE a != 0) = true := by simpa using hE
  generalize checkE a = E at *
  clear hE
  go_enter Try.func27, Try.ntmps27
  go_wp2_with fail
  refine (H.out _ hr).mono ?_
  rintro e w1 ⟨rfl, hb1⟩
  go_wp2
  go_ret2
  exact ⟨rfl, hb1⟩

def countsL (l xs : List Int) : List Int := xs.map fun x => (l.count x : Int)

set_option maxRecDepth 100000 in
set_option maxHeartbeats 2000000 in
theorem counts_ok (A : Option Addr) (n c : Nat) (a : List Int) (A2 : Option Addr) (n2 c2 : Nat) (f : List Int) (w : World) (hr : Reads w w.heap.size 1 A n (a.map (.int .u64))) (hnc : n ≤ c) (ha : ∀ x ∈ a, (Lit.int .u64 x).wf = true)
    (hr2 : Reads w w.heap.size 1 A2 n2 (f.map (.int .i64))) (hn2 : n2 ≤ 1000000000000000000) (hx2 : ∀ x ∈ f, (Lit.int .i64 x).wf = true) (hE : checkE a = 0) :
    Calls Try.prog 27 #[.slice A n c, .slice A2 n2 c2] w fun e w' => Below w.heap.size w w' ∧
      (((∀ x ∈ f, x ∈ begsL (spotsL a)) ∧ ∃ A' c', e = .returned (.tuple #[.slice A' (begsL (spotsL a)).length c', .int .i64 0]) ∧ w'.ownsRow w.heap.size 3 1 (.slice A' (begsL (spotsL a)).length c') (begsL (spotsL a)).length ((countsL (allLinks a (spotsL a) ++ f) (begsL (spotsL a))).map (.int .i64))) ∨
       ((∃ x ∈ f, x ∉ begsL (spotsL a)) ∧ e = .returned (.tuple #[.slice none 0 0, .int .i64 5]))) := by
  have h0 := (checkE_ok.1 hE).1
  have H := Lib.hid (fun w hr hr2 => counter_ok A n c a A2 n2 c2 f w hr hnc ha hr2 hn2 hx2 hE)
  have HBb := Lib.hid (begsL_bounds h0)
  have hkb : (begsL (spotsL a)).length ≤ 256 := by
    unfold begsL
    rw [List.length_map]
    have := List.length_filter_le (fun s : Spot => !s.f) (spotsL a)
    have := spotsL_length a
    omega
  generalize spotsL a = S at *
  generalize allLinks a S ++ f = l at *
  obtain ⟨i0, hi, hz0, hz1, hz2⟩ := info_parts info_int
  clear hE h0 ha hx2
  go_enter Try.func27, Try.ntmps27
  go_wp2_with fail
  refine (H.out _ hr hr2).mono ?_
  rintro e w1 ⟨hb1, ⟨hall, gh, rfl, hC⟩ | ⟨hex, rfl⟩⟩
  · have HALL := Lib.hid hall
    obtain ⟨b1, b2, R0, N1, N2, Ao, k, co, f1, gB, g1, g2, g3, g4, g5, g6, g7, g8, gM1, gM2, g9, g10, g11, gO, gK, gF⟩ := hC
    have hrO := Reads.of_own gO
    have k0 := gB.cell 0
    have k2 := gB.cell 2
    simp only [List.getElem?_toArray, List.getElem?_cons_zero, List.getElem?_cons_succ] at k0 k2
    have HK := Lib.hid g11
    rw [← g11] at hkb
    have hM2l := gM2.lt
    have hBl := gB.lt
    clear hall gM1 gO gK gF g9 g10 g11 g1 g2 g3 g4 g5 g6 g7 g8
    go_wp2
    go_loopw [8, 10, 25] (fun o _ i wr => ∃ (j c' : Nat) (A' : Option Addr), j ≤ k ∧ i = .int .i64 j ∧ o = .slice A' j c' ∧ Hid (wr.ownsRow w1.heap.size 3 1 (.slice A' j c') j ((countsL l ((begsL S).take j)).map (.int .i64))) ∧ Below w1.heap.size w1 wr) (fun _ _ i _ => k - (intOf i).toNat)
    case atStart => exact ⟨0, 0, none, Nat.zero_le _, rfl, rfl, World.ownsRow_nil _ _ _ _, Below.refl _ _⟩
    case round =>
      obtain ⟨j, c', A', hj, rfl, rfl, HO, hb⟩ := hrel
      by_cases hlt : j < k
      · obtain ⟨ad, x, rfl, had, hx, cx⟩ := (hrO.below hb).num hlt
        have hxb := HBb.out x (List.mem_of_getElem? hx)
        have hwx : (Lit.int .i64 x).wf = true := by simp [Lit.wf, IntKind.min, IntKind.max, IntKind.signed, IntKind.bits]; omega
        have gBr := gB.below hb hBl
        have k2r := gBr.cell 2
        simp only [List.getElem?_toArray, List.getElem?_cons_zero, List.getElem?_cons_succ] at k2r
        have hlC := (gM2.below hb hM2l).look (k := 3) (t := 49) Try.underlying3 Try.underlying49 (zero_intv _) hwx
        rw [manyF_get] at hlC
        have HT : Hid (countsL l ((begsL S).take (j + 1)) = countsL l ((begsL S).take j) ++ [(l.count x : Int)]) := by
          show _ = _
          obtain ⟨q1, q2⟩ := List.getElem?_eq_some_iff.1 hx
          unfold countsL
          rw [List.take_succ_eq_append_getElem q1, List.map_append, q2]
          rfl
        generalize (l.count x : Int) = C at *
        have hrn := reads_new wr [.int .i64 C] 3 1 1 rfl
        have hOy := HO.out.alloc (.cells #[.int .i64 C] 3)
        have hby := hb.alloc hb.size (.cells #[.int .i64 C] 3)
        have hws := hb.size
        have hj1 : j + 1 ≤ k := hlt
        clear hx hxb gBr HO
        go_wp2_with (at_builtin; refine wpList_append_any _ rfl (.tmp 29) (.tmp 36) 23 rfl w1.heap.size 3 i0 (.int .i64 0) 1 8 Try.underlying23 hi hz0 hz1 hz2 rfl (by decide) (.slice A' j c') j _ rfl hOy _ (some ⟨wr.heap.size, 0, none⟩) 1 1 [.int .i64 C] rfl hrn (by simp [Value.oneCell']) (by unfold maxLen; omega) (by omega) (by simp; omega) ?_; rintro v' w3 hown3 hgr - -; obtain ⟨A5, c5, rfl⟩ := own_slice hown3)
        go_roundw
        case rel =>
          refine ⟨j + 1, c5, A5, hj1, by go_num, rfl, ?_, hby.grown hgr hby.size (fun g hg => by have := (hOy.lt g hg).1; omega)⟩
          show World.ownsRow _ _ _ _ _ _ _
          rw [HT.out, List.map_append]
          exact hown3
        case measure => simp [intOf]; omega
      · have hjk : j = k := by omega
        have HO2 : Hid (wr.ownsRow w.heap.size 3 1 (.slice A' k c') k ((countsL l (begsL S)).map (.int .i64))) := by
          have := HO.out
          rw [hjk, List.take_of_length_le (by rw [← HK.out]; exact Nat.le_refl _)] at this
          exact own_mono this hb1.size
        have HJ := Lib.hid hjk
        have g0 : decide (j < k) = false := decide_eq_false hlt
        clear hjk HO
        go_wp2
        go_ret2
        refine ⟨below_step hb1 hb, .inl ⟨HALL.out, A', c', ?_, ?_⟩⟩
        · rw [← HK.out, HJ.out]; rfl
        · rw [← HK.out]; exact HO2.out
  · have HEX := Lib.hid hex
    clear hex
    go_wp2
    go_ret2
    exact ⟨hb1, .inr ⟨HEX.out, rfl⟩⟩

theorem tallies_facts : checkE [1, 1] = 0 ∧ spotsL [1, 1] = [⟨0, 1, 0, 0, false⟩] ∧ begsL (spotsL [1, 1]) = [0] ∧ countsL (allLinks [1, 1] (spotsL [1, 1]) ++ [0]) (begsL (spotsL [1, 1])) = [2] := by decide

set_option maxHeartbeats 400000 in
theorem tallies_true (w : World) : Calls Try.prog 6 #[] w fun e w' => e = .returned (.bool true) ∧ Below w.heap.size w w' := by
  have H := Lib.hid (fun A A2 w hr hr2 => counts_ok A 2 2 [1, 1] A2 1 1 [0] w hr (by decide) (by decide) hr2 (by decide) (by decide) tallies_facts.1)
  rw [tallies_facts.2.2.2, tallies_facts.2.2.1] at H
  have hn1 := reads_new w [.int .u64 1, .int .u64 1] 72 2 1 rfl
  have hb1 := below_new w (.cells #[.int .u64 1, .int .u64 1] 72)
  have hn2 := reads_new (w.alloc (.cells #[.int .u64 1, .int .u64 1] 72)) [.int .i64 0] 3 1 1 rfl
  have hb2 := below_new (w.alloc (.cells #[.int .u64 1, .int .u64 1] 72)) (.cells #[.int .i64 0] 3)
  have hn3 := (hn1.below (hb2.mono (by simp))).more (show w.heap.size + 1 ≤ ((w.alloc (.cells #[.int .u64 1, .int .u64 1] 72)).alloc (.cells #[.int .i64 0] 3)).heap.size by simp)
  simp only [World.size_alloc] at hn2
  have HS := fun w : World => (show Calls Try.prog 28 #[] w fun e w' => e = .returned (.slice (some ⟨w.heap.size, 0, none⟩) 2 2) ∧ w' = w.alloc (.cells #[.int .u64 1, .int .u64 1] 72) by
    go_enter Try.func28, Try.ntmps28
    go_wp2
    go_ret
    exact ⟨rfl, rfl⟩)
  have HS := Lib.hid HS
  go_enter Try.func6, Try.ntmps6
  go_wp2_with fail
  refine (HS.out _).mono ?_
  rintro e w1 ⟨rfl, rfl⟩
  go_wp2_with fail
  refine (H.out _ _ _ (by simpa using hn3) (by simpa using hn2)).mono ?_
  rintro e w2 ⟨hb3, ⟨-, A', c', rfl, hown⟩ | ⟨⟨x, hx, hx2⟩, -⟩⟩
  · obtain ⟨g, cap, hv, hg, -⟩ := hown.form (by decide)
    obtain ⟨rfl, rfl⟩ : A' = some ⟨g, 0, none⟩ ∧ c' = cap := by simpa using hv
    have hc := hown.cellAt 0 (by decide)
    simp at hc
    clear hown hv
    go_wp2
    go_ret
    exact ⟨by first | rfl | simp, below_step (below_step hb1 hb2) hb3⟩
  · exact absurd hx hx2
end Go.Proofs.Ytjpleagcdncbfaa
