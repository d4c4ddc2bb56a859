/-
  TwinTaken answers true for all halves and numbers, and changes no argument: an allocated block does not overlap others and is at least as long as requested and less than twice as long.
-/
import Derived.Test.YtdlmnnibgpfdbabTwinTake
import Derived.Test.YtdlmnnibgpfdbabTwinsTrue
import Derived.Test.YtdlmnnibgpfdbabLaw
import Derived.Test.YtdlmnnibgpfdbabLawHalves
import Derived.BigQuiet
namespace Go.Proofs.Ytdlmnnibgpfdbab
open Go.RowKit

theorem take_any (o : Int) (A : Option Addr) (n c : Nat) (l : List Rm) (N : Int) (w : World) (hr : Reads w w.heap.size 3 A n (roomsC l)) (hn : n ≤ 9223372036854775807) :
    Calls Try.prog 12 #[.agg #[.int .i64 o, .slice A n c], .int .i64 N] w fun e w' => ((∃ E, E ≠ 0 ∧ e = .returned (takeNo E)) ∨ ∃ K u A' c' a j i, o = ((K : Nat) : Int) ∧ N = ((u : Nat) : Int) ∧ K ≤ 8 ∧ Chain K 0 l ∧ 1 ≤ u ∧ FreeP l K a j ∧ u ≤ 2 ^ j ∧ 2 ^ j < 2 * u ∧ AtIx l a i ∧
      e = .returned (.tuple #[.agg #[.int .i64 o, .slice A' (n + 1) c'], .agg #[.int .i64 a, .int .i64 ((2 ^ j : Nat) : Int)], .int .i64 0]) ∧ w'.ownsRow w.heap.size 33 3 (.slice A' (n + 1) c') (n + 1) (roomsC (insRm l i ⟨a, ((2 ^ j : Nat) : Int), u⟩))) ∧ Below w.heap.size w w' := by
  by_cases hE : twinE o l = 0
  · obtain ⟨K, hK, rfl, hC⟩ := twinE_iff.1 hE
    by_cases hN : N < 1 ∨ ((2 ^ K : Nat) : Int) < N
    · refine (take_range K A n c l N w hr hK hC hN).mono ?_
      rintro e w' ⟨rfl, hb⟩
      exact ⟨.inl ⟨4, by decide, rfl⟩, hb⟩
    · obtain ⟨u, rfl⟩ : ∃ u : Nat, N = u := ⟨N.toNat, by omega⟩
      refine (take_ok K A n c l u w hr hK hC (by omega) (by omega)).mono ?_
      rintro e w' ⟨h, hb⟩
      refine ⟨?_, hb⟩
      rcases h with h | ⟨A', c', a, j, i, h1, h2, h3, h4, h5, h6⟩
      · exact .inl ⟨7, by decide, h⟩
      · exact .inr ⟨K, u, A', c', a, j, i, rfl, rfl, hK, hC, by omega, h1, h2, h3, h4, h5, h6⟩
  · refine (take_bad o A n c l N w hr hn hE).mono ?_
    rintro e w' ⟨rfl, hb⟩
    exact ⟨.inl ⟨_, hE, rfl⟩, hb⟩

set_option maxHeartbeats 400000 in
theorem takenMeets_any (a L : Nat) (r : Rm) (g : Nat) (w : World) (ha : a ≤ 1000) (hL : L ≤ 1000) (h0 : 0 ≤ r.loc) (h1 : 0 ≤ r.len) (h2 : r.loc + r.len ≤ 1000)
    (b1 : g < w.heap.size) (c1 : w.cell? ⟨g, 0, none⟩ = some (.int .i64 a)) (c2 : w.cell? ⟨g, 1, none⟩ = some (.int .i64 L)) :
    Calls Try.prog 15 #[.agg #[.int .i64 r.loc, .int .i64 r.len, .int .i64 r.used], .pointer (some ⟨g, 0, none⟩)] w fun e w' => e = .returned (.bool (meetsB a L r)) ∧ Below w.heap.size w w' := by
  obtain ⟨x, y, z⟩ := r
  dsimp only at *
  have hb := below_new w (.cells #[.int .i64 x, .int .i64 y, .int .i64 z] 33)
  have d1 : ∀ o, (w.alloc o).cell? ⟨g, 0, none⟩ = some (.int .i64 a) := fun o => by rw [World.cell?_alloc_lt _ _ _ (by exact b1)]; exact c1
  have d2 : ∀ o, (w.alloc o).cell? ⟨g, 1, none⟩ = some (.int .i64 L) := fun o => by rw [World.cell?_alloc_lt _ _ _ (by exact b1)]; exact c2
  obtain ⟨X, rfl⟩ : ∃ X : Nat, x = X := ⟨x.toNat, by omega⟩
  obtain ⟨Y, rfl⟩ : ∃ Y : Nat, y = Y := ⟨y.toNat, by omega⟩
  obtain ⟨S, hS⟩ : ∃ S, S = a + L := ⟨_, rfl⟩
  obtain ⟨T, hT⟩ : ∃ T, T = X + Y := ⟨_, rfl⟩
  have w1 : IntKind.i64.wrap ((a : Int) + L) = S := by rw [IntWalk.i64_in _ (by omega)]; omega
  have w2 : IntKind.i64.wrap ((X : Int) + Y) = T := by rw [IntWalk.i64_in _ (by omega)]; omega
  have hm : meetsB a L ⟨X, Y, z⟩ = (decide (X < S) && decide (a < T)) := by
    unfold meetsB
    dsimp only
    congr 1 <;> exact decide_eq_decide.2 (by omega)
  rw [hm]
  clear hm hS hT c1 c2 h0 h1 h2
  by_cases h1 : X < S
  · rw [decide_eq_true h1, Bool.true_and]
    have e1 : decide (X < S) = true := decide_eq_true h1
    go_enter Try.func15, Try.ntmps15
    go_wp2
    go_ret
    exact ⟨rfl, hb⟩
  · rw [decide_eq_false h1, Bool.false_and]
    have e1 : decide (X < S) = false := decide_eq_false h1
    go_enter Try.func15, Try.ntmps15
    go_wp2
    go_ret
    exact ⟨rfl, hb⟩

set_option maxRecDepth 100000 in
set_option maxHeartbeats 2000000 in
theorem twinTaken_any (o : Int) (A : Option Addr) (n c : Nat) (l : List Rm) (N : Int) (w : World) (hr : Reads w w.heap.size 3 A n (roomsC l)) (hnc : n ≤ c) (hc : c ≤ maxLen) (wi : (Lit.int .i64 N).wf = true) :
    Calls Try.prog 4 #[.agg #[.int .i64 o, .slice A n c], .int .i64 N] w fun e w' => e = .returned (.bool true) ∧ Below w.heap.size w w' := by
  have hn : n ≤ 9223372036854775807 := by unfold maxLen at hc; omega
  have hb0 := below_new w (.cells #[.int .i64 o, .slice A n c] 24)
  have B0 := Blk.new w 24 #[.int .i64 o, .slice A n c]
  have H1 := Lib.hid (fun w hr => take_any o A n c l N w hr hn)
  clear hnc hc wi
  go_enter Try.func4, Try.ntmps4
  go_wp2_with fail
  refine (twins_true _).mono ?_
  rintro e w1 ⟨rfl, hb1⟩
  have hb01 := below_step hb0 hb1
  have B1 := B0.below hb1 B0.lt
  have k0 := B1.cell 0
  have k1 := B1.cell 1
  simp only [List.getElem?_toArray, List.getElem?_cons_zero, List.getElem?_cons_succ] at k0 k1
  clear hb0 B0 hb1
  go_wp2_with fail
  refine (H1.out _ ((hr.below hb01).more hb01.size)).mono ?_
  rintro e w2 ⟨hcase, hb2⟩
  have hb02 := below_step hb01 hb2
  have B2 := B1.below hb2 B1.lt
  rcases hcase with ⟨E, hE, rfl⟩ | ⟨K, u, A', c', a, j, i, rfl, rfl, hK, hC, hu, hF, h1, h2, hI, rfl, hown⟩
  · unfold takeNo
    have hE1 : (E != 0) = true := by simpa using hE
    clear hE H1
    go_wp2
    go_ret
    exact ⟨rfl, (hb02.alloc hb02.size _).alloc (by rw [World.size_alloc]; have := hb02.size; omega) _⟩
  · have hC2 : Chain K 0 (insRm l i ⟨a, ((2 ^ j : Nat) : Int), u⟩) := hC.insert hF.1 hF.2.1 hF.2.2.1 h1 (by omega) (Nat.zero_le _) hF.2.2.2 hI
    have hE2 : twinE K (insRm l i ⟨a, ((2 ^ j : Nat) : Int), u⟩) = 0 := twinE_iff.2 ⟨K, hK, rfl, hC2⟩
    have hlen := hC.len (Nat.zero_le _)
    have hll : l.length = n := by have := hr.1; rw [roomsC_length] at this; omega
    have h256 : 2 ^ K ≤ 256 := Nat.pow_le_pow_right (by decide) hK
    have hrooms := hC.rooms hK
    have hF2 := hF.2.1
    have hF3 := hF.2.2.2
    obtain ⟨d, hd⟩ : ∃ d, d = 2 ^ j := ⟨_, rfl⟩
    rw [← hd] at hF2 hF3 h1 h2 hown hE2
    obtain ⟨n1, hn1⟩ : ∃ n1, n1 = n + 1 := ⟨_, rfl⟩
    rw [← hn1] at hown
    have HCk := Lib.hid (fun w hr => twinCheck_any K A' n1 c' (insRm l i ⟨a, (d : Int), u⟩) w hr (by omega))
    rw [hE2] at HCk
    obtain ⟨dd, hdd⟩ : ∃ dd, dd = 2 * u := ⟨_, rfl⟩
    have w3 : IntKind.i64.wrap (2 * (u : Int)) = (dd : Int) := by rw [IntWalk.i64_in _ (by omega)]; omega
    have w4 : IntKind.i64.wrap ((n : Int) + 1) = (n1 : Int) := by rw [IntWalk.i64_in _ (by omega)]; omega
    have g1 : decide (d < u) = false := decide_eq_false (by omega)
    have g2 : decide (dd ≤ d) = false := decide_eq_false (by omega)
    have g3 : (n1 != n1) = false := by simp
    have hown := Reads.of_own hown
    have hb03 := (hb02.alloc hb02.size (.cells #[.int .i64 K, .slice A' n1 c'] 24)).alloc (by rw [World.size_alloc]; have := hb02.size; omega) (.cells #[.int .i64 a, .int .i64 d] 35)
    have D0 := (Blk.new w2 24 #[.int .i64 K, .slice A' n1 c']).alloc (.cells #[.int .i64 a, .int .i64 d] 35)
    have D1 := Blk.new (w2.alloc (.cells #[.int .i64 K, .slice A' n1 c'] 24)) 35 #[.int .i64 a, .int .i64 d]
    have hbn := (below_new w2 (.cells #[.int .i64 K, .slice A' n1 c'] 24)).alloc (by simp) (.cells #[.int .i64 a, .int .i64 d] 35)
    have B3 := B2.below hbn B2.lt
    have hrn := (hown.below hbn).more hbn.size
    simp only [World.size_alloc] at D1
    rw [← hd, ← hn1]
    have ha : a ≤ 256 := by omega
    have hd2 : d ≤ 256 := by omega
    have hn2 : n ≤ 256 := by omega
    clear H1 hE2 hC2 hC hF hI hd hn1 hdd hlen hll hbn hown hF2 B2 k0 k1 hb2 hb02
    have k0 := B3.cell 0
    have k1 := B3.cell 1
    have d0 := D0.cell 0
    have d1 := D0.cell 1
    have e0 := D1.cell 0
    have e1 := D1.cell 1
    simp only [List.getElem?_toArray, List.getElem?_cons_zero, List.getElem?_cons_succ] at k0 k1 d0 d1 e0 e1
    go_wp2_with fail
    refine (HCk.out _ hrn).mono ?_
    rintro e w4 ⟨rfl, hb4⟩
    have hb04 := below_step hb03 hb4
    have B4 := B3.below hb4 B3.lt
    have D0 := D0.below hb4 D0.lt
    have D1 := D1.below hb4 D1.lt
    have HCn := containsRoom_any 15 (.pointer (some ⟨w2.heap.size + 1, 0, none⟩)) A n c _ l (meetsB a d) w4 (hr.below hb04) hb04.size (by omega) (plain_of (fn := Try.f15) Try.func15 (by kernel_rfl) (by kernel_rfl)) (fun w' s hb' hs' => by
      obtain ⟨h0, h1, h2⟩ := hrooms s hs'
      exact takenMeets_any a d s _ w' (by omega) (by omega) h0 h1 h2 (by have := hb'.size; have := D1.lt; omega) ((D1.below hb' D1.lt).cell 0) ((D1.below hb' D1.lt).cell 1))
    rw [hF3] at HCn
    have HCn := Lib.hid HCn
    clear k0 k1 d0 d1 e0 e1
    have k0 := B4.cell 0
    have k1 := B4.cell 1
    have d0 := D0.cell 0
    have d1 := D0.cell 1
    have e0 := D1.cell 0
    have e1 := D1.cell 1
    simp only [List.getElem?_toArray, List.getElem?_cons_zero, List.getElem?_cons_succ] at k0 k1 d0 d1 e0 e1
    clear hF3 hrooms
    go_wp2_with fail
    refine HCn.out.mono ?_
    rintro e w5 ⟨rfl, hb5⟩
    go_wp2
    go_ret
    exact ⟨rfl, below_step hb04 hb5⟩

namespace TwinTaken
open Go.ChangeShapes Go.WideShapes Go.ChangeAt Go.RowKit
theorem own : ownKnob Try.prog.godebug = none := by kernel_rfl
theorem laidOut : laidOutB Try.prog = true := by kernel_rfl

set_option maxRecDepth 100000 in
theorem lifted (os : Os) (started : os.Started) (H : Type) (enc : TypeId × Value → H) :
    ReturnsInHanded {} Try.checked os 4 .any (Rows.twinTakenSpec.pre6 enc Try.prog Try.f4 Rows.twinTakenRow.domain false) (Rows.twinTakenSpec.post enc Try.prog Try.f4 false true false false) := by
  refine returnsInHanded_of_change (C := Try.checked) own started (by as_aux_lemma => kernel_rfl) Try.func4
    (ChangeSpec.witness6 (enc := enc) (C := Try.checked) false ⟨#[], #[.agg #[.int .i64 0, .slice none 0 0], .int .i64 0], []⟩ 8 (by as_aux_lemma => kernel_rfl) (by as_aux_lemma => kernel_rfl) (by as_aux_lemma => kernel_rfl) (by as_aux_lemma => kernel_rfl)) ?_
  intro W base args ds gs before hval0 hW hcnd _
  have hval : ∀ (j : Nat) t v, Try.f4.params[j]? = some t → args[j]? = some v → Value.okWide Try.prog W .any base t v := hval0
  have hW' := hW
  obtain ⟨p, q, hA0, hV, rfl, hfz, hnd⟩ := hW
  have hA : DataW.TrodAll enc Try.prog W 0 (fun _ => true) true Try.f4.params.toList args.toList ds p := hA0
  rw [Try.params4] at hA hval
  obtain ⟨v0, vs0, d0, ds0, p0, q0, hargs, rfl, rfl, h0, hA⟩ := trodAll_cons hA
  obtain ⟨v1, vs1, d1, ds1, p1, q1, rfl, rfl, rfl, h1, hA⟩ := trodAll_cons hA
  obtain ⟨rfl, rfl, rfl⟩ := trodAll_nil hA
  obtain rfl : args = #[v0, v1] := by cases args; simp_all
  obtain ⟨o0, A0, n0, c0, l0, rfl, hnc0, hc0, hr0⟩ := open_halves (hval 0 _ v0 rfl rfl) (fun x hx => hW'.lt x (by simp [hx])) h0
  obtain ⟨i1, rfl, rfl, rfl, w1⟩ := open_int Try.underlying3 (hval 1 _ v1 rfl rfl) h1
  refine (twinTaken_any o0 A0 n0 c0 l0 i1 W hr0 hnc0 hc0 w1).mono fun e W' ⟨he, hb⟩ => ?_
  subst he
  exact ⟨_, rfl, law_post laidOut Try.underlying4 rfl (by as_aux_lemma => kernel_rfl) rfl rfl hW' hb⟩

set_option maxHeartbeats 10000000 in
theorem closed : joinedFacts Try.prog 4 Try.f4 Rows.twinTakenSpec Rows.twinTakenRow = true := by
  unfold joinedFacts
  simp only [Bool.and_eq_true]
  repeat' apply And.intro
  all_goals as_aux_lemma => kernel_rfl

set_option maxHeartbeats 1000000 in
theorem proved : Rows.TwinTakenSaid :=
  OpenClaim.holds_of_wide 4 Try.f4 rfl rfl rfl rfl rfl rfl rfl ⟨rfl, rfl, rfl, rfl, rfl⟩ rfl rfl rfl rfl rfl (by as_aux_lemma => kernel_rfl) Try.func4 closed
    (of_decide_eq_true (by as_aux_lemma => kernel_rfl)) (by unfold Func.isWrapper; first | (rw [if_pos (by decide +kernel)]; kernel_rfl) | (rw [if_neg (by decide +kernel)]; exact ⟨rfl, rfl⟩))
    (fun os started H enc _ => lifted os started H enc)
end TwinTaken
end Go.Proofs.Ytdlmnnibgpfdbab
