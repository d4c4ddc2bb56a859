/-
  TwinBack answers true for all halves and numbers, and changes no argument: freeing a block directly after its allocation restores the allocator.
-/
import Derived.Test.YtdlmnnibgpfdbabTwinTaken
import Derived.Test.YtdlmnnibgpfdbabTwinGive
import Derived.Test.YtdlmnnibgpfdbabGood
import Derived.Test.YtdlmnnibgpfdbabSlicesRun
namespace Go.Proofs.Ytdlmnnibgpfdbab
open Go.RowKit

set_option maxRecDepth 100000 in
set_option maxHeartbeats 2000000 in
theorem twinBack_any (o : Int) (A : Option Addr) (n c : Nat) (l : List Rm) (N : Int) (w : World) (hr : Reads w w.heap.size 3 A n (roomsC l)) (hnc : n ≤ c) (hc : c ≤ maxLen) (wi : (Lit.int .i64 N).wf = true) :
    Calls Try.prog 5 #[.agg #[.int .i64 o, .slice A n c], .int .i64 N] w fun e w' => e = .returned (.bool true) ∧ Below w.heap.size w w' := by
  have hn : n ≤ 9223372036854775807 := by unfold maxLen at hc; omega
  have hb0 := below_new w (.cells #[.int .i64 o, .slice A n c] 24)
  have B0 := Blk.new w 24 #[.int .i64 o, .slice A n c]
  have H1 := Lib.hid (fun w hr => take_any o A n c l N w hr hn)
  clear hnc hc wi
  go_enter Try.func5, Try.ntmps5
  go_wp2_with fail
  refine (twins_true _).mono ?_
  rintro e w1 ⟨rfl, hb1⟩
  have hb01 := below_step hb0 hb1
  have B1 := B0.below hb1 B0.lt
  have k0 := B1.cell 0
  have k1 := B1.cell 1
  simp only [List.getElem?_toArray, List.getElem?_cons_zero, List.getElem?_cons_succ] at k0 k1
  clear hb0 B0 hb1
  go_wp2_with fail
  refine (H1.out _ ((hr.below hb01).more hb01.size)).mono ?_
  rintro e w2 ⟨hcase, hb2⟩
  have hb02 := below_step hb01 hb2
  have B2 := B1.below hb2 B1.lt
  rcases hcase with ⟨E, hE, rfl⟩ | ⟨K, u, A', c', a, j, i, rfl, rfl, hK, hC, hu, hF, h1, h2, hI, rfl, hown⟩
  · unfold takeNo
    have hE1 : (E != 0) = true := by simpa using hE
    clear hE H1
    go_wp2
    go_ret
    exact ⟨rfl, (hb02.alloc hb02.size _).alloc (by rw [World.size_alloc]; have := hb02.size; omega) _⟩
  · have hC2 : Chain K 0 (insRm l i ⟨a, ((2 ^ j : Nat) : Int), u⟩) := hC.insert hF.1 hF.2.1 hF.2.2.1 h1 (by omega) (Nat.zero_le _) hF.2.2.2 hI
    have hll : l.length = n := by have := hr.1; rw [roomsC_length] at this; omega
    have hlen := hC.len (Nat.zero_le _)
    have h256 : 2 ^ K ≤ 256 := Nat.pow_le_pow_right (by decide) hK
    have hix := ixOf_ins (l := l) (a := a) (i := i) (r := ⟨a, ((2 ^ j : Nat) : Int), u⟩) rfl hI
    have hdel := insRm_del hI.1 ⟨a, ((2 ^ j : Nat) : Int), u⟩
    have hin : i ≤ n := by have := hI.1; omega
    have hgl := tgapsL_length l K 0
    obtain ⟨d, hd⟩ : ∃ d, d = 2 ^ j := ⟨_, rfl⟩
    rw [← hd] at h1 h2 hown hC2 hix hdel ⊢
    obtain ⟨n1, hn1⟩ : ∃ n1, n1 = n + 1 := ⟨_, rfl⟩
    have HG := Lib.hid (fun W hr => give_ok K A' n1 c' _ a i W hr hK hC2 hix (by omega))
    rw [hdel, show n1 - 1 = n by omega] at HG
    rw [← hn1] at hown ⊢
    have HGa := Lib.hid (fun A c W hr => twinGaps_ok K A n c l W hr hK hC)
    have hn2 : n ≤ 256 := by omega
    generalize tgapsL l K 0 = G at *
    have hown := Reads.of_own hown
    have hb03 := (hb02.alloc hb02.size (.cells #[.int .i64 K, .slice A' n1 c'] 24)).alloc (by rw [World.size_alloc]; have := hb02.size; omega) (.cells #[.int .i64 a, .int .i64 d] 35)
    have D0 := (Blk.new w2 24 #[.int .i64 K, .slice A' n1 c']).alloc (.cells #[.int .i64 a, .int .i64 d] 35)
    have D1 := Blk.new (w2.alloc (.cells #[.int .i64 K, .slice A' n1 c'] 24)) 35 #[.int .i64 a, .int .i64 d]
    have hbn := (below_new w2 (.cells #[.int .i64 K, .slice A' n1 c'] 24)).alloc (by simp) (.cells #[.int .i64 a, .int .i64 d] 35)
    have B3 := B2.below hbn B2.lt
    have hrn := (hown.below hbn).more hbn.size
    simp only [World.size_alloc] at D1
    have hg256 : G.length ≤ 256 := by omega
    clear H1 hC2 hC hF hI hix hdel hd hn1 hll hlen hbn hown B2 k0 k1 hb2 hb02 h1 h2 h256 hgl
    have k0 := B3.cell 0
    have k1 := B3.cell 1
    have d0 := D0.cell 0
    have d1 := D0.cell 1
    have e0 := D1.cell 0
    have e1 := D1.cell 1
    simp only [List.getElem?_toArray, List.getElem?_cons_zero, List.getElem?_cons_succ] at k0 k1 d0 d1 e0 e1
    go_wp2_with fail
    refine (HG.out _ hrn).mono ?_
    rintro e w4 ⟨A4, c4, rfl, hown4, hb4⟩
    have hb04 := below_step hb03 hb4
    have B4 := B3.below hb4 B3.lt
    have hr4 := Reads.of_own hown4
    have hb5 := below_new w4 (.cells #[.int .i64 K, .slice A4 n c4] 24)
    have hb05 := below_step hb04 hb5
    have D := Blk.new w4 24 #[.int .i64 K, .slice A4 n c4]
    have B5 := B4.below hb5 B4.lt
    have hr5 := (hr4.below hb5).more hb5.size
    clear k0 k1 d0 d1 e0 e1 hown4 D0 D1 hrn hb03 B3 hr4
    have k0 := B5.cell 0
    have k1 := B5.cell 1
    have d0 := D.cell 0
    have d1 := D.cell 1
    simp only [List.getElem?_toArray, List.getElem?_cons_zero, List.getElem?_cons_succ] at k0 k1 d0 d1
    go_wp2_with fail
    refine (HGa.out _ _ _ ((hr.below hb05).more hb05.size)).mono ?_
    rintro e w6 ⟨A6, q6, c6, rfl, hown6, hb6⟩
    have hb06 := below_step hb05 hb6
    have B6 := B5.below hb6 B5.lt
    have D6 := D.below hb6 D.lt
    have hr6 := (hr5.below hb6).more hb6.size
    have hq6 : G.length = q6 := by have := hown6.1; rw [runsC_length] at this; omega
    have hg6 := Reads.of_own hown6
    clear k0 k1 d0 d1 hown6 D B5 hr5 hb05
    have k0 := B6.cell 0
    have k1 := B6.cell 1
    have d0 := D6.cell 0
    have d1 := D6.cell 1
    simp only [List.getElem?_toArray, List.getElem?_cons_zero, List.getElem?_cons_succ] at k0 k1 d0 d1
    go_wp2_with fail
    refine (HGa.out _ _ _ hr6).mono ?_
    rintro e w7 ⟨A7, q7, c7, rfl, hown7, hb7⟩
    have hb07 := below_step hb06 hb7
    have B7 := B6.below hb7 B6.lt
    have D7 := D6.below hb7 D6.lt
    have hr7 := (hr6.below hb7).more hb7.size
    have hg7 := Reads.of_own hown7
    have hg67 := (hg6.below hb7).more hb7.size
    obtain rfl : q7 = q6 := by have := hown7.1; rw [runsC_length] at this; omega
    clear k0 k1 d0 d1 hown7 D6 B6 hr6 hb06 hg6
    have hx := reads_new w7 [.int .i64 0, .int .i64 0, .int .i64 0] 27 3 1 rfl
    have hb8 := below_new w7 (.cells #[.int .i64 0, .int .i64 0, .int .i64 0] 27)
    have B8 := B7.below hb8 B7.lt
    have D8 := D7.below hb8 D7.lt
    have hb08 := below_step hb07 hb8
    have hrA := (hr.below hb08).more hb08.size
    have hrY := (hr7.below hb8).more hb8.size
    have hG1 := (hg67.below hb8).more hb8.size
    have hG2 := (hg7.below hb8).more hb8.size
    have HE := Lib.hid (equal_room A4 A n c4 c _ _ l _ hrY hrA (by omega))
    have HE2 := Lib.hid (fun q => equal_run A6 A7 q7 c6 c7 _ _ G (World.drewN _ q) (hG1.below (below_drewN (Below.refl _ _) q)) (hG2.below (below_drewN (Below.refl _ _) q)) (by omega))
    have k0 := B8.cell 0
    have k1 := B8.cell 1
    have d0 := D8.cell 0
    have d1 := D8.cell 1
    simp only [List.getElem?_toArray, List.getElem?_cons_zero, List.getElem?_cons_succ] at k0 k1 d0 d1
    have HX := Lib.hid (good_any (some ⟨w7.heap.size, 0, none⟩) 3 3 _ [0, 0, 0] _ (by simpa using hx) (by decide))
    clear hx hb8 hrA hrY hG1 hG2 hq6 hg256 hg7 hg67 hr7 B7 D7 hb7 hb6 hb5 hb4
    go_wp2_with fail
    refine HX.out.mono ?_
    rintro e w9 ⟨rfl, rfl⟩
    go_wp2_with fail
    refine HE.out.mono ?_
    rintro e w10 ⟨rfl, q1, rfl⟩
    go_wp2_with fail
    refine (HE2.out q1).mono ?_
    rintro e w11 ⟨rfl, q2, rfl⟩
    go_wp2
    go_ret
    exact ⟨by first | rfl | simp, below_drewN hb08 _⟩

namespace TwinBack
open Go.ChangeShapes Go.WideShapes Go.ChangeAt Go.RowKit
theorem own : ownKnob Try.prog.godebug = none := by kernel_rfl
theorem laidOut : laidOutB Try.prog = true := by kernel_rfl

set_option maxRecDepth 100000 in
theorem lifted (os : Os) (started : os.Started) (H : Type) (enc : TypeId × Value → H) :
    ReturnsInHanded {} Try.checked os 5 .any (Rows.twinBackSpec.pre6 enc Try.prog Try.f5 Rows.twinBackRow.domain false) (Rows.twinBackSpec.post enc Try.prog Try.f5 false true false false) := by
  refine returnsInHanded_of_change (C := Try.checked) own started (by as_aux_lemma => kernel_rfl) Try.func5
    (ChangeSpec.witness6 (enc := enc) (C := Try.checked) false ⟨#[], #[.agg #[.int .i64 0, .slice none 0 0], .int .i64 0], []⟩ 8 (by as_aux_lemma => kernel_rfl) (by as_aux_lemma => kernel_rfl) (by as_aux_lemma => kernel_rfl) (by as_aux_lemma => kernel_rfl)) ?_
  intro W base args ds gs before hval0 hW hcnd _
  have hval : ∀ (j : Nat) t v, Try.f5.params[j]? = some t → args[j]? = some v → Value.okWide Try.prog W .any base t v := hval0
  have hW' := hW
  obtain ⟨p, q, hA0, hV, rfl, hfz, hnd⟩ := hW
  have hA : DataW.TrodAll enc Try.prog W 0 (fun _ => true) true Try.f5.params.toList args.toList ds p := hA0
  rw [Try.params5] at hA hval
  obtain ⟨v0, vs0, d0, ds0, p0, q0, hargs, rfl, rfl, h0, hA⟩ := trodAll_cons hA
  obtain ⟨v1, vs1, d1, ds1, p1, q1, rfl, rfl, rfl, h1, hA⟩ := trodAll_cons hA
  obtain ⟨rfl, rfl, rfl⟩ := trodAll_nil hA
  obtain rfl : args = #[v0, v1] := by cases args; simp_all
  obtain ⟨o0, A0, n0, c0, l0, rfl, hnc0, hc0, hr0⟩ := open_halves (hval 0 _ v0 rfl rfl) (fun x hx => hW'.lt x (by simp [hx])) h0
  obtain ⟨i1, rfl, rfl, rfl, w1⟩ := open_int Try.underlying3 (hval 1 _ v1 rfl rfl) h1
  refine (twinBack_any o0 A0 n0 c0 l0 i1 W hr0 hnc0 hc0 w1).mono fun e W' ⟨he, hb⟩ => ?_
  subst he
  exact ⟨_, rfl, law_post laidOut Try.underlying4 rfl (by as_aux_lemma => kernel_rfl) rfl rfl hW' hb⟩

set_option maxHeartbeats 10000000 in
theorem closed : joinedFacts Try.prog 5 Try.f5 Rows.twinBackSpec Rows.twinBackRow = true := by
  unfold joinedFacts
  simp only [Bool.and_eq_true]
  repeat' apply And.intro
  all_goals as_aux_lemma => kernel_rfl

set_option maxHeartbeats 1000000 in
theorem proved : Rows.TwinBackSaid :=
  OpenClaim.holds_of_wide 5 Try.f5 rfl rfl rfl rfl rfl rfl rfl ⟨rfl, rfl, rfl, rfl, rfl⟩ rfl rfl rfl rfl rfl (by as_aux_lemma => kernel_rfl) Try.func5 closed
    (of_decide_eq_true (by as_aux_lemma => kernel_rfl)) (by unfold Func.isWrapper; first | (rw [if_pos (by decide +kernel)]; kernel_rfl) | (rw [if_neg (by decide +kernel)]; exact ⟨rfl, rfl⟩))
    (fun os started H enc _ => lifted os started H enc)
end TwinBack
end Go.Proofs.Ytdlmnnibgpfdbab
