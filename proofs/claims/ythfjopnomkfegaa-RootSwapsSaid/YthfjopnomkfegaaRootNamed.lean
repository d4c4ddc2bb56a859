/-
  RootNamed answers true for all roots and numbers, and changes no argument: Named returns exactly the words in the slots, and a slot contains what it was set to.
-/
import Derived.Test.YthfjopnomkfegaaRootFn
import Derived.Test.YthfjopnomkfegaaContainsInt
import Derived.Test.YthfjopnomkfegaaSlicesInt
import Derived.Test.YthfjopnomkfegaaLaw
import Derived.Test.YthfjopnomkfegaaLawNums
import Derived.BigQuiet
namespace Go.Proofs.Ythfjopnomkfegaa
open Go.RowKit

set_option maxHeartbeats 400000 in
theorem isNaN_int (x : Int) (w : World) : Calls Try.prog 86 #[.int .i64 x] w fun e w' => e = .returned (.bool false) ∧ w' = w := by
  go_enter Try.func86, Try.ntmps86
  go_wp2
  go_ret
  exact ⟨by simp, rfl⟩

set_option maxHeartbeats 400000 in
theorem less_int (x y : Int) (w : World) : Calls Try.prog 50 #[.int .i64 x, .int .i64 y] w fun e w' => e = .returned (.bool (decide (x < y))) ∧ w' = w := by
  go_enter Try.func50, Try.ntmps50
  go_wp2_with (go_at_call 86; refine (isNaN_int _ _).mono ?_; rintro e w' ⟨rfl, rfl⟩)
  go_ret
  exact ⟨rfl, rfl⟩

set_option maxHeartbeats 400000 in
theorem isSorted_int (A : Option Addr) (n c B : Nat) (l : List Int) (w : World) (hr : Reads w B 1 A n (l.map (.int .i64))) (hn : n ≤ 1000000) (hs : l.Pairwise (fun x y => x ≤ y)) :
    Calls Try.prog 11 #[.slice A n c] w fun e w' => e = .returned (.bool true) ∧ ∃ q, w' = w.drewN q := by
  have hll : l.length = n := by have := hr.1; simpa using this
  have HS : Hid (∀ (j : Nat) (x y : Int), l[j]? = some x → l[j + 1]? = some y → decide (y < x) = false) := by
    intro j x y hx hy
    obtain ⟨h1, rfl⟩ := List.getElem?_eq_some_iff.1 hx
    obtain ⟨h2, rfl⟩ := List.getElem?_eq_some_iff.1 hy
    have := List.pairwise_iff_getElem.1 hs j (j + 1) h1 h2 (by omega)
    exact decide_eq_false (by omega)
  have HL := Lib.hid hll
  clear hs hll
  rcases Nat.eq_zero_or_pos n with hz | hz
  · subst hz
    go_enter Try.func11, Try.ntmps11
    go_wp2
    go_loopw [3] (fun i wr => i = .int .i64 (-1) ∧ wr = w) (fun _ _ => 0)
    case atStart => exact ⟨by first | rfl | simp, rfl⟩
    case round =>
      obtain ⟨rfl, rfl⟩ := hrel
      go_wp2
      go_ret
      exact ⟨rfl, 0, rfl⟩
  · obtain ⟨m, rfl⟩ : ∃ m, n = m + 1 := ⟨n - 1, by omega⟩
    have w1 : IntKind.i64.wrap (((m + 1 : Nat) : Int) - 1) = m := by rw [IntWalk.i64_in _ (by omega)]; omega
    go_enter Try.func11, Try.ntmps11
    go_wp2
    go_loopw [3] (fun i wr => ∃ j : Nat, j ≤ m ∧ i = .int .i64 j ∧ ∃ q, wr = w.drewN q) (fun i _ => (intOf i).toNat)
    case atStart => exact ⟨m, Nat.le_refl _, by first | rfl | go_num, 0, rfl⟩
    case round =>
      obtain ⟨j, hj, rfl, q, rfl⟩ := hrel
      by_cases hz : j = 0
      · subst hz
        go_wp2
        go_ret
        exact ⟨rfl, _, rfl⟩
      · obtain ⟨p, hp⟩ : ∃ p, p + 1 = j := ⟨j - 1, by omega⟩
        obtain ⟨ad, y, rfl, had, hy, cy⟩ := hr.num (k := j) (by omega)
        obtain ⟨ad2, x, e2, had2, hx, cx⟩ := hr.num (k := p) (by omega)
        obtain rfl : ad = ad2 := by injection e2
        have hlt := HS.out p x y hx (by rw [hp]; exact hy)
        have w2 : IntKind.i64.wrap ((j : Int) - 1) = p := by rw [IntWalk.i64_in _ (by omega)]; omega
        have hjn : j < m + 1 := by omega
        have hpn : p < m + 1 := by omega
        have hpm : p ≤ m := by omega
        have hpj : p < j := by omega
        have hj0 : 0 < j := by omega
        have HLS := fun w => less_int y x w
        rw [hlt] at HLS
        have HLS := Lib.hid HLS
        clear hx hy e2 w1 hp hlt
        go_wp2
        go_quiet ((go_at_call 50; refine (HLS.out _).mono ?_; rintro e w' ⟨rfl, rfl⟩; exact ⟨rfl, _, rfl⟩))
        go_wp2
        go_roundw
        case rel => exact ⟨p, hpm, rfl, _, rfl⟩
        case measure => simp [intOf]; omega

set_option maxHeartbeats 400000 in
theorem named1_any (A : Option Addr) (n c B : Nat) (r : List Int) (x : Int) (g : Nat) (w : World) (hr : Reads w B 1 A n (r.map (.int .i64))) (hn : n ≤ 1000000) (hc : w.cell? ⟨g, 0, none⟩ = some (.slice A n c)) :
    Calls Try.prog 13 #[.int .i64 x, .pointer (some ⟨g, 0, none⟩)] w fun e w' => e = .returned (.bool (!decide (x ∈ r) || decide (x < 0))) ∧ Below w.heap.size w w' := by
  cases hm : decide (x ∈ r)
  · have H := Lib.hid (contains_int A n c B r x false w hr (by omega) hm)
    clear hm hr
    go_enter Try.func13, Try.ntmps13
    go_wp2_with (go_at_call 14; refine H.out.mono ?_; rintro e w' ⟨rfl, rfl⟩)
    go_ret
    exact ⟨by first | rfl | simp, Below.refl _ _⟩
  · have H := Lib.hid (contains_int A n c B r x true w hr (by omega) hm)
    clear hm hr
    go_enter Try.func13, Try.ntmps13
    go_wp2_with (go_at_call 14; refine H.out.mono ?_; rintro e w' ⟨rfl, rfl⟩)
    go_ret
    exact ⟨by first | rfl | simp, Below.refl _ _⟩

set_option maxHeartbeats 400000 in
theorem named2_any (A : Option Addr) (n c B : Nat) (r : List Int) (x : Int) (g : Nat) (w : World) (hr : Reads w B 1 A n (r.map (.int .i64))) (hn : n ≤ 1000000) (hc : w.cell? ⟨g, 0, none⟩ = some (.slice A n c)) :
    Calls Try.prog 15 #[.int .i64 x, .pointer (some ⟨g, 0, none⟩)] w fun e w' => e = .returned (.bool (decide (0 ≤ x) && !decide (x ∈ r))) ∧ Below w.heap.size w w' := by
  by_cases h0 : 0 ≤ x
  · have g0 : decide (0 ≤ x) = true := decide_eq_true h0
    rw [g0, Bool.true_and]
    cases hm : decide (x ∈ r)
    · have H := Lib.hid (contains_int A n c B r x false w hr (by omega) hm)
      clear hm hr
      go_enter Try.func15, Try.ntmps15
      go_wp2_with (go_at_call 14; refine H.out.mono ?_; rintro e w' ⟨rfl, rfl⟩)
      go_ret
      exact ⟨by first | rfl | simp, Below.refl _ _⟩
    · have H := Lib.hid (contains_int A n c B r x true w hr (by omega) hm)
      clear hm hr
      go_enter Try.func15, Try.ntmps15
      go_wp2_with (go_at_call 14; refine H.out.mono ?_; rintro e w' ⟨rfl, rfl⟩)
      go_ret
      exact ⟨by first | rfl | simp, Below.refl _ _⟩
  · have g0 : decide (0 ≤ x) = false := decide_eq_false h0
    rw [g0, Bool.false_and]
    go_enter Try.func15, Try.ntmps15
    go_wp2
    go_ret
    exact ⟨by first | rfl | simp, Below.refl _ _⟩

theorem roots_facts : rootE [2, -1] 3 = 0 ∧ namedL [2, -1] = [2] := by
  refine ⟨by decide, ?_⟩
  have : (sortL [2]) = [2] := by unfold sortL; simp
  unfold namedL
  rw [show ([2, -1].filter fun x : Int => !decide (x < 0)) = [2] from by decide, this]
  rfl

set_option maxHeartbeats 400000 in
theorem roots_true (w : World) : Calls Try.prog 9 #[] w fun e w' => e = .returned (.bool true) ∧ Below w.heap.size w w' := by
  have H := Lib.hid (fun A w hr => named_ok A 2 2 [2, -1] 3 w hr roots_facts.1)
  rw [roots_facts.2] at H
  have hn1 := reads_new w [.int .i64 2, .int .i64 (-1)] 3 2 1 rfl
  go_enter Try.func9, Try.ntmps9
  go_wp2_with fail
  refine (H.out _ _ (by simpa using hn1)).mono ?_
  rintro e w1 ⟨A', c', rfl, hown, hb⟩
  obtain ⟨g, cap, hv, hg, -⟩ := hown.form (by decide)
  obtain ⟨rfl, rfl⟩ : A' = some ⟨g, 0, none⟩ ∧ c' = cap := by simpa using hv
  have hc := hown.cellAt 0 (by decide)
  simp at hc
  clear hown hv hn1
  go_wp2
  go_ret
  exact ⟨rfl, below_step (below_new _ _) hb⟩

set_option maxRecDepth 100000 in
set_option maxHeartbeats 2000000 in
theorem rootNamed_any (A : Option Addr) (n c : Nat) (r : List Int) (N slot v : Int) (w : World) (hr : Reads w w.heap.size 1 A n (r.map (.int .i64))) (hnc : n ≤ c) (hc : c ≤ maxLen) (hx : ∀ x ∈ r, (Lit.int .i64 x).wf = true) (wn : (Lit.int .i64 N).wf = true) (ws : (Lit.int .i64 slot).wf = true) (wv : (Lit.int .i64 v).wf = true) :
    Calls Try.prog 3 #[.slice A n c, .int .i64 N, .int .i64 slot, .int .i64 v] w fun e w' => e = .returned (.bool true) ∧ Below w.heap.size w w' := by
  have hn : n ≤ 9223372036854775807 := by unfold maxLen at hc; omega
  clear hnc hc hx wn ws wv
  have hrl : r.length = n := by have := hr.1; simpa using this
  have hb0 := below_new w (.cells #[.slice A n c] 22)
  have B0 := Blk.new w 22 #[.slice A n c]
  by_cases hE : rootE r N = 0
  · obtain ⟨r1, r2, r3, r4⟩ := rootE_ok hE
    have hn32 : n ≤ 32 := by omega
    have H1 := Lib.hid (fun w hr => named_ok A n c r N w hr hE)
    have hm : ∀ x, x ∈ namedL r ↔ x ∈ r ∧ 0 ≤ x := fun x => namedL_mem
    have hs := namedL_sorted r
    have hl := namedL_length r
    generalize namedL r = L at *
    have HM := Lib.hid hm
    have HS := Lib.hid hs
    have p1 : L.any (fun x => !decide (x ∈ r) || decide (x < 0)) = false := by
      rw [List.any_eq_false]
      intro x hx
      have := (hm x).1 hx
      simp [this.1]
      omega
    have p2 : r.any (fun x => decide (0 ≤ x) && !decide (x ∈ L)) = false := by
      rw [List.any_eq_false]
      intro x hx
      by_cases h0 : 0 ≤ x
      · simp [(hm x).2 ⟨hx, h0⟩]
      · simp [h0]
    have HP1 := Lib.hid p1
    have HP2 := Lib.hid p2
    obtain ⟨k, hk⟩ : ∃ k, k = L.length := ⟨_, rfl⟩
    rw [← hk] at H1
    have hk32 : k ≤ 32 := by omega
    have HR := Lib.hid hrl
    have HE := Lib.hid hE
    clear hm hs hl p1 p2 hk r1 r2 r3 hE hrl hn
    go_enter Try.func3, Try.ntmps3
    go_wp2_with fail
    refine (roots_true _).mono ?_
    rintro e w1 ⟨rfl, hb1⟩
    have hb01 := below_step hb0 hb1
    have B1 := B0.below hb1 B0.lt
    have k0 := B1.cell 0
    simp only [List.getElem?_toArray, List.getElem?_cons_zero, List.getElem?_cons_succ] at k0
    clear hb0 B0 hb1
    go_wp2_with fail
    refine (H1.out _ ((hr.below hb01).more hb01.size)).mono ?_
    rintro e w2 ⟨A2, c2, rfl, hown2, hb2⟩
    have hb02 := below_step hb01 hb2
    have B2 := B1.below hb2 B1.lt
    have hb3 := below_new w2 (.cells #[.slice A2 k c2] 22)
    have hb03 := below_step hb02 hb3
    have B3 := B2.below hb3 B2.lt
    have D3 := Blk.new w2 22 #[.slice A2 k c2]
    have hL3 := ((Reads.of_own hown2).below hb3).more hb3.size
    clear k0 hb01 hb02 hb2 B1 B2 hown2
    have k0 := B3.cell 0
    have d0 := D3.cell 0
    simp only [List.getElem?_toArray, List.getElem?_cons_zero, List.getElem?_cons_succ] at k0 d0
    go_wp2_with fail
    refine (isSorted_int A2 k c2 _ L _ hL3 (by omega) HS.out).mono ?_
    rintro e w4 ⟨rfl, q4, rfl⟩
    have hb04 := below_drewN hb03 q4
    have B4 := B3.drewN q4
    have D4 := D3.drewN q4
    have hL4 := hL3.below (below_drewN (Below.refl _ _) q4)
    have hC1 := containsIntF_any 13 (.pointer (some ⟨w.heap.size, 0, none⟩)) A2 k c2 _ L _ _ hL4 (Nat.le_refl _) (by omega) (plain_of (fn := Try.f13) Try.func13 (by kernel_rfl) (by kernel_rfl)) (fun w' x hb' _ =>
      named1_any A n c _ r x w.heap.size w' ((hr.below hb04).below (hb'.mono hb04.size)) (by omega) ((B4.below hb' B4.lt).cell 0))
    rw [HP1.out] at hC1
    have HC1 := Lib.hid hC1
    clear hC1
    go_wp2_with fail
    refine HC1.out.mono ?_
    rintro e w5 ⟨rfl, hb5⟩
    have hb05 := below_step hb04 hb5
    have B5 := B4.below hb5 B4.lt
    have D5 := D4.below hb5 D4.lt
    have hL5 := (hL4.below hb5).more hb5.size
    have hC2 := containsIntF_any 15 (.pointer (some ⟨w2.heap.size, 0, none⟩)) A n c _ r _ _ (hr.below hb05) hb05.size (by omega) (plain_of (fn := Try.f15) Try.func15 (by kernel_rfl) (by kernel_rfl)) (fun w' x hb' _ =>
      named2_any A2 k c2 _ L x w2.heap.size w' (hL5.below hb') (by omega) ((D5.below hb' D5.lt).cell 0))
    rw [HP2.out] at hC2
    have HC2 := Lib.hid hC2
    clear hC2 k0 d0 HC1
    have k0 := B5.cell 0
    have d0 := D5.cell 0
    simp only [List.getElem?_toArray, List.getElem?_cons_zero, List.getElem?_cons_succ] at k0 d0
    go_wp2_with fail
    refine HC2.out.mono ?_
    rintro e w6 ⟨rfl, hb6⟩
    have hb06 := below_step hb05 hb6
    have B6 := B5.below hb6 B5.lt
    clear k0 d0 HC2 hb5 hb6 B5 B4 B3 D5 D4 D3 hL3 hL4 hL5 hb03 hb04 hb05
    have k0 := B6.cell 0
    simp only [List.getElem?_toArray, List.getElem?_cons_zero, List.getElem?_cons_succ] at k0
    have hr6 := (hr.below hb06).more hb06.size
    by_cases hS : setE r N slot v = 0
    · obtain ⟨-, s1, s2, s3⟩ := setE_ok hS
      rw [HR.out] at s2
      obtain ⟨S, rfl⟩ : ∃ S : Nat, slot = S := ⟨slot.toNat, by omega⟩
      obtain ⟨ad, y, rfl, had, hy, cy⟩ := hr6.num (k := S) (by omega)
      have HS1 := Lib.hid (set_ok (some ad) n c r N v S _ hr6 hS)
      have hy4 := r4 y (List.mem_of_getElem? hy)
      have hE2 : setE (r.set S v) N S y = 0 := by
        simp only [inR, Bool.and_eq_true, decide_eq_true_eq] at s3
        obtain ⟨q1, q2, q3, -⟩ := rootE_ok HE.out
        have : rootE (r.set S v) N = 0 := rootE_of q1 q2 (by rw [List.length_set]; exact q3) (fun x hx => by
          rcases List.mem_or_eq_of_mem_set hx with h | h
          · exact r4 x h
          · subst h; exact s3)
        unfold setE
        rw [if_neg (by simp [this]), if_neg (by rw [List.length_set, HR.out]; omega), if_pos (by simp only [inR, Bool.and_eq_true, decide_eq_true_eq]; exact hy4)]
      have hset : (r.set S v).set S y = r := by
        rw [List.set_set]
        obtain ⟨q1, q2⟩ := List.getElem?_eq_some_iff.1 hy
        rw [← q2]
        exact List.set_getElem_self q1
      have hv : (r.set S v)[S]? = some v := by
        rw [List.getElem?_set_self (by rw [HR.out]; omega)]
      have hSn : S < n := by omega
      clear hS hy4 hy s1 s2 s3
      go_wp2_with fail
      refine HS1.out.mono ?_
      rintro e w7 ⟨A7, c7, rfl, hown7, hb7⟩
      have hb07 := below_step hb06 hb7
      have B7 := B6.below hb7 B6.lt
      have hr7 := Reads.of_own hown7
      obtain ⟨ad7, y7, rfl, had7, hy7, cy7⟩ := hr7.num (k := S) hSn
      obtain rfl : v = y7 := Option.some.inj (hv.symm.trans hy7)
      have cy' := (hb7.cell (p := ad.add S) (by rw [block_of_add]; omega)).trans cy
      have HS2 := Lib.hid (set_ok (some ad7) n c7 (r.set S v) N y S _ hr7 hE2)
      rw [hset] at HS2
      clear k0 hown7 hy7 hE2 HS1 hv hset
      have k0 := B7.cell 0
      simp only [List.getElem?_toArray, List.getElem?_cons_zero, List.getElem?_cons_succ] at k0
      go_wp2_with fail
      refine HS2.out.mono ?_
      rintro e w8 ⟨A8, c8, rfl, hown8, hb8⟩
      have hb08 := below_step hb07 hb8
      have B8 := B7.below hb8 B7.lt
      have cy8 := (hb8.cell (p := ad7.add S) (by rw [block_of_add]; omega)).trans cy7
      have HE8 := equal_int A8 (some ad) n c8 n c _ _ r r _ (Reads.of_own hown8) ((hr.below hb08).more hb08.size) (by omega) (by omega)
      rw [decide_eq_true rfl] at HE8
      have HE8 := Lib.hid HE8
      clear k0 hown8 HS2
      have k0 := B8.cell 0
      simp only [List.getElem?_toArray, List.getElem?_cons_zero, List.getElem?_cons_succ] at k0
      go_wp2_with fail
      refine HE8.out.mono ?_
      rintro e w9 ⟨rfl, q9, rfl⟩
      go_wp2
      go_ret
      exact ⟨by first | rfl | simp, below_drewN hb08 _⟩
    · have HS1 := Lib.hid (set_bad A n c r N slot v _ hr6 (by omega) hS)
      have hS1 : (setE r N slot v != 0) = true := by simpa using hS
      generalize setE r N slot v = E at *
      clear hS
      go_wp2_with fail
      refine HS1.out.mono ?_
      rintro e w7 ⟨rfl, hb7⟩
      go_wp2
      go_ret
      exact ⟨by first | rfl | simp, below_step hb06 hb7⟩
  · have H1 := Lib.hid (fun w hr => named_bad A n c r N w hr (by omega) hE)
    have hE1 : (rootE r N != 0) = true := by simpa using hE
    generalize rootE r N = E at *
    clear hE
    go_enter Try.func3, Try.ntmps3
    go_wp2_with fail
    refine (roots_true _).mono ?_
    rintro e w1 ⟨rfl, hb1⟩
    have hb01 := below_step hb0 hb1
    have B1 := B0.below hb1 B0.lt
    have k0 := B1.cell 0
    simp only [List.getElem?_toArray, List.getElem?_cons_zero, List.getElem?_cons_succ] at k0
    clear hb0 B0 hb1
    go_wp2_with fail
    refine (H1.out _ ((hr.below hb01).more hb01.size)).mono ?_
    rintro e w2 ⟨rfl, hb2⟩
    have d0 : (w2.alloc (.cells #[.slice none 0 0] 22)).cell? ⟨w2.heap.size, 0, none⟩ = _ := (Blk.new w2 22 #[.slice none 0 0]).cell 0
    have hb02 := below_step (below_step hb01 hb2) (below_new w2 (.cells #[.slice none 0 0] 22))
    go_wp2
    go_ret
    exact ⟨by first | rfl | simp, hb02⟩

namespace RootNamed
open Go.ChangeShapes Go.WideShapes Go.ChangeAt Go.RowKit
theorem own : ownKnob Try.prog.godebug = none := by kernel_rfl
theorem laidOut : laidOutB Try.prog = true := by kernel_rfl

set_option maxRecDepth 100000 in
theorem lifted (os : Os) (started : os.Started) (H : Type) (enc : TypeId × Value → H) :
    ReturnsInHanded {} Try.checked os 3 .any (Rows.rootNamedSpec.pre6 enc Try.prog Try.f3 Rows.rootNamedRow.domain false) (Rows.rootNamedSpec.post enc Try.prog Try.f3 false true false false) := by
  refine returnsInHanded_of_change (C := Try.checked) own started (by as_aux_lemma => kernel_rfl) Try.func3
    (ChangeSpec.witness6 (enc := enc) (C := Try.checked) false ⟨#[], #[.slice none 0 0, .int .i64 0, .int .i64 0, .int .i64 0], []⟩ 8 (by as_aux_lemma => kernel_rfl) (by as_aux_lemma => kernel_rfl) (by as_aux_lemma => kernel_rfl) (by as_aux_lemma => kernel_rfl)) ?_
  intro W base args ds gs before hval0 hW hcnd _
  have hval : ∀ (j : Nat) t v, Try.f3.params[j]? = some t → args[j]? = some v → Value.okWide Try.prog W .any base t v := hval0
  have hW' := hW
  obtain ⟨p, q, hA0, hV, rfl, hfz, hnd⟩ := hW
  have hA : DataW.TrodAll enc Try.prog W 0 (fun _ => true) true Try.f3.params.toList args.toList ds p := hA0
  rw [Try.params3] at hA hval
  obtain ⟨v0, vs0, d0, ds0, p0, q0, hargs, rfl, rfl, h0, hA⟩ := trodAll_cons hA
  obtain ⟨v1, vs1, d1, ds1, p1, q1, rfl, rfl, rfl, h1, hA⟩ := trodAll_cons hA
  obtain ⟨v2, vs2, d2, ds2, p2, q2, rfl, rfl, rfl, h2, hA⟩ := trodAll_cons hA
  obtain ⟨v3, vs3, d3, ds3, p3, q3, rfl, rfl, rfl, h3, hA⟩ := trodAll_cons hA
  obtain ⟨rfl, rfl, rfl⟩ := trodAll_nil hA
  obtain rfl : args = #[v0, v1, v2, v3] := by cases args; simp_all
  obtain ⟨A0, n0, c0, xs0, rfl, hnc0, hc0, hr0, hx0⟩ := open_nums Try.underlying22 Try.underlying3 (by as_aux_lemma => kernel_rfl) (hval 0 _ v0 rfl rfl) (fun x hx => hW'.lt x (by simp [hx])) h0
  obtain ⟨i1, rfl, rfl, rfl, w1⟩ := open_int Try.underlying3 (hval 1 _ v1 rfl rfl) h1
  obtain ⟨i2, rfl, rfl, rfl, w2⟩ := open_int Try.underlying3 (hval 2 _ v2 rfl rfl) h2
  obtain ⟨i3, rfl, rfl, rfl, w3⟩ := open_int Try.underlying3 (hval 3 _ v3 rfl rfl) h3
  refine (rootNamed_any A0 n0 c0 xs0 i1 i2 i3 W hr0 hnc0 hc0 hx0 w1 w2 w3).mono fun e W' ⟨he, hb⟩ => ?_
  subst he
  exact ⟨_, rfl, law_post laidOut Try.underlying4 rfl (by as_aux_lemma => kernel_rfl) rfl rfl hW' hb⟩

set_option maxHeartbeats 10000000 in
theorem closed : joinedFacts Try.prog 3 Try.f3 Rows.rootNamedSpec Rows.rootNamedRow = true := by
  unfold joinedFacts
  simp only [Bool.and_eq_true]
  repeat' apply And.intro
  all_goals as_aux_lemma => kernel_rfl

set_option maxHeartbeats 1000000 in
theorem proved : Rows.RootNamedSaid :=
  OpenClaim.holds_of_wide 3 Try.f3 rfl rfl rfl rfl rfl rfl rfl ⟨rfl, rfl, rfl, rfl, rfl⟩ rfl rfl rfl rfl rfl (by as_aux_lemma => kernel_rfl) Try.func3 closed
    (of_decide_eq_true (by as_aux_lemma => kernel_rfl)) (by unfold Func.isWrapper; first | (rw [if_pos (by decide +kernel)]; kernel_rfl) | (rw [if_neg (by decide +kernel)]; exact ⟨rfl, rfl⟩))
    (fun os started H enc _ => lifted os started H enc)
end RootNamed
end Go.Proofs.Ythfjopnomkfegaa
