/-
  Texts joined: SlicesInt StNew EqualOb EqualObs Alike StLaw2 Rooted HoldFn Good TwinDefs.
-/
import Derived.Test.YtbhbgdlnfobjaaaGreatRows
import Derived.Test.YtbhbgdlnfobjaaaGreatG0
import Derived.Test.YtbhbgdlnfobjaaaGreatG2
import Derived.Test.YtbhbgdlnfobjaaaGreatG5
import Derived.Test.YtbhbgdlnfobjaaaGreatG6
import Derived.Test.YtbhbgdlnfobjaaaGreatG9
import Derived.Test.YtbhbgdlnfobjaaaGreatG10
/-
  Contract of slices.Equal at []int.
-/
namespace Go.Proofs.YtbhbgdlnfobjaaaGreat
open Go.RowKit

set_option maxHeartbeats 400000 in
theorem equal_int (A A2 : Option Addr) (n c m c2 B B2 : Nat) (xs ys : List Int) (w : World) (hr : Reads w B 1 A n (xs.map (.int .i64))) (hr2 : Reads w B2 1 A2 m (ys.map (.int .i64))) (hn : n ≤ 1000000000000000000) (hm : m ≤ 1000000000000000000) :
    Calls Tryz.prog 21 #[.slice A n c, .slice A2 m c2] w fun e w' => e = .returned (.bool (decide (xs = ys))) ∧ ∃ q, w' = w.drewN q := by
  have hxl : xs.length = n := by have := hr.1; simpa using this
  have hyl : ys.length = m := by have := hr2.1; simpa using this
  have HX := Lib.hid hxl
  have HY := Lib.hid hyl
  clear hxl hyl
  by_cases hnm : n = m
  · subst hnm
    go_enter Tryz.func21, Tryz.ntmps21
    go_wp2
    go_loopw [13] (fun i wr => ∃ j : Nat, j ≤ n ∧ i = .int .i64 j ∧ xs.take j = ys.take j ∧ ∃ q, wr = w.drewN q) (fun i _ => n - (intOf i).toNat)
    case atStart => exact ⟨0, Nat.zero_le _, rfl, by simp, 0, rfl⟩
    case round =>
      obtain ⟨j, hj, rfl, ht, q, rfl⟩ := hrel
      have HT := Lib.hid ht
      clear ht
      by_cases hlt : j < n
      · obtain ⟨ad, u, rfl, _, hx, hc⟩ := hr.at_ hlt
        obtain ⟨ad2, u2, rfl, _, hx2, hc2⟩ := hr2.at_ hlt
        have hl : j < xs.length := by rw [HX.out]; exact hlt
        have hl2 : j < ys.length := by rw [HY.out]; exact hlt
        rw [List.getElem?_map, List.getElem?_eq_getElem hl] at hx
        rw [List.getElem?_map, List.getElem?_eq_getElem hl2] at hx2
        obtain rfl : u = .int .i64 xs[j] := by simpa using hx.symm
        obtain rfl : u2 = .int .i64 ys[j] := by simpa using hx2.symm
        clear hx hx2
        have T : Hid (xs.take (j + 1) = ys.take (j + 1) ↔ xs[j] = ys[j]) := by
          show _ ↔ _
          rw [List.take_succ_eq_append_getElem hl, List.take_succ_eq_append_getElem hl2, HT.out]
          constructor
          · intro h
            have := List.append_cancel_left h
            simpa using this
          · intro h; rw [h]
        have hlt' : (j : Int) < n := by omega
        generalize hgx : xs[j] = x at *
        generalize hgy : ys[j] = y at *
        have HGX := Lib.hid hgx
        have HGY := Lib.hid hgy
        clear hgx hgy
        by_cases he : x = y
        · subst he
          go_wp2
          go_quiet (fail)
          go_wp2
          go_roundw
          case rel => exact ⟨j + 1, by omega, by go_num, T.out.2 (by simp), _, rfl⟩
          case measure => simp [intOf]; omega
        · have he2 : (x == y) = false := by simpa using he
          have he3 : (x != y) = true := by simpa using he
          go_wp2
          go_quiet (fail)
          go_wp2
          go_ret
          refine ⟨?_, _, drewN_add _ _ _⟩
          have : ¬ xs = ys := by
            intro h
            apply he
            rw [← HGX.out, ← HGY.out]
            subst h
            rfl
          rw [decide_eq_false this]
          rfl
      · go_wp2
        go_ret
        have hjn : j = n := by omega
        subst hjn
        exact ⟨by rw [decide_eq_true (eq_of_takes _ _ _ HX.out HY.out HT.out)]; rfl, _, rfl⟩
  · have hne : ¬ xs = ys := by
      intro h
      subst h
      exact hnm (HX.out.symm.trans HY.out)
    have e1 : ((n : Int) == (m : Int)) = false := by simp; omega
    have e2 : ((n : Int) != (m : Int)) = true := by simp; omega
    have e3 : (n == m) = false := by simpa using hnm
    have e4 : (n != m) = true := by simpa using hnm
    go_enter Tryz.func21, Tryz.ntmps21
    go_wp2
    go_ret
    exact ⟨by rw [decide_eq_false hne]; rfl, 0, rfl⟩

end Go.Proofs.YtbhbgdlnfobjaaaGreat

/-
  package store: New; the laws' closed fact 'stores'; sameStore of a store and itself.
-/
namespace Go.Proofs.YtbhbgdlnfobjaaaGreat
open Go.RowKit

theorem made_slots (n : Nat) : madeCells #[.int .i64 0, .bool false, .int .i64 0] (n * 3) = (slotsC (List.replicate n ⟨0, false, 0⟩)).toArray := by
  apply Array.ext
  · simp [madeCells, slotsC_length]
  · intro i h1 h2
    have h3 : i < n * 3 := by simpa [madeCells] using h1
    have hq : i / 3 < n := Nat.div_lt_of_lt_mul (by omega)
    have hr : i % 3 < 3 := Nat.mod_lt _ (by decide)
    have hi : i / 3 * 3 + i % 3 = i := by omega
    have h4 := slotsC_at (List.replicate n ⟨0, false, 0⟩) (i / 3) (i % 3) (by simpa using hq) hr
    rw [hi, List.getElem_replicate] at h4
    have h5 : (madeCells #[.int .i64 0, .bool false, .int .i64 0] (n * 3))[i]? = (slotC ⟨0, false, 0⟩)[i % 3]? := by
      rw [Array.getElem?_eq_getElem h1]
      have hr2 : i % 3 = 0 ∨ i % 3 = 1 ∨ i % 3 = 2 := by omega
      rcases hr2 with e | e | e <;> simp [madeCells, e, slotC]
    rw [← h4, Array.getElem?_eq_getElem h1] at h5
    rw [List.getElem?_eq_getElem (by simpa using h2)] at h5
    simpa using h5
theorem own_slots (w : World) (base n : Nat) (hb : base ≤ w.heap.size) (hn : n ≤ maxLen) :
    (w.alloc (.cells (madeCells #[.int .i64 0, .bool false, .int .i64 0] (n * 3)) 65)).ownsRow base 65 3 (.slice (some ⟨w.heap.size, 0, none⟩) n n) n (slotsC (List.replicate n ⟨0, false, 0⟩)) := by
  rw [made_slots]
  have h := own_close (w := w.alloc (.cells (slotsC (List.replicate n ⟨0, false, 0⟩)).toArray 65)) (base := base) (e := 65) (size := 3) (n := n) (c := n) (g := w.heap.size) (slotsC (List.replicate n ⟨0, false, 0⟩)) hb (heap_alloc_new w _) (Nat.le_refl _) hn (by rw [slotsC_length, List.length_replicate])
  rwa [List.take_of_length_le (by rw [slotsC_length, List.length_replicate]; exact Nat.le_refl _)] at h
theorem info_slot3 : (Tryz.prog.info? 65).map (fun i => (i.zero, i.size, i.bytes)) = some (some (.agg #[.int .i64 0, .bool false, .int .i64 0]), 3, 24) := by kernel_rfl

set_option maxHeartbeats 400000 in
theorem hnew_ok (n : Nat) (w : World) (hn : n ≤ 16) :
    Calls Tryz.prog 40 #[.int .i64 n] w fun e w' => e = .returned (.tuple #[.slice (some ⟨w.heap.size, 0, none⟩) n n, .int .i64 0]) ∧ w' = w.alloc (.cells (madeCells #[.int .i64 0, .bool false, .int .i64 0] (n * 3)) 65) := by
  obtain ⟨i0, hi, hz0, hz1, hz2⟩ := info_parts info_slot3
  have hmk := fun W => run_make_rowN (P := Tryz.prog) 26 65 i0 (.agg #[.int .i64 0, .bool false, .int .i64 0]) Tryz.underlying26 hi hz0 .i64 .i64 n n (Nat.le_refl _) (by rw [hz2]; omega) (by omega) W
  rw [hz1] at hmk
  have hcs : (Value.agg #[.int .i64 0, .bool false, .int .i64 0]).cells = #[.int .i64 0, .bool false, .int .i64 0] := rfl
  rw [hcs] at hmk
  have h1 : ¬ (n : Int) < 0 := by omega
  have h2 : ¬ (16 : Int) < n := by omega
  clear hcs
  go_enter Tryz.func40, Tryz.ntmps40
  go_wp2
  go_ret2
  exact ⟨rfl, rfl⟩

def newA (W : Nat) : List Int := if 0 < W then (List.replicate W 0).set 0 (wordOf 0 (W - 1) 0 true) else []
def newSt (W R H : Nat) : St := ⟨newA W, List.replicate R (-1), [], List.replicate H ⟨0, false, 0⟩⟩
theorem newA_length (W : Nat) : (newA W).length = W := by
  unfold newA
  split
  · simp
  · simp; omega
set_option maxRecDepth 100000 in
set_option maxHeartbeats 2000000 in
theorem newFn_ok (W R H : Nat) (w : World) (hW : W ≤ 256) (hR : R ≤ 32) (hH : H ≤ 16) :
    Calls Tryz.prog 16 #[.int .i64 W, .int .i64 R, .int .i64 H] w fun e w' => Below w.heap.size w w' ∧ ∃ (A1 : Option Addr) (c1 : Nat) (A2 : Option Addr) (c2 : Nat) (A4 : Option Addr) (c4 : Nat),
      e = .returned (.tuple #[.agg #[.slice A1 W c1, .slice A2 R c2, .slice none 0 0, .slice A4 H c4], .int .i64 0]) ∧ StO w' w.heap.size A1 W c1 A2 R c2 none 0 0 A4 H c4 (newSt W R H) := by
  have HW := Lib.hid (fun w => wnew_ok W w hW)
  have HHn := Lib.hid (fun w => hnew_ok H w hH)
  have HRp := Lib.hid (fun gv w hv => repeat_one gv R (-1) w hv (by omega))
  have g1 : decide (((R : Nat) : Int) < 0) = false := decide_eq_false (by omega)
  have g2 : decide (32 < R) = false := decide_eq_false (by omega)
  have g2' : decide ((32 : Int) < (R : Int)) = false := decide_eq_false (by omega)
  have hb1 := below_new w (.cells #[.slice none 0 0, .slice none 0 0, .slice none 0 0, .slice none 0 0] 28)
  have DR := Blk.new w 28 #[.slice none 0 0, .slice none 0 0, .slice none 0 0, .slice none 0 0]
  go_enter Tryz.func16, Tryz.ntmps16
  go_wp2_with fail
  refine (HW.out _).mono ?_
  rintro e w1 ⟨rfl, rfl⟩
  have hO1 := own_make1 (w.alloc (.cells #[.slice none 0 0, .slice none 0 0, .slice none 0 0, .slice none 0 0] 28)) w.heap.size 44 (.int .u64 0) W _ rfl hb1.size (by unfold maxLen; omega)
  have hb2 := hb1.alloc hb1.size (.cells (madeCells #[.int .u64 0] W) 44)
  have DR := DR.alloc (.cells (madeCells #[.int .u64 0] W) 44)
  rw [World.size_alloc] at hO1
  go_wp2_with fail
  refine (HHn.out _).mono ?_
  rintro e w2 ⟨rfl, rfl⟩
  have hO4 := own_slots ((w.alloc (.cells #[.slice none 0 0, .slice none 0 0, .slice none 0 0, .slice none 0 0] 28)).alloc (.cells (madeCells #[.int .u64 0] W) 44)) w.heap.size H hb2.size (by unfold maxLen; omega)
  have hO1 := hO1.alloc (.cells (madeCells #[.int .i64 0, .bool false, .int .i64 0] (H * 3)) 65)
  have hb3 := hb2.alloc hb2.size (.cells (madeCells #[.int .i64 0, .bool false, .int .i64 0] (H * 3)) 65)
  have DR := DR.alloc (.cells (madeCells #[.int .i64 0, .bool false, .int .i64 0] (H * 3)) 65)
  simp only [World.size_alloc] at hO4
  obtain ⟨W2, hW2⟩ : ∃ W2, W2 = ((w.alloc (.cells #[.slice none 0 0, .slice none 0 0, .slice none 0 0, .slice none 0 0] 28)).alloc (.cells (madeCells #[.int .u64 0] W) 44)).alloc (.cells (madeCells #[.int .i64 0, .bool false, .int .i64 0] (H * 3)) 65) := ⟨_, rfl⟩
  rw [← hW2] at hO1 hO4 hb3 DR ⊢
  clear hW2 hb1 hb2 HW HHn
  by_cases h0 : 0 < W
  · have g3 : decide (0 < W) = true := decide_eq_true h0
    have g3' : decide ((0 : Int) < (W : Int)) = true := decide_eq_true (by omega)
    obtain ⟨b, hb⟩ : ∃ b : Nat, b + 1 = W := ⟨W - 1, by omega⟩
    have hw : IntKind.i64.wrap ((W : Int) - 1) = b := (IntWalk.i64_in _ (by omega)).trans (by omega)
    have HWd := Lib.hid (fun w => hword_ok 0 b 0 true w (headE_ok.2 (by simp; omega)))
    have HNA : Hid (newA W = (List.replicate W 0).set 0 (wordOf 0 b 0 true)) := by
      show _ = _
      unfold newA
      rw [if_pos h0, show ((W : Int) - 1) = b by omega]
    generalize wordOf 0 b 0 true = x at *
    go_wp2_with fail
    refine (HWd.out _).mono ?_
    rintro e w3 ⟨rfl, hb4⟩
    have hO1 := own_below hO1 hb4
    have hO4 := own_below hO4 hb4
    have DR := DR.below hb4 DR.lt
    have hb04 := below_step hb3 hb4
    have cc := hO1.cellAt 0 (by omega)
    have ff := hO1.frozenAt 0
    rw [List.getElem?_replicate, if_pos h0] at cc
    have hO1s := (hO1.stored 0 (.int .u64 x)).1
    have hO4s := own_apart hO4 (p := ⟨w.heap.size + 1, 0, none⟩) (by simp [Value.ownBlock]) (.int .u64 x)
    have hb05 := hb04.setCell (p := ⟨w.heap.size + 1, 0, none⟩) (by simp) (.int .u64 x)
    have DRs := DR.far (p := ⟨w.heap.size + 1, 0, none⟩) (by simp) (.int .u64 x)
    clear hO1 hO4 DR HWd hb3
    have DV := Blk.new (w3.setCell ⟨w.heap.size + 1, 0, none⟩ (.int .u64 x)) 3 #[.int .i64 (-1)]
    rw [World.size_setCell] at DV
    have hbv := hb05.alloc hb05.size (.cells #[.int .i64 (-1)] 3)
    have DRv := DRs.alloc (.cells #[.int .i64 (-1)] 3)
    have hO1v := hO1s.alloc (.cells #[.int .i64 (-1)] 3)
    have hO4v := hO4s.alloc (.cells #[.int .i64 (-1)] 3)
    clear hO1s hO4s DRs hb05
    go_wp2_with fail
    refine (HRp.out _ _ DV).mono ?_
    rintro e w5 ⟨g, rfl, hO2, hb6⟩
    have DRz := DRv.below hb6 DRv.lt
    have hb7 := below_step hbv hb6
    have HO : Hid (StO w5 w.heap.size (some ⟨w.heap.size + 1, 0, none⟩) W W (some ⟨g, 0, none⟩) R R none 0 0 (some ⟨w.heap.size + 1 + 1, 0, none⟩) H H (newSt W R H)) := by
      refine ⟨?_, own_mono hO2 hbv.size, World.ownsRow_nil _ _ _ _, own_below hO4v hb6⟩
      show World.ownsRow w5 w.heap.size 44 1 _ W ((newA W).map (.int .u64))
      rw [HNA.out]
      have := own_below hO1v hb6
      rw [List.map_set, List.map_replicate]
      exact this
    obtain ⟨r0, r1, r2, r3⟩ := DRz.four
    have f0 := DRz.frozen 0
    have f1 := DRz.frozen 1
    have f2 := DRz.frozen 2
    have f3 := DRz.frozen 3
    clear hO1v hO4v hO2 DRv hbv hb6 DV HRp
    go_wp2_with fail
    refine bodyPost_ret (v := .tuple #[.agg #[.slice (some ⟨w.heap.size + 1, 0, none⟩) W W, .slice (some ⟨g, 0, none⟩) R R, .slice none 0 0, .slice (some ⟨w.heap.size + 1 + 1, 0, none⟩) H H], .int .i64 0]) ?_ rfl ⟨below_block4 hb7 (Nat.le_refl _) _ _ _ _, _, W, _, R, _, H, rfl, HO.out.store DRz _ _ _ _⟩
    have z4 := (((DRz.set_ 0 (.slice (some ⟨w.heap.size + 1, 0, none⟩) W W)).set_ 1 (.slice (some ⟨g, 0, none⟩) R R)).set_ 2 (.slice none 0 0)).set_ 3 (.slice (some ⟨w.heap.size + 1 + 1, 0, none⟩) H H)
    obtain ⟨z0, z1, z2, z3⟩ := z4.four
    simp only [results, Tryz.results16]
    go_simp
  · have g3 : decide (0 < W) = false := decide_eq_false h0
    have g3' : decide ((0 : Int) < (W : Int)) = false := decide_eq_false (by omega)
    have HNA : Hid (newA W = []) := by show _ = _; unfold newA; rw [if_neg h0]
    have DV := Blk.new (W2) 3 #[.int .i64 (-1)]
    have hbv := hb3.alloc hb3.size (.cells #[.int .i64 (-1)] 3)
    have DRv := DR.alloc (.cells #[.int .i64 (-1)] 3)
    have hO1v := hO1.alloc (.cells #[.int .i64 (-1)] 3)
    have hO4v := hO4.alloc (.cells #[.int .i64 (-1)] 3)
    clear hO1 hO4 DR hb3
    go_wp2_with fail
    refine (HRp.out _ _ DV).mono ?_
    rintro e w5 ⟨g, rfl, hO2, hb6⟩
    have DRz := DRv.below hb6 DRv.lt
    have hb7 := below_step hbv hb6
    have HO : Hid (StO w5 w.heap.size (some ⟨w.heap.size + 1, 0, none⟩) W W (some ⟨g, 0, none⟩) R R none 0 0 (some ⟨w.heap.size + 1 + 1, 0, none⟩) H H (newSt W R H)) := by
      refine ⟨?_, own_mono hO2 hbv.size, World.ownsRow_nil _ _ _ _, own_below hO4v hb6⟩
      show World.ownsRow w5 w.heap.size 44 1 _ W ((newA W).map (.int .u64))
      rw [HNA.out]
      have := own_below hO1v hb6
      rw [show W = 0 by omega] at this ⊢
      exact this
    obtain ⟨r0, r1, r2, r3⟩ := DRz.four
    have f0 := DRz.frozen 0
    have f1 := DRz.frozen 1
    have f2 := DRz.frozen 2
    have f3 := DRz.frozen 3
    clear hO1v hO4v hO2 DRv hbv hb6 DV HRp
    go_wp2_with fail
    refine bodyPost_ret (v := .tuple #[.agg #[.slice (some ⟨w.heap.size + 1, 0, none⟩) W W, .slice (some ⟨g, 0, none⟩) R R, .slice none 0 0, .slice (some ⟨w.heap.size + 1 + 1, 0, none⟩) H H], .int .i64 0]) ?_ rfl ⟨below_block4 hb7 (Nat.le_refl _) _ _ _ _, _, W, _, R, _, H, rfl, HO.out.store DRz _ _ _ _⟩
    have z4 := (((DRz.set_ 0 (.slice (some ⟨w.heap.size + 1, 0, none⟩) W W)).set_ 1 (.slice (some ⟨g, 0, none⟩) R R)).set_ 2 (.slice none 0 0)).set_ 3 (.slice (some ⟨w.heap.size + 1 + 1, 0, none⟩) H H)
    obtain ⟨z0, z1, z2, z3⟩ := z4.four
    simp only [results, Tryz.results16]
    go_simp

theorem eq_true {α : Type} [DecidableEq α] (a : α) : decide (a = a) = true := decide_eq_true rfl
set_option maxHeartbeats 1000000 in
theorem stores_true (w : World) : Calls Tryz.prog 5 #[] w fun e w' => e = .returned (.bool true) ∧ Below w.heap.size w w' := by
  have H := Lib.hid (newFn_ok 4 1 1 w (by decide) (by decide) (by decide))
  go_enter Tryz.func5, Tryz.ntmps5
  go_wp2_with fail
  refine H.out.mono ?_
  rintro e w1 ⟨hb, A1, c1, A2, c2, A4, c4, rfl, -⟩
  have DG := Blk.new w1 28 #[.slice A1 4 c1, .slice A2 1 c2, .slice none 0 0, .slice A4 1 c4]
  have hb2 := hb.alloc hb.size (.cells #[.slice A1 4 c1, .slice A2 1 c2, .slice none 0 0, .slice A4 1 c4] 28)
  obtain ⟨o0, o1, o2, o3⟩ := DG.four
  go_wp2_with fail
  go_ret
  exact ⟨by first | rfl | simp, hb2⟩
end Go.Proofs.YtbhbgdlnfobjaaaGreat

/-
  package same: equal.
-/
namespace Go.Proofs.YtbhbgdlnfobjaaaGreat
open Go.RowKit

set_option maxRecDepth 100000 in
set_option maxHeartbeats 1000000 in
theorem equalOb_any (o1 o2 : Ob) (v1 v2 : ObV) (w : World) (h1 : ObR w w.heap.size o1 v1) (h2 : ObR w w.heap.size o2 v2) (hn1 : v1.n1 ≤ 1000000 ∧ v1.n2 ≤ 1000000) (hn2' : v2.n1 ≤ 1000000 ∧ v2.n2 ≤ 1000000) :
    Calls Tryz.prog 20 #[.agg #[.int .i64 v1.t, .slice v1.A1 v1.n1 v1.c1, .slice v1.A2 v1.n2 v1.c2, .bool v1.f], .agg #[.int .i64 v2.t, .slice v2.A1 v2.n1 v2.c1, .slice v2.A2 v2.n2 v2.c2, .bool v2.f]] w fun e w' => e = .returned (.bool (decide (o1 = o2))) ∧ Below w.heap.size w w' := by
  obtain ⟨a1, a2, -, -, -, -, a7, a8⟩ := h1
  obtain ⟨b1, b2, -, -, -, -, b7, b8⟩ := h2
  obtain ⟨t1, A1, n1, c1, A2, n2, c2, f1⟩ := v1
  obtain ⟨t2, B1, m1, d1, B2, m2, d2, f2⟩ := v2
  obtain ⟨s1, r1, y1, g1⟩ := o1
  obtain ⟨s2, r2, y2, g2⟩ := o2
  dsimp only at *
  subst a1 a2 b1 b2
  obtain ⟨hn1, hn2⟩ := hn1
  obtain ⟨hm1, hm2⟩ := hn2'
  have hbw := (below_new w (.cells #[.int .i64 t1, .slice A1 n1 c1, .slice A2 n2 c2, .bool f1] 61)).alloc (by simp) (.cells #[.int .i64 t2, .slice B1 m1 d1, .slice B2 m2 d2, .bool f2] 61)
  have HBW := Lib.hid hbw
  have HI := Lib.hid (fun W (hr : Below w.heap.size w W) => equal_int A1 B1 n1 c1 m1 d1 _ _ r1 r2 W (a7.below hr) (b7.below hr) (by omega) (by omega))
  have HU := Lib.hid (fun W (hr : Below w.heap.size w W) => equal_u64 A2 B2 n2 c2 m2 d2 _ _ y1 y2 W (a8.below hr) (b8.below hr) (by omega) (by omega))
  clear a7 a8 b7 b8 hbw hn1 hn2 hm1 hm2
  by_cases e1 : t1 = t2
  · subst e1
    by_cases e2 : f1 = f2
    · subst e2
      by_cases e3 : r1 = r2
      · have HE3 : Hid (decide (r1 = r2) = true) := decide_eq_true e3
        by_cases e4 : y1 = y2
        · have HE4 : Hid (decide (y1 = y2) = true) := decide_eq_true e4
          have HD : Hid (decide ((⟨t1, r1, y1, f1⟩ : Ob) = ⟨t1, r2, y2, f1⟩) = true) := by show _ = _; rw [e3, e4]; exact decide_eq_true rfl
          clear e3 e4
          go_enter Tryz.func20, Tryz.ntmps20
          go_wp2_with fail
          refine (HI.out _ HBW.out).mono ?_
          rw [HE3.out]
          rintro e w1 ⟨rfl, q, rfl⟩
          go_wp2_with fail
          refine (HU.out _ (below_drewN HBW.out q)).mono ?_
          rw [HE4.out]
          rintro e w1 ⟨rfl, q2, rfl⟩
          go_wp2
          go_ret
          exact ⟨by rw [HD.out]; rfl, below_drewN HBW.out _⟩
        · have HE4 : Hid (decide (y1 = y2) = false) := decide_eq_false e4
          have HD : Hid (decide ((⟨t1, r1, y1, f1⟩ : Ob) = ⟨t1, r2, y2, f1⟩) = false) := by show _ = _; rw [decide_eq_false]; intro h; injection h with _ _ h _; exact e4 h
          clear e3 e4
          go_enter Tryz.func20, Tryz.ntmps20
          go_wp2_with fail
          refine (HI.out _ HBW.out).mono ?_
          rw [HE3.out]
          rintro e w1 ⟨rfl, q, rfl⟩
          go_wp2_with fail
          refine (HU.out _ (below_drewN HBW.out q)).mono ?_
          rw [HE4.out]
          rintro e w1 ⟨rfl, q2, rfl⟩
          go_wp2
          go_ret
          exact ⟨by rw [HD.out]; rfl, below_drewN HBW.out _⟩
      · have HE3 : Hid (decide (r1 = r2) = false) := decide_eq_false e3
        have HD : Hid (decide ((⟨t1, r1, y1, f1⟩ : Ob) = ⟨t1, r2, y2, f1⟩) = false) := by show _ = _; rw [decide_eq_false]; intro h; injection h with _ h _ _; exact e3 h
        clear e3
        go_enter Tryz.func20, Tryz.ntmps20
        go_wp2_with fail
        refine (HI.out _ HBW.out).mono ?_
        rw [HE3.out]
        rintro e w1 ⟨rfl, q, rfl⟩
        go_wp2
        go_ret
        exact ⟨by rw [HD.out]; rfl, below_drewN HBW.out q⟩
    · have HD : Hid (decide ((⟨t1, r1, y1, f1⟩ : Ob) = ⟨t1, r2, y2, f2⟩) = false) := by show _ = _; rw [decide_eq_false]; intro h; injection h with _ _ _ h; exact e2 h
      have e2' : (f1 == f2) = false := by simpa using e2
      clear e2
      go_enter Tryz.func20, Tryz.ntmps20
      go_wp2
      go_ret
      exact ⟨by rw [HD.out]; rfl, HBW.out⟩
  · have HD : Hid (decide ((⟨t1, r1, y1, f1⟩ : Ob) = ⟨t2, r2, y2, f2⟩) = false) := by show _ = _; rw [decide_eq_false]; intro h; injection h with h; exact e1 h
    have e1' : (t1 == t2) = false := by simpa using e1
    clear e1
    go_enter Tryz.func20, Tryz.ntmps20
    go_wp2
    go_ret
    exact ⟨by rw [HD.out]; rfl, HBW.out⟩
end Go.Proofs.YtbhbgdlnfobjaaaGreat

/-
  slices.EqualFunc of two lists of objects, whatever says that two are the same.
-/
namespace Go.Proofs.YtbhbgdlnfobjaaaGreat
open Go.RowKit

theorem Reads.obv {w : World} {B : Nat} {A : Option Addr} {n j : Nat} {l : List ObV} (h : Reads w B 4 A n (l.flatMap obvC)) (hj : j < n) :
    ∃ ad s, A = some ad ∧ ad.block < B ∧ l[j]? = some s ∧ w.cell? (ad.add (j * 4)) = some (.int .i64 s.t) ∧ w.cell? ⟨(ad.add (j * 4)).block, (ad.add (j * 4)).off + 1, none⟩ = some (.slice s.A1 s.n1 s.c1) ∧
      w.cell? ⟨(ad.add (j * 4)).block, (ad.add (j * 4)).off + 2, none⟩ = some (.slice s.A2 s.n2 s.c2) ∧ w.cell? ⟨(ad.add (j * 4)).block, (ad.add (j * 4)).off + 3, none⟩ = some (.bool s.f) := by
  obtain ⟨ad, s, e, hb, hs, c0, cs⟩ := Reads.elem (f := obvC) (k := 4) (fun _ => rfl) h (by decide) hj
  exact ⟨ad, s, e, hb, hs, c0, cs 1 (by decide) (by decide), cs 2 (by decide) (by decide), cs 3 (by decide) (by decide)⟩

set_option maxRecDepth 100000 in
set_option maxHeartbeats 2000000 in
theorem equalObsF_any (F : Nat) (hP : Plain Tryz.prog F) (HC : ∀ (o1 o2 : Ob) (v1 v2 : ObV) (w : World), ObR w w.heap.size o1 v1 → ObR w w.heap.size o2 v2 → v1.n1 ≤ 1000000 ∧ v1.n2 ≤ 1000000 → v2.n1 ≤ 1000000 ∧ v2.n2 ≤ 1000000 →
    Calls Tryz.prog F #[.agg #[.int .i64 v1.t, .slice v1.A1 v1.n1 v1.c1, .slice v1.A2 v1.n2 v1.c2, .bool v1.f], .agg #[.int .i64 v2.t, .slice v2.A1 v2.n1 v2.c1, .slice v2.A2 v2.n2 v2.c2, .bool v2.f]] w fun e w' => e = .returned (.bool (decide (o1 = o2))) ∧ Below w.heap.size w w')
    (A1 A2 : Option Addr) (n c m d : Nat) (os1 os2 : List Ob) (vs1 vs2 : List ObV) (w : World) (hr1 : Reads w w.heap.size 4 A1 n (vs1.flatMap obvC)) (hr2 : Reads w w.heap.size 4 A2 m (vs2.flatMap obvC)) (h1 : ObsR w w.heap.size os1 vs1) (h2 : ObsR w w.heap.size os2 vs2)
    (l1 : os1.length = n) (l2 : os2.length = m) (hn : n ≤ 1000000) (hm : m ≤ 1000000) (b1 : ∀ o ∈ os1, o.refs.length ≤ 1000000 ∧ o.body.length ≤ 1000000) (b2 : ∀ o ∈ os2, o.refs.length ≤ 1000000 ∧ o.body.length ≤ 1000000) :
    Calls Tryz.prog 19 #[.slice A1 n c, .slice A2 m d, .func (.func F) #[] #[]] w fun e w' => e = .returned (.bool (decide (os1 = os2))) ∧ Below w.heap.size w w' := by
  have HCH := Lib.hid HC
  clear HC
  have hcf := fun (x y : Value) (w : World) => hP #[x, y] w
  by_cases hnm : n = m
  · subst hnm
    have L1 := Lib.hid l1
    have L2 := Lib.hid l2
    have H1 := Lib.hid h1
    have H2 := Lib.hid h2
    have B1 := Lib.hid b1
    have B2 := Lib.hid b2
    have z1 : ((n : Int) != (n : Int)) = false := by simp
    clear l1 l2 h1 h2 b1 b2
    go_enter Tryz.func19, Tryz.ntmps19
    go_wp2
    go_loopw [17] (fun i wr => ∃ j : Nat, j ≤ n ∧ i = .int .i64 j ∧ Hid (os1.take j = os2.take j) ∧ Below w.heap.size w wr) (fun i _ => n - (intOf i).toNat)
    case atStart => exact ⟨0, Nat.zero_le _, rfl, by show _ = _; simp, Below.refl _ _⟩
    case round =>
      obtain ⟨j, hj, rfl, HD, hb⟩ := hrel
      by_cases hlt : j < n
      · obtain ⟨ad, v1, rfl, had, hv1, c0, c1, c2, c3⟩ := (hr1.below hb).obv hlt
        obtain ⟨ad2, v2, rfl, had2, hv2, d0, d1, d2, d3⟩ := (hr2.below hb).obv hlt
        have ho1 : os1[j]? = some (os1[j]'(by rw [L1.out]; exact hlt)) := List.getElem?_eq_getElem _
        have ho2 : os2[j]? = some (os2[j]'(by rw [L2.out]; exact hlt)) := List.getElem?_eq_getElem _
        generalize os1[j]'(by rw [L1.out]; exact hlt) = o1 at ho1
        generalize os2[j]'(by rw [L2.out]; exact hlt) = o2 at ho2
        have r1 := H1.out.2 j o1 v1 ho1 hv1
        have r2 := H2.out.2 j o2 v2 ho2 hv2
        have q1 := B1.out o1 (List.mem_of_getElem? ho1)
        have q2 := B2.out o2 (List.mem_of_getElem? ho2)
        have e1 : v1.n1 = o1.refs.length ∧ v1.n2 = o1.body.length := ⟨r1.2.2.2.2.1, r1.2.2.2.2.2.1⟩
        have e2 : v2.n1 = o2.refs.length ∧ v2.n2 = o2.body.length := ⟨r2.2.2.2.2.1, r2.2.2.2.2.2.1⟩
        have hbx := (hb.alloc hb.size (.cells #[.int .i64 v1.t, .slice v1.A1 v1.n1 v1.c1, .slice v1.A2 v1.n2 v1.c2, .bool v1.f] 61)).alloc (by rw [World.size_alloc]; have := hb.size; omega) (.cells #[.int .i64 v2.t, .slice v2.A1 v2.n1 v2.c1, .slice v2.A2 v2.n2 v2.c2, .bool v2.f] 61)
        have HE := Lib.hid (HCH.out o1 o2 v1 v2 _ (r1.keep hbx hbx.size) (r2.keep hbx hbx.size) (by omega) (by omega))
        have D1 := (Blk.new wr 61 #[.int .i64 v1.t, .slice v1.A1 v1.n1 v1.c1, .slice v1.A2 v1.n2 v1.c2, .bool v1.f]).alloc (.cells #[.int .i64 v2.t, .slice v2.A1 v2.n1 v2.c1, .slice v2.A2 v2.n2 v2.c2, .bool v2.f] 61)
        have D2 := Blk.new (wr.alloc (.cells #[.int .i64 v1.t, .slice v1.A1 v1.n1 v1.c1, .slice v1.A2 v1.n2 v1.c2, .bool v1.f] 61)) 61 #[.int .i64 v2.t, .slice v2.A1 v2.n1 v2.c1, .slice v2.A2 v2.n2 v2.c2, .bool v2.f]
        simp only [World.size_alloc] at D2
        have x0 := D1.cell 0
        have x1 := D1.cell 1
        have x2 := D1.cell 2
        have x3 := D1.cell 3
        have y0 := D2.cell 0
        have y1 := D2.cell 1
        have y2 := D2.cell 2
        have y3 := D2.cell 3
        have sz := hb.size
        have D0 : ∀ i u, wr.cell? ⟨(ad2.add (j * 4)).block, i, none⟩ = some u → (wr.alloc (.cells #[.int .i64 v1.t, .slice v1.A1 v1.n1 v1.c1, .slice v1.A2 v1.n2 v1.c2, .bool v1.f] 61)).cell? ⟨(ad2.add (j * 4)).block, i, none⟩ = some u := fun i u h => by
          rw [World.cell?_alloc_lt wr _ _ (by unfold Addr.add; split <;> (first | omega | (dsimp only; omega)))]
          exact h
        have d0' : (wr.alloc (.cells #[.int .i64 v1.t, .slice v1.A1 v1.n1 v1.c1, .slice v1.A2 v1.n2 v1.c2, .bool v1.f] 61)).cell? (ad2.add (j * 4)) = some (.int .i64 v2.t) := by
          rw [World.cell?_alloc_lt wr _ _ (by unfold Addr.add; split <;> (first | omega | (dsimp only; omega)))]
          exact d0
        have d1' := D0 _ _ d1
        have d2' := D0 _ _ d2
        have d3' := D0 _ _ d3
        simp only [List.getElem?_toArray, List.getElem?_cons_zero, List.getElem?_cons_succ] at x0 x1 x2 x3 y0 y1 y2 y3
        have hj1 : j + 1 ≤ n := hlt
        have HO1 := Lib.hid ho1
        have HO2 := Lib.hid ho2
        have hjn : j < n := hlt
        clear hv1 hv2 ho1 ho2 r1 r2 q1 q2 e1 e2 D0 D1 D2
        by_cases heq : o1 = o2
        · have HD2 : Hid (os1.take (j + 1) = os2.take (j + 1)) := by
            show _ = _
            obtain ⟨z1, z2⟩ := List.getElem?_eq_some_iff.1 HO1.out
            obtain ⟨z3, z4⟩ := List.getElem?_eq_some_iff.1 HO2.out
            rw [List.take_succ_eq_append_getElem z1, List.take_succ_eq_append_getElem z3, HD.out, z2, z4, heq]
          rw [decide_eq_true heq] at HE
          clear heq
          go_wp2_with fail
          refine HE.out.mono ?_
          rintro e w5 ⟨rfl, hb5⟩
          have hb6 := hbx.trans (hb5.mono hbx.size)
          go_wp2
          go_roundw
          case rel => exact ⟨j + 1, hj1, by go_num, HD2, hb6⟩
          case measure => simp [intOf]; omega
        · have HN : Hid (decide (os1 = os2) = false) := decide_eq_false (fun h => by
            subst h
            exact heq (Option.some.inj (HO1.out.symm.trans HO2.out)))
          rw [decide_eq_false heq] at HE
          clear heq
          go_wp2_with fail
          refine HE.out.mono ?_
          rintro e w5 ⟨rfl, hb5⟩
          have hb6 := hbx.trans (hb5.mono hbx.size)
          go_wp2
          go_ret
          exact ⟨by rw [HN.out]; rfl, hb6⟩
      · have hjn : j = n := by omega
        have HY : Hid (decide (os1 = os2) = true) := decide_eq_true (by
          have := HD.out
          rwa [hjn, List.take_of_length_le (by rw [L1.out]; exact Nat.le_refl _), List.take_of_length_le (by rw [L2.out]; exact Nat.le_refl _)] at this)
        have g0 : decide (j < n) = false := decide_eq_false hlt
        clear hjn HD
        go_wp2
        go_ret
        exact ⟨by rw [HY.out]; rfl, hb⟩
  · have HN : Hid (decide (os1 = os2) = false) := decide_eq_false (fun h => hnm (by rw [← l1, ← l2, h]))
    have z1 : ((n : Int) != (m : Int)) = true := by simp; omega
    have z2 : (n != m) = true := by simpa using hnm
    clear hnm
    go_enter Tryz.func19, Tryz.ntmps19
    go_wp2
    go_ret
    exact ⟨by rw [HN.out]; rfl, Below.refl _ _⟩

end Go.Proofs.YtbhbgdlnfobjaaaGreat

/-
  package same: Alike.
-/
namespace Go.Proofs.YtbhbgdlnfobjaaaGreat
open Go.RowKit

theorem equalObs_any (A1 A2 : Option Addr) (n c m d : Nat) (os1 os2 : List Ob) (vs1 vs2 : List ObV) (w : World) (hr1 : Reads w w.heap.size 4 A1 n (vs1.flatMap obvC)) (hr2 : Reads w w.heap.size 4 A2 m (vs2.flatMap obvC)) (h1 : ObsR w w.heap.size os1 vs1) (h2 : ObsR w w.heap.size os2 vs2)
    (l1 : os1.length = n) (l2 : os2.length = m) (hn : n ≤ 1000000) (hm : m ≤ 1000000) (b1 : ∀ o ∈ os1, o.refs.length ≤ 1000000 ∧ o.body.length ≤ 1000000) (b2 : ∀ o ∈ os2, o.refs.length ≤ 1000000 ∧ o.body.length ≤ 1000000) :
    Calls Tryz.prog 19 #[.slice A1 n c, .slice A2 m d, .func (.func 20) #[] #[]] w fun e w' => e = .returned (.bool (decide (os1 = os2))) ∧ Below w.heap.size w w' :=
  equalObsF_any 20 (plain_of (fn := Tryz.f20) Tryz.func20 (by kernel_rfl) (by kernel_rfl)) equalOb_any A1 A2 n c m d os1 os2 vs1 vs2 w hr1 hr2 h1 h2 l1 l2 hn hm b1 b2

def AliveF (a f : List Int) : Prop := checkE a = 0 ∧ ∀ x ∈ f, x ∈ begsL (spotsL a)

set_option maxHeartbeats 1000000 in
theorem form_bad (A : Option Addr) (n c : Nat) (a : List Int) (A2 : Option Addr) (n2 c2 : Nat) (w : World) (hr : Reads w w.heap.size 1 A n (a.map (.int .u64))) (hnc : n ≤ c) (ha : ∀ x ∈ a, (Lit.int .u64 x).wf = true) (hE : checkE a ≠ 0) :
    Calls Tryz.prog 18 #[.slice A n c, .slice A2 n2 c2] w fun e w' => e = .returned (.tuple #[.agg #[.slice none 0 0, .slice none 0 0], .int .i64 (checkE a)]) ∧ Below w.heap.size w w' := by
  have H := Lib.hid (fun w hr => order_bad A n c a A2 n2 c2 w hr hnc ha hE)
  have hE1 : (checkE a != 0) = true := by simpa using hE
  have R0 := Blk.new w 56 #[.slice none 0 0, .slice none 0 0]
  have hb0 := below_new w (.cells #[.slice none 0 0, .slice none 0 0] 56)
  generalize checkE a = E at *
  clear hE
  go_enter Tryz.func18, Tryz.ntmps18
  go_wp2_with fail
  refine (H.out _ ((hr.below hb0).more hb0.size)).mono ?_
  rintro e w1 ⟨rfl, hb1⟩
  have R1 := R0.below hb1 R0.lt
  have r0 := R1.cell 0
  have r1 := R1.cell 1
  have f0 := R1.frozen 0
  have f1 := R1.frozen 1
  simp only [List.getElem?_toArray, List.getElem?_cons_zero, List.getElem?_cons_succ] at r0 r1
  have hb01 := below_step hb0 hb1
  go_wp2
  refine bodyPost_ret (v := .tuple #[.agg #[.slice none 0 0, .slice none 0 0], .int .i64 E]) ?_ rfl ⟨rfl, ?_⟩
  · simp only [results, Tryz.results18]
    go_simp
  · iterate 2 refine Below.setCell ?_ (by dsimp only; omega) _
    exact hb01

/-- Form, in all. -/
def FormPost (a f : List Int) (n2 : Nat) (w : World) (e : Ending) (w' : World) : Prop := Below w.heap.size w w' ∧
  ((AliveF a f ∧ ∃ (os : List Ob) (fr : List Int) (vs : List ObV) (Ao : Option Addr) (co : Nat) (Af : Option Addr) (cf : Nat), FormIs a f os fr ∧ os.length ≤ 256 ∧ fr.length = n2 ∧ e = .returned (.tuple #[.agg #[.slice Ao os.length co, .slice Af n2 cf], .int .i64 0]) ∧
      w'.ownsRow w.heap.size 61 4 (.slice Ao os.length co) os.length (vs.flatMap obvC) ∧ ObsO w' w.heap.size os vs ∧ w'.ownsRow w.heap.size 3 1 (.slice Af n2 cf) n2 (fr.map (.int .i64))) ∨
   (¬ AliveF a f ∧ ∃ er : Int, (er != 0) = true ∧ e = .returned (.tuple #[.agg #[.slice none 0 0, .slice none 0 0], .int .i64 er])))
theorem form_any (A : Option Addr) (n c : Nat) (a : List Int) (A2 : Option Addr) (n2 c2 : Nat) (f : List Int) (w : World) (hr : Reads w w.heap.size 1 A n (a.map (.int .u64))) (hnc : n ≤ c) (ha : ∀ x ∈ a, (Lit.int .u64 x).wf = true)
    (hr2 : Reads w w.heap.size 1 A2 n2 (f.map (.int .i64))) (hn2 : n2 * 8 ≤ 140737488355328) (hx2 : ∀ x ∈ f, (Lit.int .i64 x).wf = true) :
    Calls Tryz.prog 18 #[.slice A n c, .slice A2 n2 c2] w (FormPost a f n2 w) := by
  by_cases hE : checkE a = 0
  · refine Calls.mono (form_ok A n c a A2 n2 c2 f w hr hnc ha hr2 hn2 hx2 hE) ?_
    rintro e w' ⟨hb, ⟨hall, h⟩ | ⟨hno, h⟩⟩
    · exact ⟨hb, .inl ⟨⟨hE, hall⟩, h⟩⟩
    · exact ⟨hb, .inr ⟨fun h => hno h.2, h⟩⟩
  · refine Calls.mono (form_bad A n c a A2 n2 c2 w hr hnc ha hE) ?_
    rintro e w' ⟨rfl, hb⟩
    exact ⟨hb, .inr ⟨fun h => hE h.1, checkE a, by simpa using hE, rfl⟩⟩

theorem FormIs.short {a f : List Int} {os : List Ob} {fr : List Int} (h : FormIs a f os fr) (hE : checkE a = 0) : ∀ o ∈ os, o.refs.length ≤ 1000000 ∧ o.body.length ≤ 1000000 := by
  obtain ⟨L, -, rfl, -⟩ := h
  have hal := (parse_ok (checkE_ok.1 hE).1).1
  intro o ho
  obtain ⟨x, -, rfl⟩ := List.mem_map.1 ho
  unfold formO
  split
  · rename_i s _
    have h2 : (refsOf a s).length ≤ a.length := by unfold refsOf; rw [List.length_take, List.length_drop]; omega
    have h3 : (bodyOf a s).length ≤ a.length := by unfold bodyOf; rw [List.length_take, List.length_drop]; omega
    dsimp only
    rw [List.length_map]
    omega
  · simp

set_option maxRecDepth 100000 in
set_option maxHeartbeats 2000000 in
theorem alike_any (A : Option Addr) (n c : Nat) (a : List Int) (A2 : Option Addr) (n2 c2 : Nat) (f : List Int) (B : Option Addr) (m d : Nat) (b : List Int) (B2 : Option Addr) (m2 d2 : Nat) (g : List Int) (w : World) (hr : Reads w w.heap.size 1 A n (a.map (.int .u64))) (hnc : n ≤ c) (ha : ∀ x ∈ a, (Lit.int .u64 x).wf = true)
    (hr2 : Reads w w.heap.size 1 A2 n2 (f.map (.int .i64))) (hn2 : n2 * 8 ≤ 140737488355328) (hx2 : ∀ x ∈ f, (Lit.int .i64 x).wf = true) (hrb : Reads w w.heap.size 1 B m (b.map (.int .u64))) (hmd : m ≤ d) (hb : ∀ x ∈ b, (Lit.int .u64 x).wf = true)
    (hrb2 : Reads w w.heap.size 1 B2 m2 (g.map (.int .i64))) (hm2 : m2 * 8 ≤ 140737488355328) (hy2 : ∀ x ∈ g, (Lit.int .i64 x).wf = true) :
    Calls Tryz.prog 7 #[.slice A n c, .slice A2 n2 c2, .slice B m d, .slice B2 m2 d2] w fun e w' => Below w.heap.size w w' ∧
      ((AliveF a f ∧ AliveF b g ∧ ∃ os fr os' fr', FormIs a f os fr ∧ FormIs b g os' fr' ∧ e = .returned (.tuple #[.bool (decide (os = os') && decide (fr = fr')), .int .i64 0])) ∨
       (¬ (AliveF a f ∧ AliveF b g) ∧ ∃ er : Int, (er != 0) = true ∧ e = .returned (.tuple #[.bool false, .int .i64 er]))) := by
  have H1 := Lib.hid (form_any A n c a A2 n2 c2 f w hr hnc ha hr2 hn2 hx2)
  have H2 := Lib.hid (fun w hr hr2 => form_any B m d b B2 m2 d2 g w hr hmd hb hr2 hm2 hy2)
  clear ha hx2 hb hy2
  go_enter Tryz.func7, Tryz.ntmps7
  go_wp2_with fail
  refine H1.out.mono ?_
  rintro e w1 ⟨hb1, ⟨hA, os, fr, vs, Ao, co, Af, cf, hF, hos, hfr, rfl, hO, hI, hR⟩ | ⟨hno, er, her, rfl⟩⟩
  · have G1 := Blk.new w1 56 #[.slice Ao os.length co, .slice Af n2 cf]
    have hbn := below_new w1 (.cells #[.slice Ao os.length co, .slice Af n2 cf] 56)
    have hb2 := below_step hb1 hbn
    have H2' := Lib.hid (H2.out _ ((hrb.below hb2).more hb2.size) ((hrb2.below hb2).more hb2.size))
    have HA := Lib.hid hA
    have HF := Lib.hid hF
    have hrO := ((Reads.of_own hO).below hbn).more hbn.size
    have hrR := ((Reads.of_own hR).below hbn).more hbn.size
    have HI1 := Lib.hid (hI.reads.keep hbn hbn.size)
    have HFL := Lib.hid hfr
    obtain ⟨k, hk⟩ : ∃ k, k = os.length := ⟨_, rfl⟩
    rw [← hk] at hrO G1 hos ⊢
    have HK := Lib.hid hk
    rw [← hk] at HI1 hb2 H2' hrR
    clear hA hF hO hI hR hk hfr hbn
    go_wp2_with fail
    refine H2'.out.mono ?_
    rintro e w3 ⟨hb3, ⟨hA', os', fr', vs', Ao', co', Af', cf', hF', hos', hfr', rfl, hO', hI', hR'⟩ | ⟨hno, er, her, rfl⟩⟩
    · have G3 := Blk.new w3 56 #[.slice Ao' os'.length co', .slice Af' m2 cf']
      have hbn3 := below_new w3 (.cells #[.slice Ao' os'.length co', .slice Af' m2 cf'] 56)
      have hb34 := below_step hb3 hbn3
      have hb04 := below_step hb2 hb34
      have G14 := G1.below hb34 G1.lt
      have hrO4 := (hrO.below hb34).more hb34.size
      have hrR4 := hrR.below hb34
      have HI4 := Lib.hid (HI1.out.keep hb34 hb34.size)
      have hrO' := ((Reads.of_own hO').below hbn3).more hbn3.size
      have hrR' := (Reads.of_own hR').below hbn3
      have HI' := Lib.hid (hI'.reads.keep hbn3 hbn3.size)
      have HA' := Lib.hid hA'
      have HF' := Lib.hid hF'
      have hs1 := HF.out.short HA.out.1
      have hs2 := hF'.short hA'.1
      have HEq := Lib.hid (equalObs_any Ao Ao' k co os'.length co' os os' vs vs' _ hrO4 hrO' HI4.out HI'.out HK.out.symm rfl (by omega) (by omega) hs1 hs2)
      obtain ⟨k', hk'⟩ : ∃ k', k' = os'.length := ⟨_, rfl⟩
      rw [← hk'] at G3 hos' HEq ⊢
      have g0 := G14.cell 0
      have g1 := G14.cell 1
      have p0 := G3.cell 0
      have p1 := G3.cell 1
      rw [← hk'] at g0 g1 hrR4 hrR' hb04 hb34 G14
      simp only [List.getElem?_toArray, List.getElem?_cons_zero, List.getElem?_cons_succ] at g0 g1 p0 p1
      have hrR4' := fun W (hbW : Below (w3.alloc (.cells #[.slice Ao' k' co', .slice Af' m2 cf'] 56)).heap.size (w3.alloc (.cells #[.slice Ao' k' co', .slice Af' m2 cf'] 56)) W) => hrR4.below (hbW.mono hb34.size)
      have hrR'' := fun W (hbW : Below (w3.alloc (.cells #[.slice Ao' k' co', .slice Af' m2 cf'] 56)).heap.size (w3.alloc (.cells #[.slice Ao' k' co', .slice Af' m2 cf'] 56)) W) => hrR'.below (hbW.mono (by rw [World.size_alloc]; omega))
      have HE2 := Lib.hid (fun W hbW => equal_int Af Af' n2 cf m2 cf' _ _ fr fr' W (hrR4' W hbW) (hrR'' W hbW) (by omega) (by omega))
      have HG1 := Lib.hid G14
      have HG3 := Lib.hid G3
      clear hA' hF' hO' hI' hR' hk' hfr' hrR4' hrR'' hs1 hs2 hbn3 hb3
      cases hd : decide (os = os')
      · rw [hd] at HEq
        have HD := Lib.hid hd
        clear hd
        go_wp2_with fail
        refine HEq.out.mono ?_
        rintro e w5 ⟨rfl, hb5⟩
        go_wp2
        go_ret2
        exact ⟨below_step hb04 hb5, .inl ⟨HA.out, HA'.out, os, fr, os', fr', HF.out, HF'.out, by rw [HD.out]; rfl⟩⟩
      · rw [hd] at HEq
        have HD := Lib.hid hd
        clear hd g0 g1 p0 p1
        have g0 := HG1.out.cell 0
        have g1 := HG1.out.cell 1
        have p0 := HG3.out.cell 0
        have p1 := HG3.out.cell 1
        simp only [List.getElem?_toArray, List.getElem?_cons_zero, List.getElem?_cons_succ] at g0 g1 p0 p1
        go_wp2_with fail
        refine HEq.out.mono ?_
        rintro e w5 ⟨rfl, hb5⟩
        have G15 := HG1.out.below hb5 HG1.out.lt
        have G35 := HG3.out.below hb5 HG3.out.lt
        have q1 := G15.cell 1
        have q2 := G35.cell 1
        simp only [List.getElem?_toArray, List.getElem?_cons_zero, List.getElem?_cons_succ] at q1 q2
        obtain ⟨bf, hbf⟩ : ∃ bf, bf = decide (fr = fr') := ⟨_, rfl⟩
        have HBF := Lib.hid hbf
        have HE2' := HE2.out w5 hb5
        rw [← hbf] at HE2'
        have HE3 := Lib.hid HE2'
        clear hbf HE2' G15 G35 g0 g1 p0 p1
        go_wp2_with fail
        refine HE3.out.mono ?_
        rintro e w6 ⟨rfl, q6, rfl⟩
        go_wp2
        go_ret2
        exact ⟨below_drewN (below_step hb04 hb5) _, .inl ⟨HA.out, HA'.out, os, fr, os', fr', HF.out, HF'.out, by rw [HD.out, ← HBF.out]; rfl⟩⟩
    · have HN : Hid (¬ (AliveF a f ∧ AliveF b g)) := fun h => hno h.2
      have her2 := her
      clear hno her
      go_wp2
      go_ret2
      exact ⟨(below_step hb2 hb3).alloc (below_step hb2 hb3).size _, .inr ⟨HN.out, er, her2, rfl⟩⟩
  · have HN : Hid (¬ (AliveF a f ∧ AliveF b g)) := fun h => hno h.1
    have her2 := her
    clear hno her
    go_wp2
    go_ret2
    exact ⟨hb1.alloc hb1.size _, .inr ⟨HN.out, er, her2, rfl⟩⟩
end Go.Proofs.YtbhbgdlnfobjaaaGreat

/-
  Plain law: what is reached behind a collection. No program stands here.
-/
namespace Go.Proofs.YtbhbgdlnfobjaaaGreat
open Go.RowKit

theorem Reached.roots_same {a f g L : List Int} {S : List Spot} (h : Reached a S f L) (hs : ∀ x, x ∈ f ↔ x ∈ g) : Reached a S g L :=
  ⟨h.begs, fun x hx => h.roots x ((hs x).2 hx), h.closed, fun X h1 h2 => h.least X (fun x hx => h1 x ((hs x).1 hx)) h2, h.sorted, h.once⟩
theorem longsL_phi {S T : List Spot} {φ : Int → Int} : ∀ {L : List Int}, (∀ x ∈ L, longW T (φ x) = longW S x) → longsL T (L.map φ) = longsL S L
  | [], _ => rfl
  | x :: L, h => by
    simp only [List.map_cons, longsL]
    rw [h x List.mem_cons_self, longsL_phi (fun y hy => h y (List.mem_cons_of_mem _ hy))]
section
variable {S S' : St} {fr : Int} {L Y now : List Int}
theorem Coll.strict (h : Coll S S' fr L Y now) : Y.Pairwise (· < ·) := by
  obtain ⟨hK, -⟩ := kept_of h.is.longs
  rw [h.is.y]
  exact slid_pairwise _ L _ 0 hK (fun x hx => (cleaned_of h.is).plan.nn2 x (List.mem_of_getElem? hx))
theorem Coll.reached (h : Coll S S' fr L Y now) (hS : StOk S) : Reached S'.a (spotsL S'.a) (rootedL S') Y := by
  have hC := cleaned_of h.is
  have hmap : L.map (posL L Y) = Y := posL_map hC.plan.nodup hC.plan.len
  have hR := reached_iso hC.laid.iso hC.plan.nn2 h.is.reached (by rw [hmap]; exact h.strict.imp (fun h => by omega))
  rw [hmap] at hR
  refine hR.roots_same (fun x => ?_)
  rw [h.rooted hS, List.mem_map, List.mem_map]
  constructor
  · rintro ⟨y, hy, rfl⟩
    refine ⟨y, rooted_begs.1 ?_, rfl⟩
    rcases List.mem_append.1 hy with hy | hy
    · exact hy
    · obtain ⟨z, hz, rfl⟩ := List.mem_map.1 hy
      exact pin_at hz
  · rintro ⟨y, hy, rfl⟩
    exact ⟨y, List.mem_append_left _ (rooted_begs.2 hy), rfl⟩
theorem Coll.longs (h : Coll S S' fr L Y now) : longsL (spotsL S'.a) Y = longsL (spotsL S.a) L := by
  have hC := cleaned_of h.is
  have hmap : L.map (posL L Y) = Y := posL_map hC.plan.nodup hC.plan.len
  conv => lhs; rw [← hmap]
  refine longsL_phi (fun x hx => ?_)
  obtain ⟨s, hs⟩ := begsL_iff.1 (hC.closed.begs x hx)
  obtain ⟨s', hs', e1, e2, -⟩ := hC.laid.iso.at_ x hx s hs
  unfold longW
  rw [hs, hs']
  simp only [Spot.long, e1, e2]
end
theorem StOk.lens {S : St} (h : StOk S) : S.a.length ≤ 256 ∧ S.r.length ≤ 32 ∧ S.p.length ≤ 16 ∧ S.l.length ≤ 16 ∧ (rootedL S).length ≤ 64 := by
  have h1 := (parse_ok (checkE_ok.1 h.arena).1).1
  have h2 := (rootE_ok h.roots).2.2.1
  have h3 := h.pins.len
  have h4 := (handE_ok.1 h.hands).1
  refine ⟨h1, h2, h3, h4, ?_⟩
  unfold rootedL openL pinsL
  have h5 := List.length_filter_le (fun v : Int => decide (0 ≤ v)) S.r
  have h6 := List.length_filter_le (fun s : Slot => s.opn) S.l
  rw [List.length_append, List.length_append, List.length_map, List.length_map]
  omega
theorem StOk.alive {S : St} (h : StOk S) : AliveF S.a (rootedL S) := ⟨h.arena, fun x hx => h.live x (rooted_begs.2 hx)⟩
theorem StOk.wfr {S : St} (h : StOk S) : ∀ x ∈ rootedL S, (Lit.int .i64 x).wf = true := fun x hx => at_wf (begs_bounds h.arena (h.live x (rooted_begs.2 hx)))
end Go.Proofs.YtbhbgdlnfobjaaaGreat

/-
  The laws' own function rooted: the words at which a store's roots, hands and pins are.
-/
namespace Go.Proofs.YtbhbgdlnfobjaaaGreat
open Go.RowKit

def rootsL (r : List Int) : List Int := r.filter (fun v => decide (0 ≤ v))
theorem rootsL_snoc (r : List Int) (x : Int) : rootsL (r ++ [x]) = rootsL r ++ (if 0 ≤ x then [x] else []) := by
  unfold rootsL
  rw [List.filter_append]
  by_cases h : 0 ≤ x <;> simp [h]
theorem pinsL_snoc (p : List Rn) (x : Rn) : pinsL (p ++ [x]) = pinsL p ++ [x.loc] := by unfold pinsL; rw [List.map_append]; rfl

set_option maxRecDepth 100000 in
set_option maxHeartbeats 2000000 in
theorem rooted_any (A : Option Addr) (n c : Nat) (RA : Option Addr) (rn rc : Nat) (PA : Option Addr) (pn pc : Nat) (HA : Option Addr) (hn hc : Nat) (S : St) (w : World)
    (hR : StR w w.heap.size A n RA rn PA pn HA hn S) (h1 : rn ≤ 1000) (h2 : pn ≤ 1000) (h3 : hn ≤ 1000) :
    Calls Tryz.prog 8 #[.agg #[.slice A n c, .slice RA rn rc, .slice PA pn pc, .slice HA hn hc]] w fun e w' => ∃ A' c', e = .returned (.slice A' (rootedL S).length c') ∧
      w'.ownsRow w.heap.size 3 1 (.slice A' (rootedL S).length c') (rootedL S).length ((rootedL S).map (.int .i64)) ∧ Below w.heap.size w w' := by
  obtain ⟨i0, hi, hz0, hz1, hz2⟩ := info_parts info_int
  obtain ⟨-, l2, l3, l4⟩ := hR.lens
  have hrr := hR.r
  have hrp := hR.p
  have hrl := hR.l
  have HT : Hid (rootedL S = (rootsL S.r ++ openL S.l) ++ pinsL S.p) := rfl
  generalize rootedL S = T at *
  obtain ⟨a, r, p, l⟩ := S
  dsimp only at l2 l3 l4 hrr hrp hrl HT
  have HL2 := Lib.hid l2
  have HL3 := Lib.hid l3
  have HL4 := Lib.hid l4
  have hb0 := below_new w (.cells #[.slice A n c, .slice RA rn rc, .slice PA pn pc, .slice HA hn hc] 28)
  have DS := Blk.new w 28 #[.slice A n c, .slice RA rn rc, .slice PA pn pc, .slice HA hn hc]
  obtain ⟨s0, s1, s2, s3⟩ := DS.four
  clear l2 l3 l4 hR
  go_enter Tryz.func8, Tryz.ntmps8
  go_wp2_with fail
  clear s0 s1 s2 s3
  go_loopw [3, 13] (fun o i wr => ∃ (j : Nat) (A' : Option Addr) (k c' : Nat), j ≤ rn ∧ i = .int .i64 j ∧ o = .slice A' k c' ∧ k ≤ 0 + j ∧ Hid (k = (rootsL (r.take j)).length) ∧ wr.ownsRow (w.heap.size + 1) 3 1 (.slice A' k c') k ((rootsL (r.take j)).map (.int .i64)) ∧ Below w.heap.size w wr ∧ Blk wr w.heap.size 28 #[.slice A n c, .slice RA rn rc, .slice PA pn pc, .slice HA hn hc]) (fun _ i _ => rn - (intOf i).toNat)
  case atStart => exact ⟨0, none, 0, 0, Nat.zero_le _, rfl, rfl, Nat.le_refl _, rfl, World.ownsRow_nil _ _ _ _, hb0, DS⟩
  case round =>
    obtain ⟨j, A', k, c', hj, rfl, rfl, hkj, hk, hown, hb, DS⟩ := hrel
    clear hb0
    by_cases hlt : j < rn
    · obtain ⟨ad, x, rfl, had, hx, cx⟩ := (hrr.below hb).num hlt
      have HQ : Hid (rootsL (r.take (j + 1)) = rootsL (r.take j) ++ (if 0 ≤ x then [x] else [])) := by
        show _ = _
        obtain ⟨g1, rfl⟩ := List.getElem?_eq_some_iff.1 hx
        rw [List.take_succ_eq_append_getElem g1, rootsL_snoc]
      clear hx
      generalize hLk : rootsL (r.take j) = Lk at *
      clear hLk
      have hown1 := hown
      have hb1 := hb
      have DS1 := DS
      by_cases h0 : 0 ≤ x
      · have g0 : decide (0 ≤ x) = true := decide_eq_true h0
        have HQ : Hid (rootsL (r.take (j + 1)) = Lk ++ [x]) := by have := HQ.out; rw [if_pos h0] at this; exact this
        clear h0
        have hown2 := hown1.alloc (.cells #[.int .i64 x] 3)
        have hb2 := hb1.alloc hb1.size (.cells #[.int .i64 x] 3)
        have DS2 := DS1.alloc (.cells #[.int .i64 x] 3)
        have hnew := reads_new (wr) [.int .i64 x] 3 1 1 rfl
        clear hown hown1 hb hb1 DS DS1
        go_wp2_with (at_builtin; refine wpList_append_any _ rfl (.tmp 19) (.tmp 21) 23 rfl (w.heap.size + 1) 3 i0 (.int .i64 0) 1 8 Tryz.underlying23 hi hz0 hz1 hz2 rfl (by decide) (.slice A' k c') k _ rfl hown2 _ (some ⟨wr.heap.size, 0, none⟩) 1 1 [.int .i64 x] rfl hnew (by simp [Value.oneCell']) (by unfold maxLen; omega) (by omega) (by have := DS2.lt; omega) ?_; rintro v' w5 hO5 hg5 - -; obtain ⟨A5, c5, rfl⟩ := own_slice hO5)
        have hb3 := hb2.grown hg5 hb2.size (fun g hg => by have := (hown2.lt g hg).1; omega)
        have DS3 := DS2.grown hg5 (fun h => own_off hown2 (Nat.lt_succ_self _) h.symm)
        have HO := Lib.hid hO5
        clear hO5 hown2 hg5 hnew hb2
        go_roundw
        case rel => exact ⟨j + 1, A5, k + 1, c5, by omega, by go_num, rfl, by omega, by show _ = _; rw [HQ.out, List.length_append, ← hk.out]; rfl, by rw [HQ.out, List.map_append]; exact HO.out, hb3, DS3⟩
        case measure => simp [intOf]; omega
      · have g0 : decide (0 ≤ x) = false := decide_eq_false h0
        have HQ : Hid (rootsL (r.take (j + 1)) = Lk) := by have := HQ.out; rw [if_neg h0, List.append_nil] at this; exact this
        clear h0
        go_wp2_with fail
        go_roundw
        case rel => exact ⟨j + 1, A', k, c', by omega, by go_num, rfl, by omega, by rw [HQ.out]; exact hk, by rw [HQ.out]; exact hown, hb, DS⟩
        case measure => simp [intOf]; omega
    · have hjn : rn = j := by omega
      have e : r.take j = r := List.take_of_length_le (by rw [HL2.out]; omega)
      rw [e] at hk hown
      obtain rfl : k = (rootsL r).length := hk.out
      clear hk e
      subst hjn
      obtain ⟨s0, s1, s2, s3⟩ := DS.four
      generalize hRR : rootsL r = R at *
      have HRR := Lib.hid hRR
      clear hRR
      have hR0 : R ++ openL (l.take 0) = R := by simp [openL]
      go_wp2_with fail
      clear s0 s1 s2 s3
      go_loopw [3, 27] (fun o i wr => ∃ (j : Nat) (A' : Option Addr) (k c' : Nat), j ≤ hn ∧ i = .int .i64 j ∧ o = .slice A' k c' ∧ k ≤ 1000 + j ∧ Hid (k = (R ++ openL (l.take j)).length) ∧ wr.ownsRow (w.heap.size + 1) 3 1 (.slice A' k c') k ((R ++ openL (l.take j)).map (.int .i64)) ∧ Below w.heap.size w wr ∧ Blk wr w.heap.size 28 #[.slice A n c, .slice RA rn rc, .slice PA pn pc, .slice HA hn hc]) (fun _ i _ => hn - (intOf i).toNat)
      case atStart => exact ⟨0, A', R.length, c', Nat.zero_le _, rfl, rfl, by omega, by show _ = _; rw [hR0], by rw [hR0]; exact hown, hb, DS⟩
      case round =>
        clear hown hb DS hkj hR0
        obtain ⟨j, A', k, c', hj, rfl, rfl, hkj, hk, hown, hb, DS⟩ := hrel
        by_cases hlt : j < hn
        · obtain ⟨ad, y, rfl, had, hx, q0, q1, q2⟩ := (hrl.below hb).slot hlt
          have HQ : Hid (R ++ openL (l.take (j + 1)) = (R ++ openL (l.take j)) ++ (if y.opn = true then [y.loc] else [])) := by
            show _ = _
            obtain ⟨g1, rfl⟩ := List.getElem?_eq_some_iff.1 hx
            rw [List.take_succ_eq_append_getElem g1, openL_snoc, List.append_assoc]
          clear hx
          obtain ⟨gen, opn, x⟩ := y
          dsimp only at q0 q1 q2 HQ
          generalize hLk : R ++ openL (l.take j) = Lk at *
          clear hLk
          have hb1 := hb.alloc hb.size (.cells #[.int .i64 gen, .bool opn, .int .i64 x] 65)
          have hown1 := hown.alloc (.cells #[.int .i64 gen, .bool opn, .int .i64 x] 65)
          have DS1 := DS.alloc (.cells #[.int .i64 gen, .bool opn, .int .i64 x] 65)
          cases opn
          · have HQ : Hid (R ++ openL (l.take (j + 1)) = Lk) := by have := HQ.out; show _ = _; simpa using this
            go_wp2_with fail
            go_roundw
            case rel => exact ⟨j + 1, A', k, c', by omega, by go_num, rfl, by omega, by rw [HQ.out]; exact hk, by rw [HQ.out]; exact hown1, hb1, DS1⟩
            case measure => simp [intOf]; omega
          · have HQ : Hid (R ++ openL (l.take (j + 1)) = Lk ++ [x]) := by have := HQ.out; show _ = _; simpa using this
            have hown2 := hown1.alloc (.cells #[.int .i64 x] 3)
            have hb2 := hb1.alloc hb1.size (.cells #[.int .i64 x] 3)
            have DS2 := DS1.alloc (.cells #[.int .i64 x] 3)
            have hnew := reads_new (wr.alloc (.cells #[.int .i64 gen, .bool true, .int .i64 x] 65)) [.int .i64 x] 3 1 1 rfl
            rw [World.size_alloc] at hnew
            clear hown hown1 hb hb1 DS DS1
            go_wp2_with (at_builtin; refine wpList_append_any _ rfl (.tmp 33) (.tmp 36) 23 rfl (w.heap.size + 1) 3 i0 (.int .i64 0) 1 8 Tryz.underlying23 hi hz0 hz1 hz2 rfl (by decide) (.slice A' k c') k _ rfl hown2 _ (some ⟨wr.heap.size + 1, 0, none⟩) 1 1 [.int .i64 x] rfl hnew (by simp [Value.oneCell']) (by unfold maxLen; omega) (by omega) (by have := DS2.lt; omega) ?_; rintro v' w5 hO5 hg5 - -; obtain ⟨A5, c5, rfl⟩ := own_slice hO5)
            have hb3 := hb2.grown hg5 hb2.size (fun g hg => by have := (hown2.lt g hg).1; omega)
            have DS3 := DS2.grown hg5 (fun h => own_off hown2 (Nat.lt_succ_self _) h.symm)
            have HO := Lib.hid hO5
            clear hO5 hown2 hg5 hnew hb2
            go_roundw
            case rel => exact ⟨j + 1, A5, k + 1, c5, by omega, by go_num, rfl, by omega, by show _ = _; rw [HQ.out, List.length_append, ← hk.out]; rfl, by rw [HQ.out, List.map_append]; exact HO.out, hb3, DS3⟩
            case measure => simp [intOf]; omega
        · have hjn : hn = j := by omega
          have e : l.take j = l := List.take_of_length_le (by rw [HL4.out]; omega)
          rw [e] at hk hown
          obtain rfl : k = (R ++ openL l).length := hk.out
          clear hk e
          subst hjn
          obtain ⟨s0, s1, s2, s3⟩ := DS.four
          generalize hQQ : R ++ openL l = Q at *
          have HQQ := Lib.hid hQQ
          clear hQQ
          have hQ0 : Q ++ pinsL (p.take 0) = Q := by simp [pinsL]
          go_wp2_with fail
          clear s0 s1 s2 s3
          go_loopw [3, 42] (fun o i wr => ∃ (j : Nat) (A' : Option Addr) (k c' : Nat), j ≤ pn ∧ i = .int .i64 j ∧ o = .slice A' k c' ∧ k ≤ 2000 + j ∧ Hid (k = (Q ++ pinsL (p.take j)).length) ∧ wr.ownsRow (w.heap.size + 1) 3 1 (.slice A' k c') k ((Q ++ pinsL (p.take j)).map (.int .i64)) ∧ Below w.heap.size w wr ∧ Blk wr w.heap.size 28 #[.slice A n c, .slice RA rn rc, .slice PA pn pc, .slice HA hn hc]) (fun _ i _ => pn - (intOf i).toNat)
          case atStart => exact ⟨0, A', Q.length, c', Nat.zero_le _, rfl, rfl, by omega, by show _ = _; rw [hQ0], by rw [hQ0]; exact hown, hb, DS⟩
          case round =>
            clear hown hb DS hkj hQ0
            obtain ⟨j, A', k, c', hj, rfl, rfl, hkj, hk, hown, hb, DS⟩ := hrel
            by_cases hlt : j < pn
            · obtain ⟨ad, y, rfl, had, hx, q0, q1⟩ := (hrp.below hb).run hlt
              have HQ : Hid (Q ++ pinsL (p.take (j + 1)) = (Q ++ pinsL (p.take j)) ++ [y.loc]) := by
                show _ = _
                obtain ⟨g1, rfl⟩ := List.getElem?_eq_some_iff.1 hx
                rw [List.take_succ_eq_append_getElem g1, pinsL_snoc, List.append_assoc]
              clear hx
              obtain ⟨x, y⟩ := y
              dsimp only at q0 q1 HQ
              generalize hLk : Q ++ pinsL (p.take j) = Lk at *
              clear hLk
              have hb1 := hb.alloc hb.size (.cells #[.int .i64 x, .int .i64 y] 41)
              have hown1 := hown.alloc (.cells #[.int .i64 x, .int .i64 y] 41)
              have DS1 := DS.alloc (.cells #[.int .i64 x, .int .i64 y] 41)
              have hown2 := hown1.alloc (.cells #[.int .i64 x] 3)
              have hb2 := hb1.alloc hb1.size (.cells #[.int .i64 x] 3)
              have DS2 := DS1.alloc (.cells #[.int .i64 x] 3)
              have hnew := reads_new (wr.alloc (.cells #[.int .i64 x, .int .i64 y] 41)) [.int .i64 x] 3 1 1 rfl
              rw [World.size_alloc] at hnew
              clear hown hown1 hb hb1 DS DS1
              go_wp2_with (at_builtin; refine wpList_append_any _ rfl (.tmp 46) (.tmp 49) 23 rfl (w.heap.size + 1) 3 i0 (.int .i64 0) 1 8 Tryz.underlying23 hi hz0 hz1 hz2 rfl (by decide) (.slice A' k c') k _ rfl hown2 _ (some ⟨wr.heap.size + 1, 0, none⟩) 1 1 [.int .i64 x] rfl hnew (by simp [Value.oneCell']) (by unfold maxLen; omega) (by omega) (by have := DS2.lt; omega) ?_; rintro v' w5 hO5 hg5 - -; obtain ⟨A5, c5, rfl⟩ := own_slice hO5)
              have hb3 := hb2.grown hg5 hb2.size (fun g hg => by have := (hown2.lt g hg).1; omega)
              have DS3 := DS2.grown hg5 (fun h => own_off hown2 (Nat.lt_succ_self _) h.symm)
              have HO := Lib.hid hO5
              clear hO5 hown2 hg5 hnew hb2
              go_roundw
              case rel => exact ⟨j + 1, A5, k + 1, c5, by omega, by go_num, rfl, by omega, by show _ = _; rw [HQ.out, List.length_append, ← hk.out]; rfl, by rw [HQ.out, List.map_append]; exact HO.out, hb3, DS3⟩
              case measure => simp [intOf]; omega
            · have hjn : j = pn := by omega
              have e : p.take j = p := List.take_of_length_le (by rw [HL3.out]; omega)
              rw [e] at hk hown
              have HTT : Hid (T = Q ++ pinsL p) := by show _ = _; rw [HT.out, ← HQQ.out, ← HRR.out]
              rw [← HTT.out] at hk hown
              obtain rfl : k = T.length := hk.out
              have hown := own_mono hown (Nat.le_succ _)
              clear hk e HTT
              go_wp2_with fail
              go_ret
              exact ⟨A', c', rfl, hown, hb⟩
end Go.Proofs.YtbhbgdlnfobjaaaGreat

/-
  package hold: free, asked, Live, Sure, Never, Widest.
-/
namespace Go.Proofs.YtbhbgdlnfobjaaaGreat
open Go.RowKit

theorem longW_nn {a : List Int} (h : checkE a = 0) {x : Int} (hx : x ∈ begsL (spotsL a)) : 0 ≤ longW (spotsL a) x := by
  obtain ⟨s, hs⟩ := begsL_iff.1 hx
  have h1 := ((parse_mem (parse_ok (checkE_ok.1 h).1).2) s (spotAt_some hs).1).1
  unfold longW
  rw [hs]
  have := h1.r0
  have := h1.b0
  simp only [Spot.long]
  omega
theorem longs_nn {S : List Spot} {l : List Int} (h : ∀ x ∈ l, 0 ≤ longW S x) : 0 ≤ longsL S l := by
  induction l with
  | nil => simp [longsL]
  | cons x l ih =>
    have h1 := h x List.mem_cons_self
    have h2 := ih (fun y hy => h y (List.mem_cons_of_mem _ hy))
    simp only [longsL]
    omega
theorem Coll.free {S S' : St} {fr : Int} {L Y now : List Int} (h : Coll S S' fr L Y now) : 0 ≤ fr ∧ fr ≤ S.a.length ∧ S.a.length ≤ 256 ∧ fr + longsL (spotsL S.a) L = S.a.length ∧ fr = rsum (ggL S'.a) ∧ (∀ r ∈ ggL S'.a, 0 ≤ r.len ∧ r.len ≤ 256) ∧ (ggL S'.a).length ≤ S.p.length + 1 ∧ (ggL S'.a).length ≤ 257 := by
  obtain ⟨g1, g2, g3, g4, g5⟩ := (cleaned_of h.is).gaps h.is
  have h1 := longs_nn (S := spotsL S.a) (l := L) (fun x hx => longW_nn h.is.check (h.is.reached.begs x hx))
  have h2 := rsum_takeG g3 (ggL S'.a).length (Nat.le_refl _)
  rw [List.take_length] at h2
  have h3 := h.fr
  unfold freeL at h3
  unfold pinsL at g4
  rw [List.length_map] at g4
  exact ⟨by omega, by omega, (cleaned_of h.is).len256, by omega, h3, g3, g4, g5⟩

def argE (N : Int) : Int := if N < 1 ∨ 256 < N then 1 else 0
def NeverRet (S : St) (N : Int) (e : Ending) : Prop := ∃ (S' : St) (fr : Int) (L Y now : List Int), Coll S S' fr L Y now ∧ e = .returned (.tuple #[.bool (decide (argE N = 0) && decide (fr < N)), .int .i64 (argE N)])
def SureRet (S : St) (pn : Nat) (N : Int) (e : Ending) : Prop := ∃ (S' : St) (fr : Int) (L Y now : List Int), Coll S S' fr L Y now ∧ e = .returned (.tuple #[.bool (decide (argE N = 0) && decide ((pn + 1) * N ≤ fr)), .int .i64 (argE N)])
def mostL : Int → List Rn → Int
  | m, [] => m
  | m, r :: l => mostL (max m r.len) l
theorem mostL_snoc (l : List Rn) (r : Rn) : ∀ m, mostL m (l ++ [r]) = max (mostL m l) r.len := by
  induction l with
  | nil => intro m; rfl
  | cons x l ih => intro m; exact ih _
end Go.Proofs.YtbhbgdlnfobjaaaGreat

/-
  The laws' helper 'good': all error numbers are 0.
-/
namespace Go.Proofs.YtbhbgdlnfobjaaaGreat
open Go.RowKit

theorem notzero_any (x : Int) (w : World) : Calls Tryz.prog 26 #[.int .i64 x] w fun e w' => e = .returned (.bool (x != 0)) ∧ w = w' := by
  go_enter Tryz.func26, Tryz.ntmps26
  go_wp2
  go_ret
  exact ⟨rfl, rfl⟩

set_option maxHeartbeats 400000 in
theorem indexErr_any (A : Option Addr) (n c B : Nat) (xs : List Int) (w : World) (hr : Reads w B 1 A n (xs.map (.int .i64))) (hn : n ≤ 1000000000000000000) :
    Calls Tryz.prog 57 #[.slice A n c, .func (.func 26) #[] #[]] w fun e w' =>
      (∃ i : Int, e = .returned (.int .i64 i) ∧ (decide (0 ≤ i) = !(xs.all (· == 0)))) ∧ w = w' := by
  have hxl : xs.length = n := by have := hr.1; simpa using this
  have HX := Lib.hid hxl
  clear hxl
  go_enter Tryz.func57, Tryz.ntmps57
  go_wp2
  go_loop [8] (fun i => ∃ j : Nat, j ≤ n ∧ i = .int .i64 j ∧ (xs.take j).all (· == 0) = true) (fun i => n - (intOf i).toNat)
  case atStart => exact ⟨0, Nat.zero_le _, rfl, by simp⟩
  case round =>
    obtain ⟨j, hj, rfl, ht⟩ := hrel
    have HT := Lib.hid ht
    clear ht
    by_cases hlt : j < n
    · obtain ⟨ad, u, rfl, _, hx, hc⟩ := hr.at_ hlt
      have hl : j < xs.length := by rw [HX.out]; exact hlt
      rw [List.getElem?_map, List.getElem?_eq_getElem hl] at hx
      obtain rfl : u = .int .i64 xs[j] := by simpa using hx.symm
      clear hx
      have T : Hid ((xs.take (j + 1)).all (· == 0) = (xs[j] == 0)) := by
        show _ = _
        rw [List.take_succ_eq_append_getElem hl, List.all_append, HT.out]
        simp
      have T2 : Hid (xs[j] ∈ xs) := List.getElem_mem hl
      generalize xs[j] = x at *
      by_cases he : x = 0
      · subst he
        go_wp2_with (go_at_call 26; refine (notzero_any _ _).mono ?_; rintro e w' ⟨rfl, rfl⟩)
        go_round
        case rel => exact ⟨j + 1, by omega, by go_num, by rw [T.out]; rfl⟩
        case measure => simp [intOf]; omega
      · have he2 : (x != 0) = true := by simpa using he
        have he3 : (x == 0) = false := by simpa using he
        go_wp2_with (go_at_call 26; refine (notzero_any _ _).mono ?_; rintro e w' ⟨rfl, rfl⟩)
        go_ret
        refine ⟨⟨j, rfl, ?_⟩, rfl⟩
        have : xs.all (· == 0) = false := by
          rw [List.all_eq_false]
          exact ⟨x, T2.out, by simpa using he⟩
        rw [this]
        simp
    · go_wp2
      go_ret
      refine ⟨⟨-1, rfl, ?_⟩, rfl⟩
      have hjn : j = n := by omega
      have := HT.out
      rw [hjn, List.take_of_length_le (by rw [HX.out]; omega)] at this
      rw [this]
      simp

theorem containsErr_any (A : Option Addr) (n c B : Nat) (xs : List Int) (w : World) (hr : Reads w B 1 A n (xs.map (.int .i64))) (hn : n ≤ 1000000000000000000) :
    Calls Tryz.prog 25 #[.slice A n c, .func (.func 26) #[] #[]] w fun e w' => e = .returned (.bool !(xs.all (· == 0))) ∧ w = w' := by
  have H := indexErr_any A n c B xs w hr hn
  have HH := Lib.hid H
  clear H
  generalize (!(xs.all (· == 0))) = b at *
  go_enter Tryz.func25, Tryz.ntmps25
  go_wp2_with (go_at_call 57; refine HH.out.mono ?_; rintro e w' ⟨⟨i, rfl, hi⟩, rfl⟩)
  go_ret
  exact ⟨rfl, rfl⟩

theorem good_any (A : Option Addr) (n c B : Nat) (xs : List Int) (w : World) (hr : Reads w B 1 A n (xs.map (.int .i64))) (hn : n ≤ 1000000000000000000) :
    Calls Tryz.prog 10 #[.slice A n c] w fun e w' => e = .returned (.bool (xs.all (· == 0))) ∧ w = w' := by
  have H := containsErr_any A n c B xs w hr hn
  have HH := Lib.hid H
  clear H
  generalize xs.all (· == 0) = b at *
  go_enter Tryz.func10, Tryz.ntmps10
  go_wp2_with (go_at_call 25; refine HH.out.mono ?_; rintro e w' ⟨rfl, rfl⟩)
  go_ret
  exact ⟨by simp, rfl⟩

theorem good_of (A : Option Addr) (n c B : Nat) (xs : List Int) (b : Bool) (w : World) (hb : xs.all (· == 0) = b) (hr : Reads w B 1 A n (xs.map (.int .i64))) (hn : n ≤ 1000000000000000000) :
    Calls Tryz.prog 10 #[.slice A n c] w fun e w' => e = .returned (.bool b) ∧ w = w' := by
  subst hb
  exact good_any A n c B xs w hr hn
end Go.Proofs.YtbhbgdlnfobjaaaGreat

/-
  Plain law: halves: pieces, their check, gaps. No program stands here.
-/
namespace Go.Proofs.YtbhbgdlnfobjaaaGreat
open Go.RowKit

/-- A room: where, how long, how much of it is used. -/
structure Rm where
  loc : Int
  len : Int
  used : Int
deriving DecidableEq
def roomC (r : Rm) : List Value := [.int .i64 r.loc, .int .i64 r.len, .int .i64 r.used]
def roomsC (l : List Rm) : List Value := l.flatMap roomC
theorem roomsC_length (l : List Rm) : (roomsC l).length = l.length * 3 := flat_length roomC 3 (fun _ => rfl) l
theorem roomsC_one (l : List Rm) : ∀ u ∈ roomsC l, u.oneCell' = true := by
  intro u hu
  obtain ⟨s, _, hs⟩ := List.mem_flatMap.1 hu
  simp only [roomC, List.mem_cons, List.not_mem_nil, or_false] at hs
  rcases hs with rfl | rfl | rfl <;> rfl
theorem Reads.room {w : World} {B : Nat} {A : Option Addr} {n j : Nat} {l : List Rm} (h : Reads w B 3 A n (roomsC l)) (hj : j < n) :
    ∃ ad s, A = some ad ∧ ad.block < B ∧ l[j]? = some s ∧ w.cell? (ad.add (j * 3)) = some (.int .i64 s.loc) ∧
      w.cell? ⟨(ad.add (j * 3)).block, (ad.add (j * 3)).off + 1, none⟩ = some (.int .i64 s.len) ∧
      w.cell? ⟨(ad.add (j * 3)).block, (ad.add (j * 3)).off + 2, none⟩ = some (.int .i64 s.used) := by
  obtain ⟨ad, s, e, hb, hs, c0, cs⟩ := Reads.elem (f := roomC) (k := 3) (fun _ => rfl) h (by decide) hj
  exact ⟨ad, s, e, hb, hs, c0, cs 1 (by decide) (by decide), cs 2 (by decide) (by decide)⟩

/-- The powers of two that a piece may have. -/
def isP (x : Int) : Bool := [1, 2, 4, 8, 16, 32, 64, 128, 256].contains x
theorem isP_pow {x : Int} (h : isP x = true) : ∃ k : Nat, k ≤ 8 ∧ x = ((2 ^ k : Nat) : Int) := by
  unfold isP at h
  simp only [List.contains_eq_mem, List.mem_cons, List.not_mem_nil, or_false, decide_eq_true_eq] at h
  rcases h with rfl | rfl | rfl | rfl | rfl | rfl | rfl | rfl | rfl
  · exact ⟨0, by decide, rfl⟩
  · exact ⟨1, by decide, rfl⟩
  · exact ⟨2, by decide, rfl⟩
  · exact ⟨3, by decide, rfl⟩
  · exact ⟨4, by decide, rfl⟩
  · exact ⟨5, by decide, rfl⟩
  · exact ⟨6, by decide, rfl⟩
  · exact ⟨7, by decide, rfl⟩
  · exact ⟨8, by decide, rfl⟩
theorem isP_of {k : Nat} (h : k ≤ 8) : isP ((2 ^ k : Nat) : Int) = true := by
  have : ∀ k : Fin 9, isP ((2 ^ k.val : Nat) : Int) = true := by decide
  exact this ⟨k, by omega⟩

def pieceB (r : Rm) (all : Nat) : Bool :=
  decide (1 ≤ r.len) && (decide (r.len ≤ all) && (isP r.len && (decide (0 ≤ r.loc) && (decide (r.loc ≤ all - r.len) && (decide (r.loc % r.len = 0) && (decide (r.used ≤ r.len) && decide (r.len / 2 < r.used)))))))
def roomsE (all : Nat) : List Rm → Int → Int
  | [], _ => 0
  | r :: t, e => if pieceB r all = true ∧ e ≤ r.loc then roomsE all t (r.loc + r.len) else 3
def twinE (o : Int) (l : List Rm) : Int := if 0 ≤ o ∧ o ≤ 8 then roomsE (2 ^ o.toNat) l 0 else 4

/-- What a good piece is. -/
theorem pieceB_iff {r : Rm} {o : Nat} (ho : o ≤ 8) : pieceB r (2 ^ o) = true ↔
    ∃ k a u : Nat, k ≤ o ∧ r = ⟨a, ((2 ^ k : Nat) : Int), u⟩ ∧ a + 2 ^ k ≤ 2 ^ o ∧ a % 2 ^ k = 0 ∧ u ≤ 2 ^ k ∧ 2 ^ k / 2 < u := by
  unfold pieceB
  simp only [Bool.and_eq_true, decide_eq_true_eq]
  constructor
  · rintro ⟨h1, h2, h3, h4, h5, h6, h7, h8⟩
    obtain ⟨k, hk, e⟩ := isP_pow h3
    obtain ⟨a, l, u⟩ := r
    dsimp only at *
    subst e
    have hko : 2 ^ k ≤ 2 ^ o := by exact_mod_cast h2
    have hk1 : k ≤ o := (Nat.pow_le_pow_iff_right (by decide)).1 hko
    obtain ⟨A, rfl⟩ : ∃ A : Nat, a = A := ⟨a.toNat, by omega⟩
    have hp : 0 < 2 ^ k := Nat.pos_of_ne_zero (by simp)
    have hu : 0 ≤ u := by
      have : (0 : Int) ≤ ((2 ^ k : Nat) : Int) / 2 := by omega
      omega
    obtain ⟨U, rfl⟩ : ∃ U : Nat, u = U := ⟨u.toNat, by omega⟩
    refine ⟨k, A, U, hk1, rfl, by omega, ?_, by omega, by omega⟩
    exact_mod_cast h6
  · rintro ⟨k, a, u, hk, rfl, h1, h2, h3, h4⟩
    have hp : 0 < 2 ^ k := Nat.pos_of_ne_zero (by simp)
    dsimp only
    refine ⟨by omega, by omega, isP_of (by omega), by omega, by omega, ?_, by omega, by omega⟩
    exact_mod_cast h2

/-- Pieces in order, from e on, within 2 ^ o. -/
def Chain (o : Nat) : Nat → List Rm → Prop
  | _, [] => True
  | e, r :: t => ∃ k a u : Nat, k ≤ o ∧ r = ⟨a, ((2 ^ k : Nat) : Int), u⟩ ∧ a + 2 ^ k ≤ 2 ^ o ∧ a % 2 ^ k = 0 ∧ u ≤ 2 ^ k ∧ 2 ^ k / 2 < u ∧ e ≤ a ∧ Chain o (a + 2 ^ k) t
theorem roomsE_iff {o : Nat} (ho : o ≤ 8) : ∀ {l : List Rm} {e : Nat}, roomsE (2 ^ o) l e = 0 ↔ Chain o e l
  | [], e => by simp [roomsE, Chain]
  | r :: t, e => by
    unfold roomsE Chain
    constructor
    · intro h
      split at h
      · rename_i hc
        obtain ⟨k, a, u, h1, rfl, h2, h3, h4, h5⟩ := (pieceB_iff ho).1 hc.1
        refine ⟨k, a, u, h1, rfl, h2, h3, h4, h5, by have := hc.2; dsimp only at this; omega, ?_⟩
        exact (roomsE_iff ho).1 (by dsimp only at h; exact_mod_cast h)
      · cases h
    · rintro ⟨k, a, u, h1, rfl, h2, h3, h4, h5, h6, h7⟩
      rw [if_pos ⟨(pieceB_iff ho).2 ⟨k, a, u, h1, rfl, h2, h3, h4, h5⟩, by dsimp only; omega⟩]
      have := (roomsE_iff ho).2 h7
      dsimp only
      exact_mod_cast this
theorem twinE_iff {o : Int} {l : List Rm} : twinE o l = 0 ↔ ∃ k : Nat, k ≤ 8 ∧ o = k ∧ Chain k 0 l := by
  unfold twinE
  constructor
  · intro h
    split at h
    · rename_i hc
      obtain ⟨k, rfl⟩ : ∃ k : Nat, o = k := ⟨o.toNat, by omega⟩
      exact ⟨k, by omega, rfl, (roomsE_iff (by omega)).1 (by simpa using h)⟩
    · cases h
  · rintro ⟨k, hk, rfl, h⟩
    rw [if_pos ⟨by omega, by omega⟩]
    have := (roomsE_iff hk).2 h
    simpa using this

theorem Chain.mem {o : Nat} : ∀ {l : List Rm} {e : Nat}, Chain o e l → ∀ r ∈ l, ∃ k a u : Nat, k ≤ o ∧ r = ⟨a, ((2 ^ k : Nat) : Int), u⟩ ∧ a + 2 ^ k ≤ 2 ^ o ∧ a % 2 ^ k = 0 ∧ u ≤ 2 ^ k ∧ 2 ^ k / 2 < u ∧ e ≤ a
  | [], _, _, _, h => by simp at h
  | x :: t, e, hc, r, h => by
    obtain ⟨k, a, u, h1, rfl, h2, h3, h4, h5, h6, h7⟩ := hc
    rcases List.mem_cons.1 h with rfl | h
    · exact ⟨k, a, u, h1, rfl, h2, h3, h4, h5, h6⟩
    · obtain ⟨k', a', u', q1, q2, q3, q4, q5, q6, q7⟩ := h7.mem r h
      exact ⟨k', a', u', q1, q2, q3, q4, q5, q6, by omega⟩
theorem Chain.len {o : Nat} : ∀ {l : List Rm} {e : Nat}, Chain o e l → e ≤ 2 ^ o → e + l.length ≤ 2 ^ o
  | [], _, _, h => by simpa using h
  | x :: t, e, hc, _ => by
    obtain ⟨k, a, u, h1, rfl, h2, h3, h4, h5, h6, h7⟩ := hc
    have := h7.len h2
    have hp : 0 < 2 ^ k := Nat.pos_of_ne_zero (by simp)
    simp only [List.length_cons]
    omega

/-- What meets a stretch. -/
def meetsB (a L : Nat) (r : Rm) : Bool := decide (r.loc < ((a + L : Nat) : Int)) && decide ((a : Int) < r.loc + r.len)
def tgapsL (l : List Rm) : Nat → Nat → List Rn
  | 0, a => if l.any (meetsB a 1) = true then [] else [⟨a, 1⟩]
  | k + 1, a => if l.any (meetsB a (2 ^ (k + 1))) = true then tgapsL l k a ++ tgapsL l k (a + 2 ^ k) else [⟨a, ((2 ^ (k + 1) : Nat) : Int)⟩]
theorem tgapsL_length (l : List Rm) : ∀ k a, (tgapsL l k a).length ≤ 2 ^ k
  | 0, a => by unfold tgapsL; split <;> simp
  | k + 1, a => by
    unfold tgapsL
    have h1 := tgapsL_length l k a
    have h2 := tgapsL_length l k (a + 2 ^ k)
    have hp : 0 < 2 ^ k := Nat.pos_of_ne_zero (by simp)
    have hs : 2 ^ (k + 1) = 2 ^ k + 2 ^ k := by omega
    split
    · rw [List.length_append]; omega
    · simp only [List.length_cons, List.length_nil]; omega
end Go.Proofs.YtbhbgdlnfobjaaaGreat
