/-
  Texts joined: StNew TwinDefs LawHalves LawPins LawNums LawObs LawStore.
-/
import Derived.Lib.SmallJoins
import Derived.SizedLaws
import Derived.Deep.Strs
import Derived.Test.YtjdpcmmmdaffdaaGreatG1
import Derived.Test.YtjdpcmmmdaffdaaGreatG2
import Derived.Test.YtjdpcmmmdaffdaaGreatG5
import Derived.Test.YtjdpcmmmdaffdaaGreatG9
import Derived.Test.YtjdpcmmmdaffdaaGreatG10
import Derived.Test.YtjdpcmmmdaffdaaGreatG11
import Derived.Test.YtjdpcmmmdaffdaaGreatG12
/-
  package store: New; the laws' closed fact 'stores'; sameStore of a store and itself.
-/
namespace Go.Proofs.YtjdpcmmmdaffdaaGreat
open Go.RowKit

set_option maxHeartbeats 400000 in
theorem equal_slot (A A2 : Option Addr) (n c c2 B B2 : Nat) (l : List Slot) (w : World) (hr : Reads w B 3 A n (slotsC l)) (hr2 : Reads w B2 3 A2 n (slotsC l)) (hn : n ≤ 1000000000000000000) :
    Calls Tryz.prog 45 #[.slice A n c, .slice A2 n c2] w fun e w' => e = .returned (.bool true) ∧ ∃ q, w' = w.drewN q := by
  go_enter Tryz.func45, Tryz.ntmps45
  go_wp2
  go_loopw [13] (fun i wr => ∃ j : Nat, j ≤ n ∧ i = .int .i64 j ∧ ∃ q, wr = w.drewN q) (fun i _ => n - (intOf i).toNat)
  case atStart => exact ⟨0, Nat.zero_le _, rfl, 0, rfl⟩
  case round =>
    obtain ⟨j, hj, rfl, q, rfl⟩ := hrel
    by_cases hlt : j < n
    · obtain ⟨ad, r, rfl, _, hs, c0, c1, cu⟩ := hr.slot hlt
      obtain ⟨ad2, r2, rfl, _, hs2, d0, d1, du⟩ := hr2.slot hlt
      obtain rfl : r = r2 := Option.some.inj (hs.symm.trans hs2)
      obtain ⟨x, y, z⟩ := r
      dsimp only at *
      have hlt' : (j : Int) < n := by omega
      clear hs hs2
      go_wp2
      go_quiet (fail)
      go_wp2
      go_roundw
      case rel => exact ⟨j + 1, by omega, by go_num, _, rfl⟩
      case measure => simp [intOf]; omega
    · go_wp2
      go_ret
      exact ⟨rfl, _, rfl⟩


theorem made_slots (n : Nat) : madeCells #[.int .i64 0, .bool false, .int .i64 0] (n * 3) = (slotsC (List.replicate n ⟨0, false, 0⟩)).toArray := by
  apply Array.ext
  · simp [madeCells, slotsC_length]
  · intro i h1 h2
    have h3 : i < n * 3 := by simpa [madeCells] using h1
    have hq : i / 3 < n := Nat.div_lt_of_lt_mul (by omega)
    have hr : i % 3 < 3 := Nat.mod_lt _ (by decide)
    have hi : i / 3 * 3 + i % 3 = i := by omega
    have h4 := slotsC_at (List.replicate n ⟨0, false, 0⟩) (i / 3) (i % 3) (by simpa using hq) hr
    rw [hi, List.getElem_replicate] at h4
    have h5 : (madeCells #[.int .i64 0, .bool false, .int .i64 0] (n * 3))[i]? = (slotC ⟨0, false, 0⟩)[i % 3]? := by
      rw [Array.getElem?_eq_getElem h1]
      have hr2 : i % 3 = 0 ∨ i % 3 = 1 ∨ i % 3 = 2 := by omega
      rcases hr2 with e | e | e <;> simp [madeCells, e, slotC]
    rw [← h4, Array.getElem?_eq_getElem h1] at h5
    rw [List.getElem?_eq_getElem (by simpa using h2)] at h5
    simpa using h5
theorem own_slots (w : World) (base n : Nat) (hb : base ≤ w.heap.size) (hn : n ≤ maxLen) :
    (w.alloc (.cells (madeCells #[.int .i64 0, .bool false, .int .i64 0] (n * 3)) 87)).ownsRow base 87 3 (.slice (some ⟨w.heap.size, 0, none⟩) n n) n (slotsC (List.replicate n ⟨0, false, 0⟩)) := by
  rw [made_slots]
  have h := own_close (w := w.alloc (.cells (slotsC (List.replicate n ⟨0, false, 0⟩)).toArray 87)) (base := base) (e := 87) (size := 3) (n := n) (c := n) (g := w.heap.size) (slotsC (List.replicate n ⟨0, false, 0⟩)) hb (heap_alloc_new w _) (Nat.le_refl _) hn (by rw [slotsC_length, List.length_replicate])
  rwa [List.take_of_length_le (by rw [slotsC_length, List.length_replicate]; exact Nat.le_refl _)] at h
theorem info_slot3 : (Tryz.prog.info? 87).map (fun i => (i.zero, i.size, i.bytes)) = some (some (.agg #[.int .i64 0, .bool false, .int .i64 0]), 3, 24) := by kernel_rfl

set_option maxHeartbeats 400000 in
theorem hnew_ok (n : Nat) (w : World) (hn : n ≤ 16) :
    Calls Tryz.prog 62 #[.int .i64 n] w fun e w' => e = .returned (.tuple #[.slice (some ⟨w.heap.size, 0, none⟩) n n, .int .i64 0]) ∧ w' = w.alloc (.cells (madeCells #[.int .i64 0, .bool false, .int .i64 0] (n * 3)) 87) := by
  obtain ⟨i0, hi, hz0, hz1, hz2⟩ := info_parts info_slot3
  have hmk := fun W => run_make_rowN (P := Tryz.prog) 26 87 i0 (.agg #[.int .i64 0, .bool false, .int .i64 0]) Tryz.underlying26 hi hz0 .i64 .i64 n n (Nat.le_refl _) (by rw [hz2]; omega) (by omega) W
  rw [hz1] at hmk
  have hcs : (Value.agg #[.int .i64 0, .bool false, .int .i64 0]).cells = #[.int .i64 0, .bool false, .int .i64 0] := rfl
  rw [hcs] at hmk
  have h1 : ¬ (n : Int) < 0 := by omega
  have h2 : ¬ (16 : Int) < n := by omega
  clear hcs
  go_enter Tryz.func62, Tryz.ntmps62
  go_wp2
  go_ret2
  exact ⟨rfl, rfl⟩

def newA (W : Nat) : List Int := if 0 < W then (List.replicate W 0).set 0 (wordOf 0 (W - 1) 0 true) else []
def newSt (W R H : Nat) : St := ⟨newA W, List.replicate R (-1), [], List.replicate H ⟨0, false, 0⟩⟩
theorem newA_length (W : Nat) : (newA W).length = W := by
  unfold newA
  split
  · simp
  · simp; omega
set_option maxRecDepth 100000 in
set_option maxHeartbeats 2000000 in
theorem newFn_ok (W R H : Nat) (w : World) (hW : W ≤ 256) (hR : R ≤ 32) (hH : H ≤ 16) :
    Calls Tryz.prog 27 #[.int .i64 W, .int .i64 R, .int .i64 H] w fun e w' => Below w.heap.size w w' ∧ ∃ (A1 : Option Addr) (c1 : Nat) (A2 : Option Addr) (c2 : Nat) (A4 : Option Addr) (c4 : Nat),
      e = .returned (.tuple #[.agg #[.slice A1 W c1, .slice A2 R c2, .slice none 0 0, .slice A4 H c4], .int .i64 0]) ∧ StO w' w.heap.size A1 W c1 A2 R c2 none 0 0 A4 H c4 (newSt W R H) := by
  have HW := Lib.hid (fun w => wnew_ok W w hW)
  have HHn := Lib.hid (fun w => hnew_ok H w hH)
  have HRp := Lib.hid (fun gv w hv => repeat_one gv R (-1) w hv (by omega))
  have g1 : decide (((R : Nat) : Int) < 0) = false := decide_eq_false (by omega)
  have g2 : decide (32 < R) = false := decide_eq_false (by omega)
  have g2' : decide ((32 : Int) < (R : Int)) = false := decide_eq_false (by omega)
  have hb1 := below_new w (.cells #[.slice none 0 0, .slice none 0 0, .slice none 0 0, .slice none 0 0] 28)
  have DR := Blk.new w 28 #[.slice none 0 0, .slice none 0 0, .slice none 0 0, .slice none 0 0]
  go_enter Tryz.func27, Tryz.ntmps27
  go_wp2_with fail
  refine (HW.out _).mono ?_
  rintro e w1 ⟨rfl, rfl⟩
  have hO1 := own_make1 (w.alloc (.cells #[.slice none 0 0, .slice none 0 0, .slice none 0 0, .slice none 0 0] 28)) w.heap.size 43 (.int .u64 0) W _ rfl hb1.size (by unfold maxLen; omega)
  have hb2 := hb1.alloc hb1.size (.cells (madeCells #[.int .u64 0] W) 43)
  have DR := DR.alloc (.cells (madeCells #[.int .u64 0] W) 43)
  rw [World.size_alloc] at hO1
  go_wp2_with fail
  refine (HHn.out _).mono ?_
  rintro e w2 ⟨rfl, rfl⟩
  have hO4 := own_slots ((w.alloc (.cells #[.slice none 0 0, .slice none 0 0, .slice none 0 0, .slice none 0 0] 28)).alloc (.cells (madeCells #[.int .u64 0] W) 43)) w.heap.size H hb2.size (by unfold maxLen; omega)
  have hO1 := hO1.alloc (.cells (madeCells #[.int .i64 0, .bool false, .int .i64 0] (H * 3)) 87)
  have hb3 := hb2.alloc hb2.size (.cells (madeCells #[.int .i64 0, .bool false, .int .i64 0] (H * 3)) 87)
  have DR := DR.alloc (.cells (madeCells #[.int .i64 0, .bool false, .int .i64 0] (H * 3)) 87)
  simp only [World.size_alloc] at hO4
  obtain ⟨W2, hW2⟩ : ∃ W2, W2 = ((w.alloc (.cells #[.slice none 0 0, .slice none 0 0, .slice none 0 0, .slice none 0 0] 28)).alloc (.cells (madeCells #[.int .u64 0] W) 43)).alloc (.cells (madeCells #[.int .i64 0, .bool false, .int .i64 0] (H * 3)) 87) := ⟨_, rfl⟩
  rw [← hW2] at hO1 hO4 hb3 DR ⊢
  clear hW2 hb1 hb2 HW HHn
  by_cases h0 : 0 < W
  · have g3 : decide (0 < W) = true := decide_eq_true h0
    have g3' : decide ((0 : Int) < (W : Int)) = true := decide_eq_true (by omega)
    obtain ⟨b, hb⟩ : ∃ b : Nat, b + 1 = W := ⟨W - 1, by omega⟩
    have hw : IntKind.i64.wrap ((W : Int) - 1) = b := (IntWalk.i64_in _ (by omega)).trans (by omega)
    have HWd := Lib.hid (fun w => hword_ok 0 b 0 true w (headE_ok.2 (by simp; omega)))
    have HNA : Hid (newA W = (List.replicate W 0).set 0 (wordOf 0 b 0 true)) := by
      show _ = _
      unfold newA
      rw [if_pos h0, show ((W : Int) - 1) = b by omega]
    generalize wordOf 0 b 0 true = x at *
    go_wp2_with fail
    refine (HWd.out _).mono ?_
    rintro e w3 ⟨rfl, hb4⟩
    have hO1 := own_below hO1 hb4
    have hO4 := own_below hO4 hb4
    have DR := DR.below hb4 DR.lt
    have hb04 := below_step hb3 hb4
    have cc := hO1.cellAt 0 (by omega)
    have ff := hO1.frozenAt 0
    rw [List.getElem?_replicate, if_pos h0] at cc
    have hO1s := (hO1.stored 0 (.int .u64 x)).1
    have hO4s := own_apart hO4 (p := ⟨w.heap.size + 1, 0, none⟩) (by simp [Value.ownBlock]) (.int .u64 x)
    have hb05 := hb04.setCell (p := ⟨w.heap.size + 1, 0, none⟩) (by simp) (.int .u64 x)
    have DRs := DR.far (p := ⟨w.heap.size + 1, 0, none⟩) (by simp) (.int .u64 x)
    clear hO1 hO4 DR HWd hb3
    have DV := Blk.new (w3.setCell ⟨w.heap.size + 1, 0, none⟩ (.int .u64 x)) 3 #[.int .i64 (-1)]
    rw [World.size_setCell] at DV
    have hbv := hb05.alloc hb05.size (.cells #[.int .i64 (-1)] 3)
    have DRv := DRs.alloc (.cells #[.int .i64 (-1)] 3)
    have hO1v := hO1s.alloc (.cells #[.int .i64 (-1)] 3)
    have hO4v := hO4s.alloc (.cells #[.int .i64 (-1)] 3)
    clear hO1s hO4s DRs hb05
    go_wp2_with fail
    refine (HRp.out _ _ DV).mono ?_
    rintro e w5 ⟨g, rfl, hO2, hb6⟩
    have DRz := DRv.below hb6 DRv.lt
    have hb7 := below_step hbv hb6
    have HO : Hid (StO w5 w.heap.size (some ⟨w.heap.size + 1, 0, none⟩) W W (some ⟨g, 0, none⟩) R R none 0 0 (some ⟨w.heap.size + 1 + 1, 0, none⟩) H H (newSt W R H)) := by
      refine ⟨?_, own_mono hO2 hbv.size, World.ownsRow_nil _ _ _ _, own_below hO4v hb6⟩
      show World.ownsRow w5 w.heap.size 43 1 _ W ((newA W).map (.int .u64))
      rw [HNA.out]
      have := own_below hO1v hb6
      rw [List.map_set, List.map_replicate]
      exact this
    obtain ⟨r0, r1, r2, r3⟩ := DRz.four
    have f0 := DRz.frozen 0
    have f1 := DRz.frozen 1
    have f2 := DRz.frozen 2
    have f3 := DRz.frozen 3
    clear hO1v hO4v hO2 DRv hbv hb6 DV HRp
    go_wp2_with fail
    refine bodyPost_ret (v := .tuple #[.agg #[.slice (some ⟨w.heap.size + 1, 0, none⟩) W W, .slice (some ⟨g, 0, none⟩) R R, .slice none 0 0, .slice (some ⟨w.heap.size + 1 + 1, 0, none⟩) H H], .int .i64 0]) ?_ rfl ⟨below_block4 hb7 (Nat.le_refl _) _ _ _ _, _, W, _, R, _, H, rfl, HO.out.store DRz _ _ _ _⟩
    have z4 := (((DRz.set_ 0 (.slice (some ⟨w.heap.size + 1, 0, none⟩) W W)).set_ 1 (.slice (some ⟨g, 0, none⟩) R R)).set_ 2 (.slice none 0 0)).set_ 3 (.slice (some ⟨w.heap.size + 1 + 1, 0, none⟩) H H)
    obtain ⟨z0, z1, z2, z3⟩ := z4.four
    simp only [results, Tryz.results27]
    go_simp
  · have g3 : decide (0 < W) = false := decide_eq_false h0
    have g3' : decide ((0 : Int) < (W : Int)) = false := decide_eq_false (by omega)
    have HNA : Hid (newA W = []) := by show _ = _; unfold newA; rw [if_neg h0]
    have DV := Blk.new (W2) 3 #[.int .i64 (-1)]
    have hbv := hb3.alloc hb3.size (.cells #[.int .i64 (-1)] 3)
    have DRv := DR.alloc (.cells #[.int .i64 (-1)] 3)
    have hO1v := hO1.alloc (.cells #[.int .i64 (-1)] 3)
    have hO4v := hO4.alloc (.cells #[.int .i64 (-1)] 3)
    clear hO1 hO4 DR hb3
    go_wp2_with fail
    refine (HRp.out _ _ DV).mono ?_
    rintro e w5 ⟨g, rfl, hO2, hb6⟩
    have DRz := DRv.below hb6 DRv.lt
    have hb7 := below_step hbv hb6
    have HO : Hid (StO w5 w.heap.size (some ⟨w.heap.size + 1, 0, none⟩) W W (some ⟨g, 0, none⟩) R R none 0 0 (some ⟨w.heap.size + 1 + 1, 0, none⟩) H H (newSt W R H)) := by
      refine ⟨?_, own_mono hO2 hbv.size, World.ownsRow_nil _ _ _ _, own_below hO4v hb6⟩
      show World.ownsRow w5 w.heap.size 43 1 _ W ((newA W).map (.int .u64))
      rw [HNA.out]
      have := own_below hO1v hb6
      rw [show W = 0 by omega] at this ⊢
      exact this
    obtain ⟨r0, r1, r2, r3⟩ := DRz.four
    have f0 := DRz.frozen 0
    have f1 := DRz.frozen 1
    have f2 := DRz.frozen 2
    have f3 := DRz.frozen 3
    clear hO1v hO4v hO2 DRv hbv hb6 DV HRp
    go_wp2_with fail
    refine bodyPost_ret (v := .tuple #[.agg #[.slice (some ⟨w.heap.size + 1, 0, none⟩) W W, .slice (some ⟨g, 0, none⟩) R R, .slice none 0 0, .slice (some ⟨w.heap.size + 1 + 1, 0, none⟩) H H], .int .i64 0]) ?_ rfl ⟨below_block4 hb7 (Nat.le_refl _) _ _ _ _, _, W, _, R, _, H, rfl, HO.out.store DRz _ _ _ _⟩
    have z4 := (((DRz.set_ 0 (.slice (some ⟨w.heap.size + 1, 0, none⟩) W W)).set_ 1 (.slice (some ⟨g, 0, none⟩) R R)).set_ 2 (.slice none 0 0)).set_ 3 (.slice (some ⟨w.heap.size + 1 + 1, 0, none⟩) H H)
    obtain ⟨z0, z1, z2, z3⟩ := z4.four
    simp only [results, Tryz.results27]
    go_simp

theorem eq_true {α : Type} [DecidableEq α] (a : α) : decide (a = a) = true := decide_eq_true rfl
set_option maxRecDepth 100000 in
set_option maxHeartbeats 2000000 in
theorem sameStore_true (A : Option Addr) (n c : Nat) (RA : Option Addr) (rn rc : Nat) (PA : Option Addr) (pn pc : Nat) (HA : Option Addr) (hn hc : Nat) (A' : Option Addr) (c' : Nat) (RA' : Option Addr) (rc' : Nat) (PA' : Option Addr) (pc' : Nat) (HA' : Option Addr) (hc' : Nat) (S : St) (w : World)
    (hR : StR w w.heap.size A n RA rn PA pn HA hn S) (hR' : StR w w.heap.size A' n RA' rn PA' pn HA' hn S) (h1 : n ≤ 1000000000000000000) (h2 : rn ≤ 1000000000000000000) (h3 : pn ≤ 1000000000000000000) (h4 : hn ≤ 1000000000000000000) :
    Calls Tryz.prog 17 #[.agg #[.slice A n c, .slice RA rn rc, .slice PA pn pc, .slice HA hn hc], .agg #[.slice A' n c', .slice RA' rn rc', .slice PA' pn pc', .slice HA' hn hc']] w fun e w' => e = .returned (.bool true) ∧ Below w.heap.size w w' := by
  have hb1 := below_new w (.cells #[.slice A n c, .slice RA rn rc, .slice PA pn pc, .slice HA hn hc] 28)
  have DS := (Blk.new w 28 #[.slice A n c, .slice RA rn rc, .slice PA pn pc, .slice HA hn hc]).alloc (.cells #[.slice A' n c', .slice RA' rn rc', .slice PA' pn pc', .slice HA' hn hc'] 28)
  have DT := Blk.new (w.alloc (.cells #[.slice A n c, .slice RA rn rc, .slice PA pn pc, .slice HA hn hc] 28)) 28 #[.slice A' n c', .slice RA' rn rc', .slice PA' pn pc', .slice HA' hn hc']
  have hb2 := hb1.alloc hb1.size (.cells #[.slice A' n c', .slice RA' rn rc', .slice PA' pn pc', .slice HA' hn hc'] 28)
  rw [World.size_alloc] at DT
  have R1 := hR.below hb2
  have R2 := hR'.below hb2
  have E1 := Lib.hid (fun W r r' => equal_u64 A A' n c n c' w.heap.size w.heap.size S.a S.a W r r' h1 h1)
  have E2 := Lib.hid (fun W r r' => equal_int RA RA' rn rc rn rc' w.heap.size w.heap.size S.r S.r W r r' h2 h2)
  have E3 := Lib.hid (fun W r r' => equal_pin PA PA' pn pc pc' w.heap.size w.heap.size S.p W r r' h3)
  have E4 := Lib.hid (fun W r r' => equal_slot HA HA' hn hc hc' w.heap.size w.heap.size S.l W r r' h4)
  simp only [eq_true] at E1 E2
  obtain ⟨s0, s1, s2, s3⟩ := DS.four
  obtain ⟨t0, t1, t2, t3⟩ := DT.four
  clear hR hR'
  go_enter Tryz.func17, Tryz.ntmps17
  go_wp2_with fail
  refine Calls.mono (E1.out _ (by exact R1.a) (by exact R2.a)) ?_
  rintro e w1 ⟨rfl, q1, rfl⟩
  go_wp2_with fail
  refine Calls.mono (E2.out _ (by exact R1.r) (by exact R2.r)) ?_
  rintro e w2 ⟨rfl, q2, rfl⟩
  go_wp2_with fail
  refine Calls.mono (E3.out _ (by exact R1.p) (by exact R2.p)) ?_
  rintro e w3 ⟨rfl, q3, rfl⟩
  go_wp2_with fail
  refine Calls.mono (E4.out _ (by exact R1.l) (by exact R2.l)) ?_
  rintro e w4 ⟨rfl, q4, rfl⟩
  go_wp2_with fail
  go_ret
  exact ⟨by first | rfl | simp, by first | exact below_drewN hb2 _ | exact below_drewN (below_drewN (below_drewN (below_drewN hb2 _) _) _) _⟩

set_option maxHeartbeats 1000000 in
theorem stores_true (w : World) : Calls Tryz.prog 6 #[] w fun e w' => e = .returned (.bool true) ∧ Below w.heap.size w w' := by
  have H := Lib.hid (newFn_ok 4 1 1 w (by decide) (by decide) (by decide))
  go_enter Tryz.func6, Tryz.ntmps6
  go_wp2_with fail
  refine H.out.mono ?_
  rintro e w1 ⟨hb, A1, c1, A2, c2, A4, c4, rfl, -⟩
  have DG := Blk.new w1 28 #[.slice A1 4 c1, .slice A2 1 c2, .slice none 0 0, .slice A4 1 c4]
  have hb2 := hb.alloc hb.size (.cells #[.slice A1 4 c1, .slice A2 1 c2, .slice none 0 0, .slice A4 1 c4] 28)
  obtain ⟨o0, o1, o2, o3⟩ := DG.four
  go_wp2_with fail
  go_ret
  exact ⟨by first | rfl | simp, hb2⟩
end Go.Proofs.YtjdpcmmmdaffdaaGreat

/-
  Plain law: halves: pieces, their check, gaps. No program stands here.
-/
namespace Go.Proofs.YtjdpcmmmdaffdaaGreat
open Go.RowKit

/-- A room: where, how long, how much of it is used. -/
structure Rm where
  loc : Int
  len : Int
  used : Int
deriving DecidableEq
def roomC (r : Rm) : List Value := [.int .i64 r.loc, .int .i64 r.len, .int .i64 r.used]
def roomsC (l : List Rm) : List Value := l.flatMap roomC
theorem roomsC_length (l : List Rm) : (roomsC l).length = l.length * 3 := flat_length roomC 3 (fun _ => rfl) l
theorem roomsC_one (l : List Rm) : ∀ u ∈ roomsC l, u.oneCell' = true := by
  intro u hu
  obtain ⟨s, _, hs⟩ := List.mem_flatMap.1 hu
  simp only [roomC, List.mem_cons, List.not_mem_nil, or_false] at hs
  rcases hs with rfl | rfl | rfl <;> rfl
theorem Reads.room {w : World} {B : Nat} {A : Option Addr} {n j : Nat} {l : List Rm} (h : Reads w B 3 A n (roomsC l)) (hj : j < n) :
    ∃ ad s, A = some ad ∧ ad.block < B ∧ l[j]? = some s ∧ w.cell? (ad.add (j * 3)) = some (.int .i64 s.loc) ∧
      w.cell? ⟨(ad.add (j * 3)).block, (ad.add (j * 3)).off + 1, none⟩ = some (.int .i64 s.len) ∧
      w.cell? ⟨(ad.add (j * 3)).block, (ad.add (j * 3)).off + 2, none⟩ = some (.int .i64 s.used) := by
  obtain ⟨ad, s, e, hb, hs, c0, cs⟩ := Reads.elem (f := roomC) (k := 3) (fun _ => rfl) h (by decide) hj
  exact ⟨ad, s, e, hb, hs, c0, cs 1 (by decide) (by decide), cs 2 (by decide) (by decide)⟩

/-- The powers of two that a piece may have. -/
def isP (x : Int) : Bool := [1, 2, 4, 8, 16, 32, 64, 128, 256].contains x
theorem isP_pow {x : Int} (h : isP x = true) : ∃ k : Nat, k ≤ 8 ∧ x = ((2 ^ k : Nat) : Int) := by
  unfold isP at h
  simp only [List.contains_eq_mem, List.mem_cons, List.not_mem_nil, or_false, decide_eq_true_eq] at h
  rcases h with rfl | rfl | rfl | rfl | rfl | rfl | rfl | rfl | rfl
  · exact ⟨0, by decide, rfl⟩
  · exact ⟨1, by decide, rfl⟩
  · exact ⟨2, by decide, rfl⟩
  · exact ⟨3, by decide, rfl⟩
  · exact ⟨4, by decide, rfl⟩
  · exact ⟨5, by decide, rfl⟩
  · exact ⟨6, by decide, rfl⟩
  · exact ⟨7, by decide, rfl⟩
  · exact ⟨8, by decide, rfl⟩
theorem isP_of {k : Nat} (h : k ≤ 8) : isP ((2 ^ k : Nat) : Int) = true := by
  have : ∀ k : Fin 9, isP ((2 ^ k.val : Nat) : Int) = true := by decide
  exact this ⟨k, by omega⟩

def pieceB (r : Rm) (all : Nat) : Bool :=
  decide (1 ≤ r.len) && (decide (r.len ≤ all) && (isP r.len && (decide (0 ≤ r.loc) && (decide (r.loc ≤ all - r.len) && (decide (r.loc % r.len = 0) && (decide (r.used ≤ r.len) && decide (r.len / 2 < r.used)))))))
def roomsE (all : Nat) : List Rm → Int → Int
  | [], _ => 0
  | r :: t, e => if pieceB r all = true ∧ e ≤ r.loc then roomsE all t (r.loc + r.len) else 3
def twinE (o : Int) (l : List Rm) : Int := if 0 ≤ o ∧ o ≤ 8 then roomsE (2 ^ o.toNat) l 0 else 4

/-- What a good piece is. -/
theorem pieceB_iff {r : Rm} {o : Nat} (ho : o ≤ 8) : pieceB r (2 ^ o) = true ↔
    ∃ k a u : Nat, k ≤ o ∧ r = ⟨a, ((2 ^ k : Nat) : Int), u⟩ ∧ a + 2 ^ k ≤ 2 ^ o ∧ a % 2 ^ k = 0 ∧ u ≤ 2 ^ k ∧ 2 ^ k / 2 < u := by
  unfold pieceB
  simp only [Bool.and_eq_true, decide_eq_true_eq]
  constructor
  · rintro ⟨h1, h2, h3, h4, h5, h6, h7, h8⟩
    obtain ⟨k, hk, e⟩ := isP_pow h3
    obtain ⟨a, l, u⟩ := r
    dsimp only at *
    subst e
    have hko : 2 ^ k ≤ 2 ^ o := by exact_mod_cast h2
    have hk1 : k ≤ o := (Nat.pow_le_pow_iff_right (by decide)).1 hko
    obtain ⟨A, rfl⟩ : ∃ A : Nat, a = A := ⟨a.toNat, by omega⟩
    have hp : 0 < 2 ^ k := Nat.pos_of_ne_zero (by simp)
    have hu : 0 ≤ u := by
      have : (0 : Int) ≤ ((2 ^ k : Nat) : Int) / 2 := by omega
      omega
    obtain ⟨U, rfl⟩ : ∃ U : Nat, u = U := ⟨u.toNat, by omega⟩
    refine ⟨k, A, U, hk1, rfl, by omega, ?_, by omega, by omega⟩
    exact_mod_cast h6
  · rintro ⟨k, a, u, hk, rfl, h1, h2, h3, h4⟩
    have hp : 0 < 2 ^ k := Nat.pos_of_ne_zero (by simp)
    dsimp only
    refine ⟨by omega, by omega, isP_of (by omega), by omega, by omega, ?_, by omega, by omega⟩
    exact_mod_cast h2

/-- Pieces in order, from e on, within 2 ^ o. -/
def Chain (o : Nat) : Nat → List Rm → Prop
  | _, [] => True
  | e, r :: t => ∃ k a u : Nat, k ≤ o ∧ r = ⟨a, ((2 ^ k : Nat) : Int), u⟩ ∧ a + 2 ^ k ≤ 2 ^ o ∧ a % 2 ^ k = 0 ∧ u ≤ 2 ^ k ∧ 2 ^ k / 2 < u ∧ e ≤ a ∧ Chain o (a + 2 ^ k) t
theorem roomsE_iff {o : Nat} (ho : o ≤ 8) : ∀ {l : List Rm} {e : Nat}, roomsE (2 ^ o) l e = 0 ↔ Chain o e l
  | [], e => by simp [roomsE, Chain]
  | r :: t, e => by
    unfold roomsE Chain
    constructor
    · intro h
      split at h
      · rename_i hc
        obtain ⟨k, a, u, h1, rfl, h2, h3, h4, h5⟩ := (pieceB_iff ho).1 hc.1
        refine ⟨k, a, u, h1, rfl, h2, h3, h4, h5, by have := hc.2; dsimp only at this; omega, ?_⟩
        exact (roomsE_iff ho).1 (by dsimp only at h; exact_mod_cast h)
      · cases h
    · rintro ⟨k, a, u, h1, rfl, h2, h3, h4, h5, h6, h7⟩
      rw [if_pos ⟨(pieceB_iff ho).2 ⟨k, a, u, h1, rfl, h2, h3, h4, h5⟩, by dsimp only; omega⟩]
      have := (roomsE_iff ho).2 h7
      dsimp only
      exact_mod_cast this
theorem twinE_iff {o : Int} {l : List Rm} : twinE o l = 0 ↔ ∃ k : Nat, k ≤ 8 ∧ o = k ∧ Chain k 0 l := by
  unfold twinE
  constructor
  · intro h
    split at h
    · rename_i hc
      obtain ⟨k, rfl⟩ : ∃ k : Nat, o = k := ⟨o.toNat, by omega⟩
      exact ⟨k, by omega, rfl, (roomsE_iff (by omega)).1 (by simpa using h)⟩
    · cases h
  · rintro ⟨k, hk, rfl, h⟩
    rw [if_pos ⟨by omega, by omega⟩]
    have := (roomsE_iff hk).2 h
    simpa using this

theorem Chain.mem {o : Nat} : ∀ {l : List Rm} {e : Nat}, Chain o e l → ∀ r ∈ l, ∃ k a u : Nat, k ≤ o ∧ r = ⟨a, ((2 ^ k : Nat) : Int), u⟩ ∧ a + 2 ^ k ≤ 2 ^ o ∧ a % 2 ^ k = 0 ∧ u ≤ 2 ^ k ∧ 2 ^ k / 2 < u ∧ e ≤ a
  | [], _, _, _, h => by simp at h
  | x :: t, e, hc, r, h => by
    obtain ⟨k, a, u, h1, rfl, h2, h3, h4, h5, h6, h7⟩ := hc
    rcases List.mem_cons.1 h with rfl | h
    · exact ⟨k, a, u, h1, rfl, h2, h3, h4, h5, h6⟩
    · obtain ⟨k', a', u', q1, q2, q3, q4, q5, q6, q7⟩ := h7.mem r h
      exact ⟨k', a', u', q1, q2, q3, q4, q5, q6, by omega⟩
theorem Chain.len {o : Nat} : ∀ {l : List Rm} {e : Nat}, Chain o e l → e ≤ 2 ^ o → e + l.length ≤ 2 ^ o
  | [], _, _, h => by simpa using h
  | x :: t, e, hc, _ => by
    obtain ⟨k, a, u, h1, rfl, h2, h3, h4, h5, h6, h7⟩ := hc
    have := h7.len h2
    have hp : 0 < 2 ^ k := Nat.pos_of_ne_zero (by simp)
    simp only [List.length_cons]
    omega

/-- What meets a stretch. -/
def meetsB (a L : Nat) (r : Rm) : Bool := decide (r.loc < ((a + L : Nat) : Int)) && decide ((a : Int) < r.loc + r.len)
def tgapsL (l : List Rm) : Nat → Nat → List Rn
  | 0, a => if l.any (meetsB a 1) = true then [] else [⟨a, 1⟩]
  | k + 1, a => if l.any (meetsB a (2 ^ (k + 1))) = true then tgapsL l k a ++ tgapsL l k (a + 2 ^ k) else [⟨a, ((2 ^ (k + 1) : Nat) : Int)⟩]
theorem tgapsL_length (l : List Rm) : ∀ k a, (tgapsL l k a).length ≤ 2 ^ k
  | 0, a => by unfold tgapsL; split <;> simp
  | k + 1, a => by
    unfold tgapsL
    have h1 := tgapsL_length l k a
    have h2 := tgapsL_length l k (a + 2 ^ k)
    have hp : 0 < 2 ^ k := Nat.pos_of_ne_zero (by simp)
    have hs : 2 ^ (k + 1) = 2 ^ k + 2 ^ k := by omega
    split
    · rw [List.length_append]; omega
    · simp only [List.length_cons, List.length_nil]; omega
end Go.Proofs.YtjdpcmmmdaffdaaGreat

/-
  Opening halves (a struct of an int and a slice of rooms) that came in by value.
-/
namespace Go.Proofs.YtjdpcmmmdaffdaaGreat
open Go.ChangeShapes Go.WideShapes Go.ChangeAt Go.RowKit Go.Joins Go.Deep

instance : Inhabited Rm := ⟨⟨0, 0, 0⟩⟩

theorem open_elemsC {α : Type} [Inhabited α] (f : α → List Value) (k : Nat) (hk0 : 0 < k) (hf : ∀ a, (f a).length = k) {H : Type} {enc : TypeId × Value → H} {P : Program} {t e : TypeId} {W : World} {sp : Nat → Bool} {v : Value} {x : DataW H × List MemPlace} {fuel : Nat}
    (ht : P.underlying t = some (.slice e)) (hc : P.cellsOf e = k) (hel : ∀ n cs y, DataW.trod enc P W 0 sp true n e cs = some y → ∃ a, cs = f a)
    (hlt : ∀ p ∈ x.2, p.block < W.heap.size) (hf' : DataW.trod enc P W 0 sp true fuel t [v] = some x) :
    ∃ (A : Option Addr) (n c : Nat) (l : List α), v = .slice A n c ∧ n ≤ c ∧ c ≤ maxLen ∧ Reads W W.heap.size k A n (l.flatMap f) ∧ l.length = n := by
  rcases open_slice ht hf' with ⟨hcs, hx⟩ | ⟨a, len, cap, m, n, D, Pl, hcs, hb, hlc, hm, hmm, hx, hcell⟩
  · simp at hcs
    subst hcs
    exact ⟨none, 0, 0, [], rfl, Nat.le_refl _, Nat.zero_le _, Reads.none_, rfl⟩
  · simp at hcs
    subst hcs
    subst hx
    have hlm : len ≤ m := by rw [hmm]; split <;> omega
    rw [hc] at hcell hlt
    obtain ⟨V, hV⟩ := choose_lt (α := α) (p := fun i x => W.cells? 0 (a.add (i * k)) k = some (f x)) (fun i hi => by
      obtain ⟨cs', h1, h2⟩ := hcell i hi
      obtain ⟨x, rfl⟩ := hel _ _ _ h2
      exact ⟨x, h1⟩)
    refine ⟨some a, len, cap, (List.range len).map V, rfl, hlc, hm, ⟨by rw [flat_length f k hf]; simp, fun hn => ⟨a, rfl, ?_, fun j u hu => ?_⟩⟩, by simp⟩
    · have := hlt (.cell a.block (a.off + 0)) (List.mem_append_left _ (by
        unfold MemPlace.row
        refine List.mem_map.2 ⟨0, List.mem_range.2 ?_, rfl⟩
        exact Nat.mul_pos (by omega) hk0))
      exact this
    · have hj : j < len * k := by
        have := (List.getElem?_eq_some_iff.1 hu).1
        rw [flat_length f k hf] at this
        simpa using this
      have hq : j / k < len := Nat.div_lt_of_lt_mul (by rw [Nat.mul_comm]; exact hj)
      have hr : j % k < k := Nat.mod_lt _ hk0
      have hjd : j / k * k + j % k = j := by rw [Nat.mul_comm]; exact Nat.div_add_mod j k
      rw [← hjd, flat_at f k hf _ _ _ (by simpa using hq) hr] at hu
      simp only [List.getElem_map, List.getElem_range] at hu
      have := (World.cells?_some (hV (j / k) (by omega))).2.2 (j % k) hr
      rw [add_of_add, hjd] at this
      rw [this]
      exact hu

theorem list3b {α : Type} {l : List α} (h : l.length = 3) : ∃ a b c, l = [a, b, c] := by
  match l, h with
  | [a, b, c], _ => exact ⟨a, b, c, rfl⟩

end Go.Proofs.YtjdpcmmmdaffdaaGreat

/-
  Opening a slice of pins that came in, with its reach.
-/
namespace Go.Proofs.YtjdpcmmmdaffdaaGreat
open Go.ChangeShapes Go.WideShapes Go.ChangeAt Go.RowKit Go.Joins Go.Deep

instance inhP : Inhabited Rn := ⟨⟨0, 0⟩⟩
theorem list2P {α : Type} {l : List α} (h : l.length = 2) : ∃ a b, l = [a, b] := by
  match l, h with
  | [a, b], _ => exact ⟨a, b, rfl⟩
theorem k_pin_bytes : Tryz.prog.bytesOf 84 = 16 := by kernel_rfl
set_option maxRecDepth 100000 in
theorem open_pins {H : Type} {enc : TypeId × Value → H} {W : World} {r : Reach} {base : Nat} {sp : Nat → Bool} {v : Value} {d : DataW H} {ps : List MemPlace}
    (hval : Value.okWide Tryz.prog W r base 24 v) (hlt : ∀ x ∈ ps, x.block < W.heap.size) (h : DataW.Trod enc Tryz.prog W 0 sp true 24 v d ps) :
    ∃ (A : Option Addr) (n c : Nat) (l : List Rn), v = .slice A n c ∧ n ≤ c ∧ c ≤ maxLen ∧ Reads W W.heap.size 2 A n (runsC l) ∧ (n = 0 ∨ ∃ D E, d = .slice D E ∧ D.length = n) := by
  obtain ⟨A, n, c, l, h1, h2, h3, h4, -, h5⟩ := open_elems2 runC 2 (by decide) (fun _ => rfl) Tryz.underlying24 (by kernel_rfl) (fun n cs y hy => by
    obtain ⟨y0, y1, m, _, hl, a0, a1⟩ := trod_struct2 Tryz.underlying84 hy
    have hl2 : cs.length = 2 := hl.trans (by kernel_rfl)
    obtain ⟨c0, c1, rfl⟩ := list2P hl2
    have k0 : Tryz.prog.cellsOf 3 = 1 := by kernel_rfl
    dsimp only at a0 a1
    rw [k0] at a0 a1
    obtain ⟨x0, q0, -, -⟩ := DataW.trod_int Tryz.underlying3 a0
    obtain ⟨x1, q1, -, -⟩ := DataW.trod_int Tryz.underlying3 a1
    simp at q0 q1
    subst q0 q1
    exact ⟨⟨x0, x1⟩, rfl⟩) hval hlt h
  exact ⟨A, n, c, l, h1, h2, h3, h4, h5⟩
end Go.Proofs.YtjdpcmmmdaffdaaGreat

/-
  Opening a slice of numbers that came in, with its reach.
-/
namespace Go.Proofs.YtjdpcmmmdaffdaaGreat
open Go.ChangeShapes Go.WideShapes Go.ChangeAt Go.RowKit

theorem k_int_bytes : Tryz.prog.bytesOf 3 = 8 := by kernel_rfl
theorem open_nums2 {H : Type} {enc : TypeId × Value → H} {P : Program} {t e : TypeId} {k : IntKind} {W : World} {r : Reach} {base : Nat} {sp : Nat → Bool} {v : Value} {d : DataW H} {ps : List MemPlace} (ht : P.underlying t = some (.slice e)) (he : P.underlying e = some (.int k)) (hc : P.cellsOf e = 1)
    (hval : Value.okWide P W r base t v) (hlt : ∀ x ∈ ps, x.block < W.heap.size) (h : DataW.Trod enc P W 0 sp true t v d ps) :
    ∃ (A : Option Addr) (n c : Nat) (xs : List Int), v = .slice A n c ∧ n ≤ c ∧ c ≤ maxLen ∧ Reads W W.heap.size 1 A n (xs.map (.int k)) ∧ (∀ x ∈ xs, (Lit.int k x).wf = true) ∧ (n = 0 ∨ ∃ D E, d = .slice D E ∧ D.length = n) := by
  have hk := open_nums ht he hc hval hlt h
  obtain ⟨A, n, c, xs, h1, h2, h3, h4, h5⟩ := hk
  refine ⟨A, n, c, xs, h1, h2, h3, h4, h5, ?_⟩
  subst h1
  obtain ⟨fuel, hf⟩ := h
  rcases open_ints ht he hc hf with ⟨hcs, hx⟩ | ⟨a, len, cap, zs, hcs, hb, hlc, hm, hzl, hx, hcell, hwf⟩
  · simp [Value.cells] at hcs
    exact .inl hcs.2.1
  · simp [Value.cells] at hcs
    obtain ⟨rfl, rfl, rfl⟩ := hcs
    simp only [Prod.mk.injEq] at hx
    obtain ⟨rfl, rfl⟩ := hx
    have hlz : n ≤ zs.length := by rw [hzl]; split <;> omega
    exact .inr ⟨_, _, rfl, by simp [lits]; omega⟩
end Go.Proofs.YtjdpcmmmdaffdaaGreat

/-
  Opening a slice of objects (a tag, a slice of ints, a slice of words, a mark) that came in.
-/
namespace Go.Proofs.YtjdpcmmmdaffdaaGreat
open Go.ChangeShapes Go.WideShapes Go.ChangeAt Go.RowKit Go.Joins Go.Deep

instance : Inhabited (Ob × ObV) := ⟨(⟨0, [], [], false⟩, ⟨0, none, 0, 0, none, 0, 0, false⟩)⟩

theorem trod_nums {H : Type} {enc : TypeId × Value → H} {P : Program} {t e : TypeId} {k : IntKind} {W : World} {sp : Nat → Bool} {fuel : Nat} {v : Value} {x : DataW H × List MemPlace} (ht : P.underlying t = some (.slice e)) (he : P.underlying e = some (.int k)) (hc : P.cellsOf e = 1)
    (hlt : ∀ p ∈ x.2, p.block < W.heap.size) (h : DataW.trod enc P W 0 sp true fuel t [v] = some x) :
    ∃ (A : Option Addr) (n c : Nat) (xs : List Int), v = .slice A n c ∧ n ≤ c ∧ c ≤ maxLen ∧ xs.length = n ∧ Reads W W.heap.size 1 A n (xs.map (.int k)) ∧ (∀ x ∈ xs, (Lit.int k x).wf = true) := by
  rcases open_ints ht he hc h with ⟨hcs, hx⟩ | ⟨a, len, cap, zs, hcs, hb, hlc, hm, hzl, hx, hcell, hwf⟩
  · simp at hcs
    subst hcs
    exact ⟨none, 0, 0, [], rfl, Nat.le_refl _, Nat.zero_le _, rfl, Reads.none_, fun x hx => by cases hx⟩
  · simp at hcs
    subst hcs
    subst hx
    have hlz : len ≤ zs.length := by rw [hzl]; split <;> omega
    refine ⟨some a, len, cap, zs.take len, rfl, hlc, hm, by simp; omega, ⟨by simp; omega, fun hn => ⟨a, rfl, ?_, fun j u hu => ?_⟩⟩, fun x hx => hwf x (List.mem_of_mem_take hx)⟩
    · have := hlt (.cell a.block (a.off + 0)) (by
        unfold MemPlace.row
        exact List.mem_map.2 ⟨0, List.mem_range.2 (by omega), rfl⟩)
      exact this
    · have hj : j < len := by
        have := (List.getElem?_eq_some_iff.1 hu).1
        simp at this; omega
      rw [hcell j (by omega)]
      rw [List.getElem?_map, List.getElem?_take, if_pos hj, List.getElem?_eq_getElem (by omega)] at hu
      rw [← hu, List.getD_eq_getElem?_getD, List.getElem?_eq_getElem (by omega)]
      rfl

theorem open_elemsQ {α : Type} [Inhabited α] (f : α → List Value) (Q : α → Prop) (k : Nat) (hk0 : 0 < k) (hf : ∀ a, (f a).length = k) {H : Type} {enc : TypeId × Value → H} {P : Program} {t e : TypeId} {W : World} {r : Reach} {base : Nat} {sp : Nat → Bool} {v : Value} {d : DataW H} {ps : List MemPlace}
    (ht : P.underlying t = some (.slice e)) (hc : P.cellsOf e = k) (hel : ∀ n cs (y : DataW H × List MemPlace), (∀ p ∈ y.2, p.block < W.heap.size) → DataW.trod enc P W 0 sp true n e cs = some y → ∃ a, cs = f a ∧ Q a)
    (hval : Value.okWide P W r base t v) (hlt : ∀ x ∈ ps, x.block < W.heap.size) (h : DataW.Trod enc P W 0 sp true t v d ps) :
    ∃ (A : Option Addr) (n c : Nat) (l : List α), v = .slice A n c ∧ n ≤ c ∧ c ≤ maxLen ∧ Reads W W.heap.size k A n (l.flatMap f) ∧ (∀ a ∈ l, Q a) ∧ l.length = n ∧ (n = 0 ∨ ∃ D E, d = .slice D E ∧ D.length = n) := by
  obtain ⟨a0, len0, cap0, rfl⟩ := okWide_slice ht hval
  obtain ⟨fuel, hf'⟩ := h
  rcases open_slice ht hf' with ⟨hcs, hx⟩ | ⟨a, len, cap, m, n, D, Pl, hcs, hb, hlc, hm, hmm, hx, hcell⟩
  · simp [Value.cells] at hcs
    obtain ⟨rfl, rfl, rfl⟩ := hcs
    exact ⟨none, 0, 0, [], rfl, Nat.le_refl _, Nat.zero_le _, Reads.none_, (fun a ha => by cases ha), rfl, .inl rfl⟩
  · simp [Value.cells] at hcs
    obtain ⟨rfl, rfl, rfl⟩ := hcs
    simp only [Prod.mk.injEq] at hx
    obtain ⟨rfl, rfl⟩ := hx
    have hlm : len0 ≤ m := by rw [hmm]; split <;> omega
    rw [hc] at hcell hlt
    obtain ⟨V, hV⟩ := choose_lt (α := α) (p := fun i x => W.cells? 0 (a.add (i * k)) k = some (f x) ∧ Q x) (fun i hi => by
      obtain ⟨cs', h1, h2⟩ := hcell i hi
      obtain ⟨x, rfl, hq⟩ := hel _ _ _ (fun p hp => hlt p (List.mem_append_right _ (List.mem_flatMap.2 ⟨i, List.mem_range.2 hi, hp⟩))) h2
      exact ⟨x, h1, hq⟩)
    refine ⟨some a, len0, cap0, (List.range len0).map V, rfl, hlc, hm, ⟨by rw [flat_length f k hf]; simp, fun hn => ⟨a, rfl, ?_, fun j u hu => ?_⟩⟩, fun x hx => ?_, by simp, .inr ⟨_, _, rfl, by simp⟩⟩
    · have := hlt (.cell a.block (a.off + 0)) (List.mem_append_left _ (by
        unfold MemPlace.row
        refine List.mem_map.2 ⟨0, List.mem_range.2 ?_, rfl⟩
        exact Nat.mul_pos (by omega) hk0))
      exact this
    · have hj : j < len0 * k := by
        have := (List.getElem?_eq_some_iff.1 hu).1
        rw [flat_length f k hf] at this
        simpa using this
      have hq : j / k < len0 := Nat.div_lt_of_lt_mul (by rw [Nat.mul_comm]; exact hj)
      have hr : j % k < k := Nat.mod_lt _ hk0
      have hjd : j / k * k + j % k = j := by rw [Nat.mul_comm]; exact Nat.div_add_mod j k
      rw [← hjd, flat_at f k hf _ _ _ (by simpa using hq) hr] at hu
      simp only [List.getElem_map, List.getElem_range] at hu
      have := (World.cells?_some (hV (j / k) (by omega)).1).2.2 (j % k) hr
      rw [add_of_add, hjd] at this
      rw [this]
      exact hu
    · obtain ⟨i, hi, rfl⟩ := List.mem_map.1 hx
      exact (hV i (by have := List.mem_range.1 hi; omega)).2

theorem list4b {α : Type} {l : List α} (h : l.length = 4) : ∃ a b c d, l = [a, b, c, d] := by
  match l, h with
  | [a, b, c, d], _ => exact ⟨a, b, c, d, rfl⟩
theorem k_ob_bytes : Tryz.prog.bytesOf 55 = 64 := by kernel_rfl
def ObIn (W : World) (p : Ob × ObV) : Prop := ObR W W.heap.size p.1 p.2 ∧ (∀ x ∈ p.1.refs, (Lit.int .i64 x).wf = true) ∧ ∀ x ∈ p.1.body, (Lit.int .u64 x).wf = true
set_option maxRecDepth 100000 in
theorem open_obs {H : Type} {enc : TypeId × Value → H} {W : World} {r : Reach} {base : Nat} {sp : Nat → Bool} {v : Value} {d : DataW H} {ps : List MemPlace}
    (hval : Value.okWide Tryz.prog W r base 108 v) (hlt : ∀ x ∈ ps, x.block < W.heap.size) (h : DataW.Trod enc Tryz.prog W 0 sp true 108 v d ps) :
    ∃ (A : Option Addr) (n c : Nat) (os : List Ob) (vs : List ObV), v = .slice A n c ∧ n ≤ c ∧ c ≤ maxLen ∧ Reads W W.heap.size 4 A n (vs.flatMap obvC) ∧ ObsR W W.heap.size os vs ∧ (∀ o ∈ os, (∀ x ∈ o.refs, (Lit.int .i64 x).wf = true) ∧ ∀ x ∈ o.body, (Lit.int .u64 x).wf = true) ∧ os.length = n ∧ (n = 0 ∨ ∃ D E, d = .slice D E ∧ D.length = n) := by
  obtain ⟨A, n, c, l, rfl, h2, h3, h4, h5, h6, h7⟩ := open_elemsQ (α := Ob × ObV) (fun p => obvC p.2) (ObIn W) 4 (by decide) (fun _ => rfl) Tryz.underlying108 (by kernel_rfl) (fun n cs y hy hp => by
    obtain ⟨y0, y1, y2, y3, m, hyy, hl, a0, a1, a2, a3⟩ := trod_struct4 Tryz.underlying55 hp
    have hl4 : cs.length = 4 := hl.trans (by kernel_rfl)
    obtain ⟨c0, c1, c2, c3, rfl⟩ := list4b hl4
    have k0 : Tryz.prog.cellsOf 3 = 1 := by kernel_rfl
    have k1 : Tryz.prog.cellsOf 23 = 1 := by kernel_rfl
    have k2 : Tryz.prog.cellsOf 22 = 1 := by kernel_rfl
    have k3 : Tryz.prog.cellsOf 4 = 1 := by kernel_rfl
    have k4 : Tryz.prog.cellsOf 43 = 1 := by kernel_rfl
    dsimp only at a0 a1 a2 a3
    rw [k0] at a0
    rw [k1] at a1
    rw [k2] at a2
    rw [k3] at a3
    have hy1 : ∀ p ∈ y1.2, p.block < W.heap.size := fun p hp' => hy p (by rw [hyy]; simp [hp'])
    have hy2 : ∀ p ∈ y2.2, p.block < W.heap.size := fun p hp' => hy p (by rw [hyy]; simp [hp'])
    obtain ⟨x0, q0, -, -⟩ := DataW.trod_int Tryz.underlying3 a0
    obtain ⟨x3, q3, -⟩ := DataW.trod_bool Tryz.underlying4 a3
    simp at q0 q3
    subst q0 q3
    obtain ⟨A1, n1, e1, xs1, rfl, r1, r2, r3, r4, r5⟩ := trod_nums Tryz.underlying23 Tryz.underlying3 k0 hy1 (by simpa using a1)
    obtain ⟨A2, n2, e2, xs2, rfl, s1, s2, s3, s4, s5⟩ := trod_nums Tryz.underlying22 Tryz.underlying43 k4 hy2 (by simpa using a2)
    exact ⟨(⟨x0, xs1, xs2, x3⟩, ⟨x0, A1, n1, e1, A2, n2, e2, x3⟩), rfl, ⟨rfl, rfl, r1, s1, r3.symm, s3.symm, r4, s4⟩, r5, s5⟩) hval hlt h
  refine ⟨A, n, c, l.map (·.1), l.map (·.2), rfl, h2, h3, ?_, ⟨by simp, fun i o v ho hv => ?_⟩, fun o ho => ?_, by simpa using h6, h7⟩
  · rw [List.flatMap_map]; exact h4
  · rw [List.getElem?_map] at ho hv
    cases hx : l[i]? with
    | none => rw [hx] at ho; cases ho
    | some p =>
      rw [hx] at ho hv
      obtain rfl := Option.some.inj ho
      obtain rfl := Option.some.inj hv
      exact (h5 p (List.mem_of_getElem? hx)).1
  · obtain ⟨p, hp, rfl⟩ := List.mem_map.1 ho
    exact (h5 p hp).2
end Go.Proofs.YtjdpcmmmdaffdaaGreat

/-
  Opening a store (a struct of four slices) that came in by value.
-/
namespace Go.Proofs.YtjdpcmmmdaffdaaGreat
open Go.ChangeShapes Go.WideShapes Go.ChangeAt Go.RowKit Go.Joins Go.Deep

set_option maxRecDepth 100000 in
theorem open_store {H : Type} {enc : TypeId × Value → H} {W : World} {r : Reach} {base : Nat} {sp : Nat → Bool} {v : Value} {d : DataW H} {ps : List MemPlace}
    (hval : Value.okWide Tryz.prog W r base 28 v) (hlt : ∀ x ∈ ps, x.block < W.heap.size) (h : DataW.Trod enc Tryz.prog W 0 sp true 28 v d ps) :
    ∃ (A : Option Addr) (n c : Nat) (RA : Option Addr) (rn rc : Nat) (PA : Option Addr) (pn pc : Nat) (HA : Option Addr) (hn hc : Nat) (S : St), v = .agg #[.slice A n c, .slice RA rn rc, .slice PA pn pc, .slice HA hn hc] ∧ StR W W.heap.size A n RA rn PA pn HA hn S ∧ StK n c rn pn hn S := by
  obtain ⟨c0, c1, c2, c3, y0, y1, y2, y3, m, rfl, rfl, rfl, hy0, hy1, hy2, hy3⟩ := open_agg4 Tryz.underlying28 (by kernel_rfl) (by kernel_rfl) hval h
  have k4 : Tryz.prog.cellsOf 43 = 1 := by kernel_rfl
  have k0 : Tryz.prog.cellsOf 3 = 1 := by kernel_rfl
  have k3 : Tryz.prog.cellsOf 4 = 1 := by kernel_rfl
  obtain ⟨A, n, c, a, rfl, a1, a2, a3, a4, a5⟩ := trod_nums Tryz.underlying22 Tryz.underlying43 k4 (fun x hx => hlt x (by simp [hx])) hy0
  obtain ⟨RA, rn, rc, r, rfl, r1, r2, r3, r4, r5⟩ := trod_nums Tryz.underlying23 Tryz.underlying3 k0 (fun x hx => hlt x (by simp [hx])) hy1
  obtain ⟨PA, pn, pc, p, rfl, p1, p2, p3, p4⟩ := open_elemsC runC 2 (by decide) (fun _ => rfl) Tryz.underlying24 (by kernel_rfl) (fun n cs y hy => by
    obtain ⟨z0, z1, m, _, hl, a0, a1⟩ := trod_struct2 Tryz.underlying84 hy
    have hl2 : cs.length = 2 := hl.trans (by kernel_rfl)
    obtain ⟨c0, c1, rfl⟩ := list2P hl2
    dsimp only at a0 a1
    rw [k0] at a0 a1
    obtain ⟨x0, q0, -, -⟩ := DataW.trod_int Tryz.underlying3 a0
    obtain ⟨x1, q1, -, -⟩ := DataW.trod_int Tryz.underlying3 a1
    simp at q0 q1
    subst q0 q1
    exact ⟨⟨x0, x1⟩, rfl⟩) (fun x hx => hlt x (by simp [hx])) hy2
  obtain ⟨HA, hn, hc, l, rfl, l1, l2, l3, l4⟩ := open_elemsC slotC 3 (by decide) (fun _ => rfl) Tryz.underlying26 (by kernel_rfl) (fun n cs y hy => by
    obtain ⟨z0, z1, z2, m, _, hl, a0, a1, a2⟩ := trod_struct3 Tryz.underlying87 hy
    have hl3 : cs.length = 3 := hl.trans (by kernel_rfl)
    obtain ⟨c0, c1, c2, rfl⟩ := list3 hl3
    dsimp only at a0 a1 a2
    rw [k0] at a0 a2
    rw [k3] at a1
    obtain ⟨x0, q0, -, -⟩ := DataW.trod_int Tryz.underlying3 a0
    obtain ⟨x1, q1, -⟩ := DataW.trod_bool Tryz.underlying4 a1
    obtain ⟨x2, q2, -, -⟩ := DataW.trod_int Tryz.underlying3 a2
    simp at q0 q1 q2
    subst q0 q1 q2
    exact ⟨⟨x0, x1, x2⟩, rfl⟩) (fun x hx => hlt x (by simp [hx])) hy3
  unfold maxLen at r2 p2 l2
  exact ⟨A, n, c, RA, rn, rc, PA, pn, pc, HA, hn, hc, ⟨a, r, p, l⟩, rfl, ⟨a4, r4, p3, l3⟩, ⟨a1, a2, a5, by omega, by omega, by omega⟩⟩
end Go.Proofs.YtjdpcmmmdaffdaaGreat
