/-
  Texts joined: DoFn0.
-/
import Derived.Test.YtccmichgbkmdpaaGreatDoorG12
import Derived.Test.YtccmichgbkmdpaaGreatDoorG18
namespace Go.Proofs.YtccmichgbkmdpaaGreatDoor
open Go.RowKit
def FTab (w : World) : Prop := 0 < w.heap.size ∧ ∀ k i : Nat, k < 14 → i < 4 → w.cell? ⟨0, k * 4 + i, none⟩ = some (.bool (formB k i))
theorem FTab.below {w w' : World} (h : FTab w) (hb : Below w.heap.size w w') : FTab w' := ⟨Nat.lt_of_lt_of_le h.1 hb.size, fun k i hk hi => (hb.cell (p := ⟨0, k * 4 + i, none⟩) h.1).trans (h.2 k i hk hi)⟩
theorem Blk.five {w : World} {g : Nat} {t : TypeId} {a b c d e : Value} (h : Blk w g t #[a, b, c, d, e]) : w.cell? ⟨g, 0, none⟩ = some a ∧ w.cell? ⟨g, 1, none⟩ = some b ∧ w.cell? ⟨g, 2, none⟩ = some c ∧ w.cell? ⟨g, 3, none⟩ = some d ∧ w.cell? ⟨g, 4, none⟩ = some e := ⟨h.cell 0, h.cell 1, h.cell 2, h.cell 3, h.cell 4⟩
set_option maxRecDepth 100000 in
set_option maxHeartbeats 4000000 in
theorem right_any (k a b c v : Int) (w : World) (hT : FTab w) :
    Calls Tryz.prog 38 #[.agg #[.int .i64 k, .int .i64 a, .int .i64 b, .int .i64 c, .int .u64 v]] w fun e w' => Below w.heap.size w w' ∧ e = .returned (.bool (rightB ⟨k, a, b, c, v⟩)) := by
  have hb := below_new w (.cells #[.int .i64 k, .int .i64 a, .int .i64 b, .int .i64 c, .int .u64 v] 41)
  have DO := Blk.new w 41 #[.int .i64 k, .int .i64 a, .int .i64 b, .int .i64 c, .int .u64 v]
  by_cases h1 : k < 1
  · have hX : rightB ⟨k, a, b, c, v⟩ = false := by
      unfold rightB
      rw [show decide ((1 : Int) ≤ k) = false from decide_eq_false (by omega)]
      rfl
    rw [hX]
    have g1 : decide (k < 1) = true := decide_eq_true h1
    obtain ⟨m0, m1, m2, m3, m4⟩ := DO.five
    clear h1 hX
    go_enter Tryz.func38, Tryz.ntmps38
    go_wp2_with fail
    go_ret
    exact ⟨hb, rfl⟩
  · have g1 : decide (k < 1) = false := decide_eq_false h1
    by_cases h2 : 13 < k
    · have hX : rightB ⟨k, a, b, c, v⟩ = false := by
        unfold rightB
        rw [show decide (k ≤ (13 : Int)) = false from decide_eq_false (by omega), Bool.and_false]
        rfl
      rw [hX]
      have g2 : decide (13 < k) = true := decide_eq_true h2
      obtain ⟨m0, m1, m2, m3, m4⟩ := DO.five
      clear h1 h2 hX
      go_enter Tryz.func38, Tryz.ntmps38
      go_wp2_with fail
      go_ret
      exact ⟨hb, rfl⟩
    · obtain ⟨K, rfl⟩ := Int.eq_ofNat_of_zero_le (show 0 ≤ k by omega)
      have g2 : decide ((13 : Int) < (K : Int)) = false := decide_eq_false h2
      have g2' : decide (13 < K) = false := decide_eq_false (by omega)
      have g1' : decide (K < 1) = false := decide_eq_false (by omega)
      have hK : K < 14 := by omega
      have hX : rightB ⟨K, a, b, c, v⟩ = ((formB K 0 || a == 0) && (formB K 1 || b == 0) && (formB K 2 || c == 0) && (formB K 3 || v == 0)) := by
        unfold rightB
        rw [show decide ((1 : Int) ≤ K) = true from decide_eq_true (by omega), show decide ((K : Int) ≤ (13 : Int)) = true from decide_eq_true (by omega), Int.toNat_natCast]
        rfl
      rw [hX]
      have hT1 := hT.below hb
      have f0 := hT1.2 K 0 hK (by decide)
      have f1 := hT1.2 K 1 hK (by decide)
      have f2 := hT1.2 K 2 hK (by decide)
      have f3 := hT1.2 K 3 hK (by decide)
      rw [Nat.add_zero] at f0
      generalize formB K 0 = q0 at *
      generalize formB K 1 = q1 at *
      generalize formB K 2 = q2 at *
      generalize formB K 3 = q3 at *
      have HBf := Lib.hid (fun q0 q1 q2 q3 => hb.alloc hb.size (.cells #[.bool q0, .bool q1, .bool q2, .bool q3] 123))
      have DF := Blk.new (w.alloc (.cells #[.int .i64 (K : Int), .int .i64 a, .int .i64 b, .int .i64 c, .int .u64 v] 41)) 123 #[.bool q0, .bool q1, .bool q2, .bool q3]
      have DO2 := DO.alloc (.cells #[.bool q0, .bool q1, .bool q2, .bool q3] 123)
      rw [World.size_alloc] at DF
      obtain ⟨m0, m1, m2, m3, m4⟩ := DO.five
      obtain ⟨o0, o1, o2, o3, o4⟩ := DO2.five
      obtain ⟨d0, d1, d2, d3⟩ := DF.four
      clear hX h1 h2 hT hT1 DO DO2 DF hb
      go_enter Tryz.func38, Tryz.ntmps38
      go_wp2_with fail
      all_goals try subst_vars
      all_goals first | (go_ret; refine ⟨HBf.out _ _ _ _, ?_⟩; simp_all; done) | skip
set_option maxHeartbeats 1000000 in
theorem only_any (X1 : Option Addr) (a1 b1 : Nat) (X2 : Option Addr) (a2 b2 : Nat) (X3 : Option Addr) (a3 b3 : Nat) (X4 : Option Addr) (a4 b4 : Nat) (E : Int) (w : World) :
    Calls Tryz.prog 42 #[.agg #[.slice X1 a1 b1, .slice X2 a2 b2, .slice X3 a3 b3, .slice X4 a4 b4], .int .i64 E] w fun e w' => Below w.heap.size w w' ∧ e = .returned (.tuple #[.agg #[.slice X1 a1 b1, .slice X2 a2 b2, .slice X3 a3 b3, .slice X4 a4 b4], .int .u64 0, .int .i64 E]) := by
  have hb := (below_new w (.cells #[.slice X1 a1 b1, .slice X2 a2 b2, .slice X3 a3 b3, .slice X4 a4 b4] 28)).alloc (by simp) (.cells #[.slice X1 a1 b1, .slice X2 a2 b2, .slice X3 a3 b3, .slice X4 a4 b4] 28)
  have DS := (Blk.new w 28 #[.slice X1 a1 b1, .slice X2 a2 b2, .slice X3 a3 b3, .slice X4 a4 b4]).alloc (.cells #[.slice none 0 0, .slice none 0 0, .slice none 0 0, .slice none 0 0] 28)
  have DR := Blk.new (w.alloc (.cells #[.slice X1 a1 b1, .slice X2 a2 b2, .slice X3 a3 b3, .slice X4 a4 b4] 28)) 28 #[.slice none 0 0, .slice none 0 0, .slice none 0 0, .slice none 0 0]
  have DZ := Blk.new (w.alloc (.cells #[.slice X1 a1 b1, .slice X2 a2 b2, .slice X3 a3 b3, .slice X4 a4 b4] 28)) 28 #[.slice X1 a1 b1, .slice X2 a2 b2, .slice X3 a3 b3, .slice X4 a4 b4]
  rw [World.size_alloc] at DR DZ
  obtain ⟨s0, s1, s2, s3⟩ := DS.four
  obtain ⟨r0, r1, r2, r3⟩ := DR.four
  obtain ⟨f0, f1, f2, f3⟩ := DR.four_frozen
  go_enter Tryz.func42, Tryz.ntmps42
  go_wp2_with fail
  refine bodyPost_ret (v := .tuple #[.agg #[.slice X1 a1 b1, .slice X2 a2 b2, .slice X3 a3 b3, .slice X4 a4 b4], .int .u64 0, .int .i64 E]) ?_ rfl ⟨hb, rfl⟩
  obtain ⟨z0, z1, z2, z3⟩ := DZ.four
  simp only [results, Tryz.results42]
  go_simp
set_option maxHeartbeats 1000000 in
theorem number_any (X1 : Option Addr) (a1 b1 : Nat) (X2 : Option Addr) (a2 b2 : Nat) (X3 : Option Addr) (a3 b3 : Nat) (X4 : Option Addr) (a4 b4 : Nat) (N : Nat) (E : Int) (hN : N < 18446744073709551616) (w : World) :
    Calls Tryz.prog 40 #[.agg #[.slice X1 a1 b1, .slice X2 a2 b2, .slice X3 a3 b3, .slice X4 a4 b4], .int .i64 N, .int .i64 E] w fun e w' => Below w.heap.size w w' ∧ e = .returned (.tuple #[.agg #[.slice X1 a1 b1, .slice X2 a2 b2, .slice X3 a3 b3, .slice X4 a4 b4], .int .u64 N, .int .i64 E]) := by
  have hw : IntKind.u64.wrap (N : Int) = (N : Int) := IntWalk.u64_in _ (by omega)
  have hb := (below_new w (.cells #[.slice X1 a1 b1, .slice X2 a2 b2, .slice X3 a3 b3, .slice X4 a4 b4] 28)).alloc (by simp) (.cells #[.slice X1 a1 b1, .slice X2 a2 b2, .slice X3 a3 b3, .slice X4 a4 b4] 28)
  have DS := (Blk.new w 28 #[.slice X1 a1 b1, .slice X2 a2 b2, .slice X3 a3 b3, .slice X4 a4 b4]).alloc (.cells #[.slice none 0 0, .slice none 0 0, .slice none 0 0, .slice none 0 0] 28)
  have DR := Blk.new (w.alloc (.cells #[.slice X1 a1 b1, .slice X2 a2 b2, .slice X3 a3 b3, .slice X4 a4 b4] 28)) 28 #[.slice none 0 0, .slice none 0 0, .slice none 0 0, .slice none 0 0]
  have DZ := Blk.new (w.alloc (.cells #[.slice X1 a1 b1, .slice X2 a2 b2, .slice X3 a3 b3, .slice X4 a4 b4] 28)) 28 #[.slice X1 a1 b1, .slice X2 a2 b2, .slice X3 a3 b3, .slice X4 a4 b4]
  rw [World.size_alloc] at DR DZ
  obtain ⟨s0, s1, s2, s3⟩ := DS.four
  obtain ⟨r0, r1, r2, r3⟩ := DR.four
  obtain ⟨f0, f1, f2, f3⟩ := DR.four_frozen
  go_enter Tryz.func40, Tryz.ntmps40
  go_wp2_with fail
  refine bodyPost_ret (v := .tuple #[.agg #[.slice X1 a1 b1, .slice X2 a2 b2, .slice X3 a3 b3, .slice X4 a4 b4], .int .u64 N, .int .i64 E]) ?_ rfl ⟨hb, rfl⟩
  obtain ⟨z0, z1, z2, z3⟩ := DZ.four
  simp only [results, Tryz.results40]
  go_simp
set_option maxRecDepth 100000 in
set_option maxHeartbeats 2000000 in
theorem kept_bad (X1 : Option Addr) (a1 b1 : Nat) (X2 : Option Addr) (a2 b2 : Nat) (X3 : Option Addr) (a3 b3 : Nat) (X4 : Option Addr) (a4 b4 : Nat) (v E : Int) (hE : E ≠ 0) (w : World) :
    Calls Tryz.prog 46 #[.agg #[.slice X1 a1 b1, .slice X2 a2 b2, .slice X3 a3 b3, .slice X4 a4 b4], .int .u64 v, .int .i64 E] w fun e w' => Below w.heap.size w w' ∧ e = .returned (.tuple #[.agg #[.slice none 0 0, .slice none 0 0, .slice none 0 0, .slice none 0 0], .int .u64 0, .int .i64 E]) := by
  have g1 : (E != 0) = true := by simpa using hE
  have hb := (below_new w (.cells #[.slice X1 a1 b1, .slice X2 a2 b2, .slice X3 a3 b3, .slice X4 a4 b4] 28)).alloc (by simp) (.cells #[.slice none 0 0, .slice none 0 0, .slice none 0 0, .slice none 0 0] 28)
  have DS := (Blk.new w 28 #[.slice X1 a1 b1, .slice X2 a2 b2, .slice X3 a3 b3, .slice X4 a4 b4]).alloc (.cells #[.slice none 0 0, .slice none 0 0, .slice none 0 0, .slice none 0 0] 28)
  have DR := Blk.new (w.alloc (.cells #[.slice X1 a1 b1, .slice X2 a2 b2, .slice X3 a3 b3, .slice X4 a4 b4] 28)) 28 #[.slice none 0 0, .slice none 0 0, .slice none 0 0, .slice none 0 0]
  rw [World.size_alloc] at DR
  obtain ⟨s0, s1, s2, s3⟩ := DS.four
  obtain ⟨r0, r1, r2, r3⟩ := DR.four
  obtain ⟨f0, f1, f2, f3⟩ := DR.four_frozen
  go_enter Tryz.func46, Tryz.ntmps46
  go_wp2_with fail
  refine bodyPost_ret (v := .tuple #[.agg #[.slice none 0 0, .slice none 0 0, .slice none 0 0, .slice none 0 0], .int .u64 0, .int .i64 E]) ?_ rfl ⟨hb, rfl⟩
  obtain ⟨z0, z1, z2, z3⟩ := DR.four
  simp only [results, Tryz.results46]
  go_simp
set_option maxRecDepth 100000 in
set_option maxHeartbeats 2000000 in
theorem kept_ok (A : Option Addr) (n c : Nat) (RA : Option Addr) (rn rc : Nat) (PA : Option Addr) (pn pc : Nat) (HA : Option Addr) (hn hc : Nat) (S : St) (v : Int) (w : World) (hR : StR w w.heap.size A n RA rn PA pn HA hn S) (_ : StK n c rn pn hn S) (hOK : StOk S) :
    Calls Tryz.prog 46 #[.agg #[.slice A n c, .slice RA rn rc, .slice PA pn pc, .slice HA hn hc], .int .u64 v, .int .i64 0] w fun e w' => Below w.heap.size w w' ∧ ∃ (B1 : Option Addr) (n1 d1 : Nat) (B2 : Option Addr) (n2 d2 : Nat) (B3 : Option Addr) (n3 d3 : Nat) (B4 : Option Addr) (n4 d4 : Nat), e = .returned (.tuple #[.agg #[.slice B1 n1 d1, .slice B2 n2 d2, .slice B3 n3 d3, .slice B4 n4 d4], .int .u64 v, .int .i64 0]) ∧ StO w' w.heap.size B1 n1 d1 B2 n2 d2 B3 n3 d3 B4 n4 d4 S := by
  obtain ⟨y1, y2, y3, y4, -⟩ := hOK.lens
  obtain ⟨z1, z2, z3, z4⟩ := hR.lens
  have HOw := Lib.hid (fun w hR => pown_any A n c RA rn rc PA pn pc HA hn hc S w hR (by omega) (by omega) (by omega) (by omega))
  have hb := (below_new w (.cells #[.slice A n c, .slice RA rn rc, .slice PA pn pc, .slice HA hn hc] 28)).alloc (by simp) (.cells #[.slice none 0 0, .slice none 0 0, .slice none 0 0, .slice none 0 0] 28)
  have DS := (Blk.new w 28 #[.slice A n c, .slice RA rn rc, .slice PA pn pc, .slice HA hn hc]).alloc (.cells #[.slice none 0 0, .slice none 0 0, .slice none 0 0, .slice none 0 0] 28)
  have DR := Blk.new (w.alloc (.cells #[.slice A n c, .slice RA rn rc, .slice PA pn pc, .slice HA hn hc] 28)) 28 #[.slice none 0 0, .slice none 0 0, .slice none 0 0, .slice none 0 0]
  rw [World.size_alloc] at DR
  obtain ⟨s0, s1, s2, s3⟩ := DS.four
  clear y1 y2 y3 y4 z1 z2 z3 z4
  go_enter Tryz.func46, Tryz.ntmps46
  go_wp2_with fail
  refine (HOw.out _ ((hR.below hb).more hb.size)).mono ?_
  rintro e w2 ⟨hb2, A1, c1, A2, c2, A3, c3, A4, c4, rfl, hO⟩
  have hb02 := below_step hb hb2
  have DR2 := DR.below hb2 DR.lt
  have hO2 := hO.mono hb.size
  clear s0 s1 s2 s3
  obtain ⟨r0, r1, r2, r3⟩ := DR2.four
  obtain ⟨f0, f1, f2, f3⟩ := DR2.four_frozen
  go_wp2_with fail
  refine bodyPost_ret (v := .tuple #[.agg #[.slice A1 n c1, .slice A2 rn c2, .slice A3 pn c3, .slice A4 hn c4], .int .u64 v, .int .i64 0]) ?_ rfl ⟨below_block4 (g := w.heap.size + 1) hb02 (Nat.le_succ _) _ _ _ _, A1, n, c1, A2, rn, c2, A3, pn, c3, A4, hn, c4, rfl, hO2.store DR2 _ _ _ _⟩
  obtain ⟨z0, z1, z2, z3⟩ := (DR2.store4 (.slice A1 n c1) (.slice A2 rn c2) (.slice A3 pn c3) (.slice A4 hn c4)).four
  simp only [results, Tryz.results46]
  go_simp
end Go.Proofs.YtccmichgbkmdpaaGreatDoor
