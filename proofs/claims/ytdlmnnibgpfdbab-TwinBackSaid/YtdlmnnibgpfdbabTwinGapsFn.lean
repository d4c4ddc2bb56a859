/-
  package twin: Gaps, Waste.
-/
import Derived.Test.YtdlmnnibgpfdbabTwinGaps
namespace Go.Proofs.Ytdlmnnibgpfdbab
open Go.RowKit

theorem Chain.rooms {o e : Nat} {l : List Rm} (h : Chain o e l) (ho : o ≤ 8) : Rooms l := by
  intro r hr
  obtain ⟨k, a, u, h1, rfl, h2, -⟩ := h.mem r hr
  have : 2 ^ o ≤ 256 := Nat.pow_le_pow_right (by decide) ho
  dsimp only
  generalize 2 ^ k = d at *
  omega

set_option maxRecDepth 100000 in
set_option maxHeartbeats 1000000 in
theorem twinGaps_bad (o : Int) (A : Option Addr) (n c : Nat) (l : List Rm) (w : World) (hr : Reads w w.heap.size 3 A n (roomsC l)) (hn : n ≤ 9223372036854775807) (hE : twinE o l ≠ 0) :
    Calls Try.prog 10 #[.agg #[.int .i64 o, .slice A n c]] w fun e w' => e = .returned (.tuple #[.slice none 0 0, .int .i64 (twinE o l)]) ∧ Below w.heap.size w w' := by
  have hb0 := below_new w (.cells #[.int .i64 o, .slice A n c] 24)
  have H := Lib.hid (twinCheck_any o A n c l _ ((hr.below hb0).more hb0.size) hn)
  have hE1 : (twinE o l != 0) = true := by simpa using hE
  generalize twinE o l = E at *
  clear hE hr
  go_enter Try.func10, Try.ntmps10
  go_wp2_with fail
  refine H.out.mono ?_
  rintro e w1 ⟨rfl, hb1⟩
  go_wp2
  go_ret2
  exact ⟨rfl, below_step hb0 hb1⟩

set_option maxRecDepth 100000 in
set_option maxHeartbeats 1000000 in
theorem twinGaps_ok (K : Nat) (A : Option Addr) (n c : Nat) (l : List Rm) (w : World) (hr : Reads w w.heap.size 3 A n (roomsC l)) (hK : K ≤ 8) (hC : Chain K 0 l) :
    Calls Try.prog 10 #[.agg #[.int .i64 K, .slice A n c]] w fun e w' => ∃ A' q c', e = .returned (.tuple #[.slice A' q c', .int .i64 0]) ∧ w'.ownsRow w.heap.size 35 2 (.slice A' q c') q (runsC (tgapsL l K 0)) ∧ Below w.heap.size w w' := by
  have hE : twinE K l = 0 := twinE_iff.2 ⟨K, hK, rfl, hC⟩
  have hrm := hC.rooms hK
  have hlen := hC.len (Nat.zero_le _)
  have hll : l.length = n := by have := hr.1; rw [roomsC_length] at this; omega
  obtain ⟨all, ha, ha1, ha2⟩ : ∃ all : Nat, all = 2 ^ K ∧ 1 ≤ all ∧ all ≤ 256 := ⟨2 ^ K, rfl, Nat.pos_of_ne_zero (by simp), Nat.pow_le_pow_right (by decide) hK⟩
  have hb0 := below_new w (.cells #[.int .i64 K, .slice A n c] 24)
  have B0 := Blk.new w 24 #[.int .i64 K, .slice A n c]
  have H := twinCheck_any K A n c l _ ((hr.below hb0).more hb0.size) (by omega)
  rw [hE] at H
  have H := Lib.hid H
  have hpz : ((0 : Nat) : Int) = 0 := rfl
  have HG := Lib.hid (fun w hr => tgaps_any l hrm K 0 A n c w hr (by omega) hK (Nat.zero_le _))
  rw [← ha, hpz] at HG
  have hp2 : ((2 : Int) ^ K) = (all : Int) := by rw [ha]; simp
  have wa : IntKind.i64.wrap ((2 : Int) ^ K) = (all : Int) := by rw [hp2]; exact IntWalk.i64_in _ (by omega)
  clear hp2 ha hE hC hlen hll hpz
  generalize runsC (tgapsL l K 0) = X at *
  go_enter Try.func10, Try.ntmps10
  go_wp2_with fail
  refine H.out.mono ?_
  rintro e w1 ⟨rfl, hb1⟩
  have hbz := (below_step hb0 hb1).drew
  have D := (B0.below hb1 B0.lt).drew
  have k0 := D.cell 0
  have k1 := D.cell 1
  simp only [List.getElem?_toArray, List.getElem?_cons_zero, List.getElem?_cons_succ] at k0 k1
  have k0' : w1.cell? ⟨w.heap.size, 0, none⟩ = some (.int .i64 K) := k0
  have k1' : w1.cell? ⟨w.heap.size, 1, none⟩ = some (.slice A n c) := k1
  clear hb0 B0 hb1
  go_wp2
  go_region_held3 (fun w' => w'.cell? ⟨w.heap.size, 0, none⟩ = some (.int .i64 K) ∧ w'.cell? ⟨w.heap.size, 1, none⟩ = some (.slice A n c)) (go_keep)
    (first
      | (go_at_call 29; refine (HG.out _ ((hr.below hbz).more hbz.size)).mono ?_; rintro e wA ⟨A1, q1, c1, rfl, hownA, hbA⟩; have D := D.below hbA D.lt; have k0 := D.cell 0; have k1 := D.cell 1; simp only [List.getElem?_toArray, List.getElem?_cons_zero, List.getElem?_cons_succ] at k0 k1; have hgA := hbz.size; have hownA := own_mono hownA hgA; have hbz := hbz.trans (hbA.mono hbz.size)))
  all_goals
    go_wp2
    go_ret2
    exact ⟨_, _, _, rfl, hownA, hbz⟩

/-- The waste of rooms. -/
def wasteL : List Rm → Int
  | [] => 0
  | r :: t => (r.len - r.used) + wasteL t
theorem wasteL_take {l : List Rm} {j : Nat} {r : Rm} (hj : l[j]? = some r) : wasteL (l.take (j + 1)) = wasteL (l.take j) + (r.len - r.used) := by
  induction l generalizing j with
  | nil => simp at hj
  | cons x t ih =>
    cases j with
    | zero => simp only [List.getElem?_cons_zero, Option.some.injEq] at hj; subst hj; simp [wasteL]
    | succ j =>
      simp only [List.getElem?_cons_succ] at hj
      simp only [List.take_succ_cons, wasteL]
      rw [ih hj]
      omega

set_option maxRecDepth 100000 in
set_option maxHeartbeats 1000000 in
theorem waste_bad (o : Int) (A : Option Addr) (n c : Nat) (l : List Rm) (w : World) (hr : Reads w w.heap.size 3 A n (roomsC l)) (hn : n ≤ 9223372036854775807) (hE : twinE o l ≠ 0) :
    Calls Try.prog 11 #[.agg #[.int .i64 o, .slice A n c]] w fun e w' => e = .returned (.tuple #[.int .i64 0, .int .i64 (twinE o l)]) ∧ Below w.heap.size w w' := by
  have hb0 := below_new w (.cells #[.int .i64 o, .slice A n c] 24)
  have H := Lib.hid (twinCheck_any o A n c l _ ((hr.below hb0).more hb0.size) hn)
  have hE1 : (twinE o l != 0) = true := by simpa using hE
  generalize twinE o l = E at *
  clear hE hr
  go_enter Try.func11, Try.ntmps11
  go_wp2_with fail
  refine H.out.mono ?_
  rintro e w1 ⟨rfl, hb1⟩
  go_wp2
  go_ret2
  exact ⟨rfl, below_step hb0 hb1⟩

set_option maxRecDepth 100000 in
set_option maxHeartbeats 1000000 in
theorem waste_ok (K : Nat) (A : Option Addr) (n c : Nat) (l : List Rm) (w : World) (hr : Reads w w.heap.size 3 A n (roomsC l)) (hK : K ≤ 8) (hC : Chain K 0 l) :
    Calls Try.prog 11 #[.agg #[.int .i64 K, .slice A n c]] w fun e w' => e = .returned (.tuple #[.int .i64 (wasteL l), .int .i64 0]) ∧ Below w.heap.size w w' := by
  have hE : twinE K l = 0 := twinE_iff.2 ⟨K, hK, rfl, hC⟩
  have hlen := hC.len (Nat.zero_le _)
  have hll : l.length = n := by have := hr.1; rw [roomsC_length] at this; omega
  have h256 : 2 ^ K ≤ 256 := Nat.pow_le_pow_right (by decide) hK
  have hb0 := below_new w (.cells #[.int .i64 K, .slice A n c] 24)
  have B0 := Blk.new w 24 #[.int .i64 K, .slice A n c]
  have H := twinCheck_any K A n c l _ ((hr.below hb0).more hb0.size) (by omega)
  rw [hE] at H
  have H := Lib.hid H
  have HM := Lib.hid (fun r hr => hC.mem r hr)
  have HL := Lib.hid hll
  clear hE hC hll
  have hn : n ≤ 256 := by have := HL.out; omega
  clear hlen h256
  go_enter Try.func11, Try.ntmps11
  go_wp2_with fail
  refine H.out.mono ?_
  rintro e w1 ⟨rfl, hb1⟩
  have hb01 := below_step hb0 hb1
  have B1 := B0.below hb1 B0.lt
  have k0 := B1.cell 0
  have k1 := B1.cell 1
  simp only [List.getElem?_toArray, List.getElem?_cons_zero, List.getElem?_cons_succ] at k0 k1
  clear hb0 B0 hb1
  go_wp2
  go_loopw [5, 16] (fun s i wr => ∃ (j : Nat) (S : Int), j ≤ n ∧ i = .int .i64 j ∧ s = .int .i64 S ∧ 0 ≤ S ∧ S ≤ 256 * j ∧ Hid (S = wasteL (l.take j)) ∧ Below w.heap.size w wr) (fun _ i _ => n - (intOf i).toNat)
  case atStart => exact ⟨0, 0, Nat.zero_le _, rfl, rfl, by omega, by omega, rfl, hb01⟩
  case round =>
    obtain ⟨j, S, hj, rfl, rfl, hS0, hS1, HS, hb⟩ := hrel
    by_cases hlt : j < n
    · obtain ⟨ad, r, rfl, had, hx, cx0, cx1, cx2⟩ := (hr.below hb).room hlt
      obtain ⟨k, a, u, hk, rfl, h1, -, h2, h3, -⟩ := HM.out r (List.mem_of_getElem? hx)
      have HS2 := Lib.hid (wasteL_take hx)
      have h256 : 2 ^ K ≤ 256 := Nat.pow_le_pow_right (by decide) hK
      obtain ⟨d, hd⟩ : ∃ d, d = 2 ^ k := ⟨_, rfl⟩
      dsimp only at *
      rw [← hd] at cx1 h1 h2 HS2
      have hd2 : d ≤ 256 := by omega
      rw [HS.out.symm] at HS2
      have C := Blk.new wr 33 #[.int .i64 a, .int .i64 d, .int .i64 u]
      have b0 := C.cell 0
      have b1 := C.cell 1
      have b2 := C.cell 2
      simp only [List.getElem?_toArray, List.getElem?_cons_zero, List.getElem?_cons_succ] at b0 b1 b2
      have w1 : IntKind.i64.wrap ((d : Int) - u) = (d : Int) - u := IntWalk.i64_in _ (by omega)
      have w2 : IntKind.i64.wrap (S + ((d : Int) - u)) = S + ((d : Int) - u) := IntWalk.i64_in _ (by omega)
      have hS3 : S + ((d : Int) - u) ≤ 256 * ((j + 1 : Nat) : Int) := by omega
      have hS4 : 0 ≤ S + ((d : Int) - u) := by omega
      have hbx := hb.alloc hb.size (.cells #[.int .i64 a, .int .i64 d, .int .i64 u] 33)
      clear hx hd hk h1 h3 h256 C
      go_wp2
      go_roundw
      case rel => exact ⟨j + 1, S + ((d : Int) - u), by omega, by go_num, rfl, hS4, hS3, (show _ = _ from HS2.out.symm), hbx⟩
      case measure => simp [intOf]; omega
    · have HS2 : Hid (S = wasteL l) := by
        show _ = _
        rw [HS.out, List.take_of_length_le (by rw [HL.out]; omega)]
      go_wp2
      go_ret2
      exact ⟨by rw [HS2.out]; rfl, hb⟩
end Go.Proofs.Ytdlmnnibgpfdbab
