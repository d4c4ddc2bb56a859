/-
  package word: Words.
-/
import Derived.Test.YtdanffkcgogalaaBytes
import Derived.RegionTactic
import Derived.Test.YtdanffkcgogalaaBits
namespace Go.Proofs.Ytdanffkcgogalaa
open Go.RowKit

set_option maxHeartbeats 400000 in
theorem words_bad (s : ByteArray) (w : World) (hs : s.size ≤ maxLen) (hE : wordsE s.data.toList ≠ 0) :
    Calls Try.prog 23 #[.string s] w fun e w' => e = .returned (.tuple #[.slice none 0 0, .int .i64 (wordsE s.data.toList)]) ∧ w = w' := by
  unfold maxLen at hs
  have hl : s.data.toList.length = s.size := by simp
  unfold wordsE at hE ⊢
  rw [hl] at hE ⊢
  clear hl
  by_cases h1 : 2048 < s.size
  · rw [if_pos h1]
    clear hE
    go_enter Try.func23, Try.ntmps23
    go_wp2
    go_ret2
    exact ⟨rfl, rfl⟩
  · rw [if_neg h1] at hE ⊢
    have h2 : s.size % 8 ≠ 0 := by intro h; rw [if_neg (by simp [h])] at hE; exact hE rfl
    rw [if_pos h2]
    have h3 : ((s.size : Int) % 8 != 0) = true := by rw [bne_iff_ne]; omega
    clear hE h2
    go_enter Try.func23, Try.ntmps23
    go_wp2
    go_ret2
    exact ⟨rfl, rfl⟩

set_option maxRecDepth 100000 in
set_option maxHeartbeats 1000000 in
theorem words_ok (s : ByteArray) (w : World) (hE : wordsE s.data.toList = 0) :
    Calls Try.prog 23 #[.string s] w fun e w' => Below w.heap.size w w' ∧ ∃ A' c', e = .returned (.tuple #[.slice A' (s.size / 8) c', .int .i64 0]) ∧ w'.ownsRow w.heap.size 27 1 (.slice A' (s.size / 8) c') (s.size / 8) ((wordsL s.data.toList).map (.int .u64)) := by
  have hl : s.data.toList.length = s.size := by simp
  have h1 : s.size ≤ 2048 := by
    unfold wordsE at hE
    rw [hl] at hE
    split at hE
    · cases hE
    · omega
  have h8 : s.size % 8 = 0 := by
    unfold wordsE at hE
    rw [hl, if_neg (by omega)] at hE
    split at hE
    · cases hE
    · rename_i h; simpa using h
  have H8 := Lib.hid h8
  have HL := Lib.hid hl
  obtain ⟨m, hm⟩ : ∃ m, m = s.size / 8 := ⟨_, rfl⟩
  rw [← hm]
  have HM := Lib.hid hm
  have h3 : ((s.size : Int) % 8 != 0) = false := by rw [bne_eq_false_iff_eq]; omega
  have hm8 : (s.size : Int) / 8 = m := by omega
  obtain ⟨i0, hi, hz0, hz1, hz2⟩ := info_parts info_u64
  have hmk := fun W => run_make_rowN (P := Try.prog) 22 27 i0 (.int .u64 0) Try.underlying22 hi hz0 .i64 .i64 m m (Nat.le_refl _) (by rw [hz2]; omega) (by omega) W
  clear hE hl hm h8
  go_enter Try.func23, Try.ntmps23
  go_wp2
  have hown := own_make1 w w.heap.size 27 (.int .u64 0) m (madeCells #[Value.int .u64 0] m) rfl (Nat.le_refl _) (by unfold maxLen; omega)
  have hb0 := below_new w (.cells (madeCells #[Value.int .u64 0] m) 27)
  have HW : Hid (wordsP s.data.toList 0 = List.replicate m 0) := by show _ = _; rw [wordsP_zero, HL.out, HM.out]
  clear hmk hm8
  go_loopw [5, 21] (fun _ i wr => ∃ j : Nat, j ≤ s.size ∧ i = .int .i64 j ∧ wr.ownsRow w.heap.size 27 1 (.slice (some ⟨w.heap.size, 0, none⟩) m m) m ((wordsP s.data.toList j).map (.int .u64)) ∧ Below w.heap.size w wr) (fun _ i _ => s.size - (intOf i).toNat)
  case atStart => exact ⟨0, Nat.zero_le _, rfl, by rw [HW.out, List.map_replicate]; exact hown, hb0⟩
  case round =>
    obtain ⟨j, hj, rfl, hown, hb⟩ := hrel
    by_cases hlt : j < s.size
    · have hm2 : j / 8 < m := by have := HM.out; have := H8.out; omega
      obtain ⟨old, q1, q2, q3, q4⟩ := wordsP_succ s.data.toList j (by rw [HL.out]; exact hlt) (by rw [HL.out]; exact H8.out)
      have hcell := hown.cellAt (j / 8) (by omega)
      rw [List.getElem?_map, q1] at hcell
      simp only [Option.map_some] at hcell
      have hfr := hown.frozenAt (j / 8)
      have hb0 : 0 ≤ (j : Int) / 8 := by omega
      have hb1 : (j : Int) / 8 < m := by omega
      have hb2 : 0 ≤ (j : Int) % 8 := by omega
      have hb3 : (j : Int) % 8 < 8 := by omega
      have hn : ((j : Int) / 8).toNat = j / 8 := by omega
      have HQ := Lib.hid q4
      clear q1 q4
      go_wp2
      go_region
      go_wp2
      go_roundw
      case rel => exact ⟨j + 1, by omega, by go_num, by
        have hs := (hown.stored (j / 8) (.int .u64 (old + (s.data.toList[j]'(by rw [HL.out]; exact hlt)).toNat * 2 ^ (8 * (j % 8))))).1
        rw [HQ.out, List.map_set]
        rw [or_byte old _ (8 * (j % 8)) q2 q3 (UInt8.toNat_lt _) (by omega)]
        exact hs.drew, (hb.setCell (p := ⟨w.heap.size, j / 8, none⟩) (Nat.le_refl _) _).drew⟩
      case measure => simp [intOf]; omega
    · have hjn : j = s.size := by omega
      subst hjn
      rw [show wordsP s.data.toList s.size = wordsL s.data.toList by rw [← HL.out]; exact wordsP_all _] at hown
      go_wp2
      go_ret2
      exact ⟨hb, _, _, rfl, hown⟩
end Go.Proofs.Ytdanffkcgogalaa
