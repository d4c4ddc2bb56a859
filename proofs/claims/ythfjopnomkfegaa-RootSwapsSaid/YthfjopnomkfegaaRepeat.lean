/-
  slices.Repeat at []int, of one element.
-/
import Derived.Test.YthfjopnomkfegaaRootLib
import Derived.Test.YthfjopnomkfegaaCloneInt
import Derived.Test.YthfjopnomkfegaaMem
import Derived.Shelf.Bits.Mul64
import Derived.Ground.NamesProg
import Derived.Shelf.Lay
import Derived.IntWalk
namespace Go.Proofs
open Go.RowKit Go.Shelf

shelf_lay Lays.n212 Nm 212 at Try as Try.mulU

end Go.Proofs
namespace Go.Proofs.Ythfjopnomkfegaa
open Go.RowKit

theorem replicate_snoc2 (v : Value) (a b : Nat) : List.replicate (a + b) v = List.replicate a v ++ List.replicate b v := by rw [List.replicate_append_replicate]

/-- What a copy leaves: M cells hold v; m more do. -/
theorem splice_rep {cur : List Value} {v : Value} {M m : Nat} (h : cur.take M = List.replicate M v) (hM : M + m ≤ cur.length) : (splice cur M (List.replicate m v)).take (M + m) = List.replicate (M + m) v ∧ (splice cur M (List.replicate m v)).length = cur.length := by
  have hl := length_splice cur M (List.replicate m v) (by simpa using hM)
  refine ⟨?_, hl⟩
  have hM2 : M ≤ cur.length := by omega
  have ht : (cur.take M).length = M := by rw [List.length_take]; omega
  unfold splice
  rw [h, ← List.append_assoc, replicate_snoc2, List.take_append_of_le_length (by simp), List.take_of_length_le (by simp)]

set_option maxRecDepth 100000 in
set_option maxHeartbeats 1000000 in
theorem repeat_one (gv n : Nat) (v : Int) (w : World) (hv : Blk w gv 3 #[.int .i64 v]) (hn : n ≤ 1000) :
    Calls Try.prog 19 #[.slice (some ⟨gv, 0, none⟩) 1 1, .int .i64 n] w fun e w' => ∃ g, e = .returned (.slice (some ⟨g, 0, none⟩) n n) ∧ w'.ownsRow w.heap.size 3 1 (.slice (some ⟨g, 0, none⟩) n n) n ((List.replicate n v).map (.int .i64)) ∧ Below w.heap.size w w' := by
  have HMul := Lib.hid (fun w => Any.bits_Mul Try.mulU 1 n (by decide) (by omega) w)
  obtain ⟨i0, hi, hz0, hz1, hz2⟩ := info_parts info_int
  have hmk := run_make_rowN (P := Try.prog) 22 3 i0 (.int .i64 0) Try.underlying22 hi hz0 .i64 .i64 n n (Nat.le_refl _) (by rw [hz2]; omega) (by omega) w
  rw [hz1, Nat.mul_one] at hmk
  have hmk : (Instr.makeSlice 22 (.int .i64 n) (.int .i64 n)).run Try.prog w = .ok (.slice (some ⟨w.heap.size, 0, none⟩) n n) (w.alloc (.cells (madeCells #[Value.int .i64 0] n) 3)) := hmk
  have hd0 : 1 * n / 18446744073709551616 = 0 := by omega
  have hd1 : 1 * n % 18446744073709551616 = n := by omega
  rw [hd0, hd1] at HMul
  have hvl := hv.lt
  have hvc := hv.cell 0
  simp only [List.getElem?_toArray, List.getElem?_cons_zero] at hvc
  -- what make makes, and the first copy
  have hg0 : ((w.alloc (.cells (madeCells #[Value.int .i64 0] n) 3))).heap[w.heap.size]? = some (.cells (List.replicate n (Value.int .i64 0)).toArray 3 (0, 0)) := by rw [madeCells_one]; exact heap_alloc_new w _
  have hb0 := below_new w (.cells (madeCells #[Value.int .i64 0] n) 3)
  have hv0 := hv.alloc (.cells (madeCells #[Value.int .i64 0] n) 3)
  obtain ⟨W0, hW0⟩ : ∃ W0, W0 = w.alloc (.cells (madeCells #[Value.int .i64 0] n) 3) := ⟨_, rfl⟩
  rw [← hW0] at hg0 hb0 hv0
  obtain ⟨m, hm⟩ : ∃ m, m = Nat.min 1 n := ⟨_, rfl⟩
  have hm1 : m ≤ n := by rw [hm]; exact Nat.min_le_right _ _
  have hm2 : m ≤ 1 := by rw [hm]; exact Nat.min_le_left _ _
  have hm3 : n = 0 ∨ m = 1 := by rw [hm]; simp only [Nat.min_def]; split <;> omega
  obtain ⟨cur, hcur⟩ : ∃ cur, cur = splice (List.replicate n (Value.int .i64 0)) 0 (List.replicate m (Value.int .i64 v)) := ⟨_, rfl⟩
  have hsp := splice_rep (v := Value.int .i64 v) (M := 0) (m := m) (cur := List.replicate n (Value.int .i64 0)) (by simp) (by simpa using hm1)
  rw [← hcur, Nat.zero_add, List.length_replicate] at hsp
  obtain ⟨W1, hW1⟩ : ∃ W1, W1 = W0.setRow w.heap.size cur.toArray := ⟨_, rfl⟩
  have hcp : ∀ ty, (Builtin.copy_ #[22, 22] ty #[.slice (some ⟨w.heap.size, 0, none⟩) n n, .slice (some ⟨gv, 0, none⟩) 1 1]).run Try.prog W0 = .ok (goInt m) W1 := fun ty => by
    rw [hW1, hcur]
    refine run_copyK (P := Try.prog) W0 22 22 ty 3 1 w.heap.size 0 n n ⟨gv, 0, none⟩ 1 1 m _ 3 _ Try.underlying22 size_int hg0 hm.symm (by simp) (fun j u hj => ?_) (by simp; omega) (fun u hu => by obtain ⟨-, rfl⟩ := List.mem_replicate.1 hu; rfl)
    obtain ⟨h1, rfl⟩ := List.getElem?_eq_some_iff.1 hj
    simp only [List.length_replicate] at h1
    obtain rfl : j = 0 := by omega
    rw [Addr.add_lit, List.getElem_replicate]
    have := hv0.cell 0
    simpa using this
  have hg1 : W1.heap[w.heap.size]? = some (.cells cur.toArray 3 (0, 0)) := by rw [hW1]; exact setRow_heap W0 _ _ _ _ _ hg0
  have hb1 : Below w.heap.size w W1 := by rw [hW1]; exact below_setRow hb0 (Nat.le_refl _) _
  have g1 : decide ((n : Int) < 0) = false := decide_eq_false (by omega)
  have g2 : decide (9223372036854775807 < n) = false := decide_eq_false (by omega)
  rw [hW0] at hcp
  have HG := Lib.hid hg1
  have HB := Lib.hid hb1
  have HC := Lib.hid hcp
  have HS := Lib.hid hsp
  have w1 : IntKind.u64.wrap (n : Int) = n := IntWalk.u64_in _ (by omega)
  have w2 : IntKind.i64.wrap (n : Int) = n := IntWalk.i64_in _ (by omega)
  have HM3 := Lib.hid hm3
  clear hg1 hb1 hcp hsp hW1 hcur hg0 hb0 hv0 hW0 hm hd0 hd1 hm3 hvc
  go_enter Try.func19, Try.ntmps19
  go_wp2_with (first | (go_at_call 55; refine (HMul.out _).mono ?_; rintro e w' ⟨rfl, hw⟩; rw [hw]; clear hw w') | (refine wpList_copy_run _ rfl (.tmp 31) (.tmp 32) 22 22 rfl (.slice (some ⟨w.heap.size, 0, none⟩) n n) (.slice (some ⟨gv, 0, none⟩) 1 1) rfl rfl (HC.out _) ?_))
  go_loopw [8] (fun s wr => ∃ (M : Nat) (cur : List Value), s = .int .i64 M ∧ M ≤ n ∧ (n = 0 ∨ 1 ≤ M) ∧ Hid (wr.heap[w.heap.size]? = some (.cells cur.toArray 3 (0, 0)) ∧ cur.length = n ∧ cur.take M = List.replicate M (.int .i64 v)) ∧ Hid (Below w.heap.size w wr)) (fun s _ => n - (intOf s).toNat)
  case atStart => exact ⟨m, cur, rfl, hm1, by rcases HM3.out with h | h; exact .inl h; exact .inr (by omega), ⟨HG.out, HS.out.2, HS.out.1⟩, HB⟩
  case round =>
    obtain ⟨M, cur, rfl, hM, hM1, HC, HB⟩ := hrel
    by_cases hlt : M < n
    · have hM1 : 1 ≤ M := by omega
      obtain ⟨k, hk⟩ : ∃ k, k = Nat.min M (n - M) := ⟨_, rfl⟩
      have hk1 : 1 ≤ k := by rw [hk]; simp only [Nat.min_def]; split <;> omega
      have hk2 : k ≤ n - M := by rw [hk]; exact Nat.min_le_right _ _
      have hk3 : k ≤ M := by rw [hk]; exact Nat.min_le_left _ _
      obtain ⟨c1, c2, c3⟩ := HC.out
      have hsp := splice_rep (v := Value.int .i64 v) (M := M) (m := k) (cur := cur) c3 (by omega)
      obtain ⟨W2, hW2⟩ : ∃ W2, W2 = wr.drew.setRow w.heap.size (splice cur M (List.replicate k (Value.int .i64 v))).toArray := ⟨_, rfl⟩
      have hcp : ∀ ty, (Builtin.copy_ #[22, 22] ty #[.slice (some ⟨w.heap.size, M, none⟩) (n - M) (n - M), .slice (some ⟨w.heap.size, 0, none⟩) M n]).run Try.prog wr.drew = .ok (goInt k) W2 := fun ty => by
        rw [hW2]
        refine run_copyK (P := Try.prog) wr.drew 22 22 ty 3 1 w.heap.size M (n - M) (n - M) ⟨w.heap.size, 0, none⟩ M n k cur 3 _ Try.underlying22 size_int c1 hk.symm (by simp) (fun j u hj => ?_) (by simp; omega) (fun u hu => by obtain ⟨-, rfl⟩ := List.mem_replicate.1 hu; rfl)
        obtain ⟨h1, rfl⟩ := List.getElem?_eq_some_iff.1 hj
        simp only [List.length_replicate] at h1
        rw [Addr.add_lit, Nat.zero_add, cell_of_row wr.drew _ _ _ _ _ c1, List.getElem_replicate]
        have h2 : (cur.take M)[j]? = some (Value.int .i64 v) := by rw [c3, List.getElem?_replicate, if_pos (by omega)]
        rw [List.getElem?_take, if_pos (by omega)] at h2
        simpa using h2
      have hg2 : W2.heap[w.heap.size]? = some (.cells (splice cur M (List.replicate k (Value.int .i64 v))).toArray 3 (0, 0)) := by rw [hW2]; exact setRow_heap wr.drew _ _ _ _ _ c1
      have hb2 : Below w.heap.size w W2 := by rw [hW2]; exact below_setRow HB.out.drew (Nat.le_refl _) _
      obtain ⟨M2, hM2⟩ : ∃ M2, M2 = M + k := ⟨_, rfl⟩
      rw [← hM2] at hsp
      have w3 : IntKind.i64.wrap ((M : Int) + k) = M2 := by rw [IntWalk.i64_in _ (by omega)]; omega
      have HC2 := Lib.hid hcp
      have HG2 := Lib.hid hg2
      have HB2 := Lib.hid hb2
      have HS2 := Lib.hid (And.intro hsp.2 hsp.1)
      have q1 : M2 ≤ n := by omega
      have q2 : M < M2 := by omega
      have q3 : ¬ n = M := by omega
      have q4 : M ≤ n := hM
      have HCl := Lib.hid c2
      clear hcp hg2 hb2 hsp hW2 hM2 hk hk1 hk2 hk3 c1 c2 c3
      go_wp2
      go_region_law (refine step_copy_run rfl (.tmp 41) (.tmp 44) 22 22 rfl (.slice (some ⟨w.heap.size, M, none⟩) (n - M) (n - M)) (.slice (some ⟨w.heap.size, 0, none⟩) M n) (by simp [Act.eval, Act.put]) (by simp [Act.eval, Act.put]) (HC2.out _) ?_)
      all_goals
        simp only [Act.put, Act.eval, List.getElem_toArray, List.getElem_cons_zero, List.getElem_cons_succ, List.setIfInBounds_toArray, List.set_cons_zero, List.set_cons_succ]
        go_wp2
        go_roundw
        case rel => exact ⟨M2, _, by first | rfl | go_num, q1, .inr (by omega), ⟨HG2.out, by rw [HS2.out.1]; exact HCl.out, HS2.out.2⟩, HB2⟩
        case measure => simp [intOf]; omega
    · obtain ⟨c1, c2, c3⟩ := HC.out
      have hMn : M = n := by omega
      have hown := own_close (base := w.heap.size) (size := 1) (n := n) (c := n) cur (Nat.le_refl _) c1 (Nat.le_refl _) (by unfold maxLen; omega) (by omega)
      rw [Nat.mul_one, ← hMn, c3, hMn] at hown
      have HO := Lib.hid hown
      have q5 : decide (M < n) = false := decide_eq_false hlt
      clear c1 c2 c3 hown hMn
      go_wp2
      go_ret
      exact ⟨_, rfl, by rw [List.map_replicate]; exact HO.out, HB.out⟩
end Go.Proofs.Ythfjopnomkfegaa
