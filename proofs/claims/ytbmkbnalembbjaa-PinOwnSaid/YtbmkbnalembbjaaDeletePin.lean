/-
  slices.Delete of one element at []api.Pin.
-/
import Derived.Test.YtbmkbnalembbjaaInsertPin
namespace Go.Proofs.Ytbmkbnalembbjaa
open Go.RowKit

theorem k_zero_pin : (Try.prog.info? 47).map (·.zero) = some (some (.agg #[.int .i64 0, .int .i64 0])) := by kernel_rfl
theorem zero_pin1 : (Builtin.zeroCells (Value.agg #[.int .i64 0, .int .i64 0]).cells 1).toList = [.int .i64 0, .int .i64 0] := by kernel_rfl

set_option maxRecDepth 100000 in
set_option maxHeartbeats 1000000 in
theorem delete_pin (base : Nat) (A : Option Addr) (n c i : Nat) (xs : List Value) (w : World)
    (hown : w.ownsRow base 47 2 (.slice A n c) n xs) (hi : i < n) (hn : n ≤ 1000) (o1 : ∀ u ∈ xs, u.oneCell' = true) :
    Calls Try.prog 38 #[.slice A n c, .int .i64 i, .int .i64 ((i + 1 : Nat) : Int)] w fun e w' => ∃ A' c', e = .returned (.slice A' (n - 1) c') ∧ w'.ownsRow base 47 2 (.slice A' (n - 1) c') (n - 1) (xs.take (i * 2) ++ xs.drop ((i + 1) * 2)) ∧ Below base w w' := by
  obtain ⟨g, rfl⟩ : ∃ g, A = some ⟨g, 0, none⟩ := by
    rcases hown.2 with ⟨h2, h3⟩ | ⟨g, cap, cur, hv, -⟩
    · omega
    · injection hv with h1 h2 h3; exact ⟨g, h1⟩
  obtain ⟨cur, hbg, hg, hnc, hcm, hcl, htk⟩ := own_open hown
  have hxl : xs.length = n * 2 := hown.1
  obtain ⟨i1, hi1⟩ : ∃ i1, i1 = i + 1 := ⟨_, rfl⟩
  obtain ⟨n1, hn1⟩ : ∃ n1, n1 = n - 1 := ⟨_, rfl⟩
  obtain ⟨m, hm⟩ : ∃ m, m = n - i1 := ⟨_, rfl⟩
  obtain ⟨T, hT⟩ : ∃ T, T = xs.drop (i1 * 2) := ⟨_, rfl⟩
  have hTl : T.length = m * 2 := by rw [hT, List.length_drop, hxl]; omega
  have oT : ∀ u ∈ T, u.oneCell' = true := fun u hu => o1 u (by rw [hT] at hu; exact List.mem_of_mem_drop hu)
  have hTc : ∀ j v, T[j]? = some v → cur[i1 * 2 + j]? = some v := by
    intro j v hj
    rw [hT, List.getElem?_drop, ← htk, List.getElem?_take] at hj
    split at hj
    · exact hj
    · cases hj
  obtain ⟨Y1, hY1⟩ : ∃ Y1, Y1 = splice cur (i * 2) T := ⟨_, rfl⟩
  obtain ⟨Y2, hY2⟩ : ∃ Y2 : List Value, Y2 = splice Y1 (n1 * 2) [.int .i64 0, .int .i64 0] := ⟨_, rfl⟩
  have hY1l : Y1.length = c * 2 := by rw [hY1, splice_lenP _ _ _ (by omega), hcl]
  have hY2l : Y2.length = c * 2 := by rw [hY2, splice_lenP _ _ _ (by simp; omega), hY1l]
  have hfin : Y2.take (n1 * 2) = xs.take (i * 2) ++ T := by
    have h1 : Y2.take (n1 * 2) = Y1.take (n1 * 2) := by
      rw [hY2]
      unfold splice
      rw [List.take_append_of_le_length (by simp; omega), List.take_take, Nat.min_self]
    have h2 := take_preP cur (i * 2) T (by omega)
    rw [hTl, show i * 2 + m * 2 = n1 * 2 by omega, ← hY1] at h2
    rw [h1, h2, ← htk, List.take_take, Nat.min_eq_left (by omega)]
  rw [← hi1, ← hT, ← hfin]
  obtain ⟨W1, hW1⟩ : ∃ W1, W1 = w.drew.setRow g Y1.toArray := ⟨_, rfl⟩
  have hg1 : W1.heap[g]? = some (.cells Y1.toArray 47 (0, 0)) := by rw [hW1]; exact setRow_heap w.drew g _ _ _ _ hg
  have hap : ∀ ty ad sc, (m = 0 ∨ ad = ⟨g, i1 * 2, none⟩) → (Builtin.append_ #[25, 25] ty #[.slice (some ⟨g, 0, none⟩) i c, .slice (some ad) (n - i1) sc]).run Try.prog w.drew = .ok (.slice (some ⟨g, 0, none⟩) n1 c) W1 := fun ty ad sc had => by
    rw [hW1, hY1, ← hm]
    have := run_appendK (P := Try.prog) w.drew 25 ty 47 2 g i c ad m sc cur 47 T Try.underlying25 k_size_pin hg hTl
      (fun j v hj => by
        rcases had with h0 | rfl
        · have := (List.getElem?_eq_some_iff.1 hj).1
          omega
        · rw [Addr.add_lit, cell_of_row w.drew _ _ _ _ _ hg]; simpa using hTc j v hj) (by omega) (by omega) oT
    rw [show n1 = i + m by omega]
    exact this
  obtain ⟨W2, hW2⟩ : ∃ W2, W2 = W1.setRow g Y2.toArray := ⟨_, rfl⟩
  have hg2 : W2.heap[g]? = some (.cells Y2.toArray 47 (0, 0)) := by rw [hW2]; exact setRow_heap W1 g _ _ _ _ hg1
  have hcp2 : ∀ ty dc, (Builtin.clear_ #[25] ty #[.slice (some ⟨g, n1 * 2, none⟩) (n - n1) dc]).run Try.prog W1 = .ok (.tuple #[]) W2 := fun ty dc => by
    rw [hW2, hY2]
    exact run_clearK (P := Try.prog) W1 25 ty 47 2 g (n1 * 2) (n - n1) dc Y1 47 _ _ Try.underlying25 k_zero_pin (by rw [show n - n1 = 1 by omega]; exact zero_pin1) hg1 (by omega) (by simp; omega) (by decide)
  have hb2 : Below base w W2 := by
    rw [hW2, hW1]
    exact below_setRow (below_setRow (Below.refl base w).drew hbg _) hbg _
  have hown2 : W2.ownsRow base 47 2 (.slice (some ⟨g, 0, none⟩) n1 c) n1 (Y2.take (n1 * 2)) := own_close Y2 hbg hg2 (by omega) hcm hY2l
  have q1 : ((i : Int) == i1) = false := by simp; omega
  have q11 : (i == i1) = false := by simp; omega
  have q2 : i ≤ n := by omega
  have q3 : ¬ c = i := by omega
  have q4 : i1 ≤ n := by omega
  have q5 : i ≤ i1 := by omega
  have q6 : ¬ c = n1 := by omega
  have q7 : n1 ≤ n := by omega
  have q8 : i ≤ c := by omega
  have q9 : n ≤ c := by omega
  have q10 : i1 ≤ c := by omega
  have q12 : ¬ n = i := by omega
  rw [← hn1]
  have HO := Lib.hid hown2
  have HB := Lib.hid hb2
  have HAp := Lib.hid hap
  have HC2 := Lib.hid hcp2
  by_cases hci : c = i1
  · have hcn : n = i1 := by omega
    have hm0 : m = 0 := by omega
    clear hi1 hn1 hown2 hb2 hcp2 hap hfin hY2 hY1 hTc hTl hT htk hg1 hg2 hW1 hW2 hm hg hown
    subst hcn
    obtain rfl : c = n := hci
    have ha0 := Lib.hid (fun ty => HAp.out ty ⟨g, 0, none⟩ (c - c) (.inl hm0))
    rw [Nat.sub_self] at ha0
    go_enter Try.func38, Try.ntmps38
    go_wp2
    go_region_law (refine step_append_run rfl (.tmp 22) (.tmp 25) 25 25 rfl (.slice (some ⟨g, 0, none⟩) i c) (.slice (some ⟨g, 0, none⟩) 0 0) (by simp [Act.eval, Act.put]) (by simp [Act.eval, Act.put]) (ha0.out _) ?_)
    all_goals
      go_wp2_with (refine wpList_clear_run _ rfl (.tmp 31) 25 rfl (.slice (some ⟨g, n1 * 2, none⟩) (c - n1) (c - n1)) rfl (HC2.out _ _) ?_)
      go_ret
      exact ⟨_, _, rfl, HO.out, HB.out⟩
  · clear hi1 hn1 hown2 hb2 hcp2 hap hfin hY2 hY1 hTc hTl hT htk hg1 hg2 hW1 hW2 hm hg hown
    go_enter Try.func38, Try.ntmps38
    go_wp2
    go_region_law (refine step_append_run rfl (.tmp 22) (.tmp 25) 25 25 rfl (.slice (some ⟨g, 0, none⟩) i c) (.slice (some ⟨g, i1 * 2, none⟩) (n - i1) (c - i1)) (by simp [Act.eval, Act.put]) (by simp [Act.eval, Act.put]) (HAp.out _ _ _ (.inr rfl)) ?_)
    all_goals
      go_wp2_with (refine wpList_clear_run _ rfl (.tmp 31) 25 rfl (.slice (some ⟨g, n1 * 2, none⟩) (n - n1) (c - n1)) rfl (HC2.out _ _) ?_)
      go_ret
      exact ⟨_, _, rfl, HO.out, HB.out⟩
end Go.Proofs.Ytbmkbnalembbjaa
