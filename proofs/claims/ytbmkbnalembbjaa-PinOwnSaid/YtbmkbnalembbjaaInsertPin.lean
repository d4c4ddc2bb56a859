/-
  slices.Insert of one element at []api.Pin.
-/
import Derived.Test.YtbmkbnalembbjaaRows
import Derived.Test.YtbmkbnalembbjaaGapDefs
import Derived.Test.YtbmkbnalembbjaaSlicesPin
import Derived.Test.YtbmkbnalembbjaaMem
import Derived.Deep.RegionHeld3
import Derived.StillTailTactics
namespace Go.Proofs.Ytbmkbnalembbjaa
open Go.RowKit

theorem take_preP {α : Type} (Z : List α) (I : Nat) (vs : List α) (h : I ≤ Z.length) : (splice Z I vs).take (I + vs.length) = Z.take I ++ vs := by
  unfold splice
  rw [← List.append_assoc, List.take_append_of_le_length (by simp; omega), List.take_of_length_le (by simp; omega)]
theorem spliceAP {α : Type} (Z : List α) (I : Nat) (vs T : List α) (h : I + vs.length + T.length ≤ Z.length) :
    (splice (splice Z I vs) (I + vs.length) T).take (I + vs.length + T.length) = Z.take I ++ (vs ++ T) := by
  rw [take_preP _ _ _ (by rw [length_splice _ _ _ (by omega)]; omega), take_preP _ _ _ (by omega), List.append_assoc]
theorem spliceBP {α : Type} (Z : List α) (I : Nat) (vs T : List α) (h : I + vs.length + T.length ≤ Z.length) :
    (splice (splice Z (I + vs.length) T) I vs).take (I + vs.length + T.length) = Z.take I ++ (vs ++ T) := by
  have h1 : (splice Z (I + vs.length) T).take I = Z.take I := by
    unfold splice
    rw [List.take_append_of_le_length (by simp; omega), List.take_take, Nat.min_eq_left (by omega)]
  have h2 : ((splice Z (I + vs.length) T).drop (I + vs.length)).take T.length = T := by
    unfold splice
    rw [List.drop_append_of_le_length (by simp; omega), List.drop_of_length_le (by simp; omega), List.nil_append, List.take_left]
  unfold splice at h1 h2 ⊢
  rw [h1, ← List.append_assoc, List.take_append, List.take_of_length_le (by simp; omega)]
  rw [show I + vs.length + T.length - (Z.take I ++ vs).length = T.length by simp; omega, h2, List.append_assoc]

theorem k_size_pin : (Try.prog.info? 47).map (·.size) = some 2 := by kernel_rfl

set_option maxRecDepth 100000 in
set_option maxHeartbeats 1000000 in
theorem insert_endP (base : Nat) (A : Option Addr) (n c : Nat) (xs : List Value) (gv : Nat) (vs : List Value) (w : World)
    (hown : w.ownsRow base 47 2 (.slice A n c) n xs) (hbase : base ≤ w.heap.size) (hn : n ≤ 1000)
    (hv : Blk w gv 47 vs.toArray) (o2 : ∀ u ∈ vs, u.oneCell' = true) (hvl : vs.length = 2) :
    Calls Try.prog 37 #[.slice A n c, .int .i64 n, .slice (some ⟨gv, 0, none⟩) 1 1] w fun e w' => ∃ A' c', e = .returned (.slice A' (n + 1) c') ∧ w'.ownsRow base 47 2 (.slice A' (n + 1) c') (n + 1) (xs ++ vs) ∧ Below base w w' := by
  obtain ⟨i0, hi, hz0, hz1, hz2⟩ := info_parts info_pin
  have hrv : Reads w w.heap.size 2 (some ⟨gv, 0, none⟩) 1 vs := ⟨by omega, fun _ => ⟨_, rfl, hv.lt, fun j u hj => by
    rw [Addr.add_lit, Nat.zero_add, hv.cell]
    simpa using hj⟩⟩
  clear hv
  rcases A with _ | ad
  · have hm : n = 0 := by
      rcases hown.2 with ⟨h2, rfl⟩ | ⟨g, cap, cur, hv, -⟩
      · rfl
      · cases hv
    subst hm
    go_enter Try.func37, Try.ntmps37
    go_wp2_with (at_builtin; refine wpList_append_any _ rfl (.tmp 23) (.tmp 24) 25 rfl base 47 i0 _ 2 16 Try.underlying25 hi hz0 hz1 hz2 rfl (by decide) (.slice none 0 c) 0 xs rfl hown w.heap.size (some ⟨gv, 0, none⟩) 1 1 vs rfl hrv o2 (by simp [maxLen]) (by omega) hbase ?_; rintro v' w2 hown2 hgr hbl2 -; obtain ⟨A2', c2', rfl⟩ := own_slice hown2)
    go_ret
    exact ⟨_, _, rfl, hown2, (Below.refl base w).grown hgr hbase (fun g hg => (hown.lt g hg).1)⟩
  · obtain ⟨g, rfl⟩ : ∃ g, ad = ⟨g, 0, none⟩ := by
      rcases hown.2 with ⟨h2, -⟩ | ⟨g, cap, cur, hv, -⟩
      · cases h2
      · injection hv with h1 h2 h3; injection h1 with h1; exact ⟨g, h1⟩
    have hnc := own_cap hown
    have wn : IntKind.i64.wrap (n : Int) = n := IntWalk.i64_in _ (by omega)
    go_enter Try.func37, Try.ntmps37
    go_wp2_with (at_builtin; refine wpList_append_any _ rfl (.tmp 23) (.tmp 24) 25 rfl base 47 i0 _ 2 16 Try.underlying25 hi hz0 hz1 hz2 rfl (by decide) (.slice (some ⟨g, 0, none⟩) n c) n xs rfl hown w.heap.size (some ⟨gv, 0, none⟩) 1 1 vs rfl hrv o2 (by simp [maxLen]; omega) (by omega) hbase ?_; rintro v' w2 hown2 hgr hbl2 -; obtain ⟨A2', c2', rfl⟩ := own_slice hown2)
    all_goals
      go_ret
      exact ⟨_, _, rfl, hown2, (Below.refl base w).grown hgr hbase (fun g hg => (hown.lt g hg).1)⟩

theorem splice_lenP {α : Type} (Z : List α) (I : Nat) (cs : List α) (h : I + cs.length ≤ Z.length) : (splice Z I cs).length = Z.length := length_splice Z I cs h

set_option maxRecDepth 100000 in
set_option maxHeartbeats 1000000 in
theorem insert_pin_in (base g n c i : Nat) (xs : List Value) (gv : Nat) (vs : List Value) (w : World)
    (hown : w.ownsRow base 47 2 (.slice (some ⟨g, 0, none⟩) n c) n xs) (hi : i < n) (hroom : n + 1 ≤ c) (hn : n ≤ 1000)
    (hv : Blk w gv 47 vs.toArray) (hne : gv ≠ g) (o1 : ∀ u ∈ xs, u.oneCell' = true) (o2 : ∀ u ∈ vs, u.oneCell' = true) (hvl : vs.length = 2) :
    Calls Try.prog 37 #[.slice (some ⟨g, 0, none⟩) n c, .int .i64 i, .slice (some ⟨gv, 0, none⟩) 1 1] w fun e w' => ∃ A' c', e = .returned (.slice A' (n + 1) c') ∧ w'.ownsRow base 47 2 (.slice A' (n + 1) c') (n + 1) (xs.take (i * 2) ++ (vs ++ xs.drop (i * 2))) ∧ Below base w w' := by
  obtain ⟨cur, hbg, hg, hnc, hcm, hcl, htk⟩ := own_open hown
  have hxl : xs.length = n * 2 := hown.1
  obtain ⟨i1, hi1⟩ : ∃ i1, i1 = i + 1 := ⟨_, rfl⟩
  obtain ⟨n1, hn1⟩ : ∃ n1, n1 = n + 1 := ⟨_, rfl⟩
  obtain ⟨T, hT⟩ : ∃ T, T = xs.drop (i * 2) := ⟨_, rfl⟩
  have hTl : T.length = (n - i) * 2 := by rw [hT, List.length_drop, hxl]; omega
  have oT : ∀ u ∈ T, u.oneCell' = true := fun u hu => o1 u (by rw [hT] at hu; exact List.mem_of_mem_drop hu)
  have hTc : ∀ j v, T[j]? = some v → cur[i * 2 + j]? = some v := by
    intro j v hj
    rw [hT, List.getElem?_drop, ← htk, List.getElem?_take] at hj
    split at hj
    · exact hj
    · cases hj
  obtain ⟨Y1, hY1⟩ : ∃ Y1, Y1 = splice cur (i * 2 + 2) T := ⟨_, rfl⟩
  obtain ⟨Y2, hY2⟩ : ∃ Y2, Y2 = splice Y1 (i * 2) vs := ⟨_, rfl⟩
  have hY1l : Y1.length = c * 2 := by rw [hY1, splice_lenP _ _ _ (by omega), hcl]
  have hY2l : Y2.length = c * 2 := by rw [hY2, splice_lenP _ _ _ (by omega), hY1l]
  have hfin : Y2.take ((n + 1) * 2) = xs.take (i * 2) ++ (vs ++ T) := by
    have := spliceBP cur (i * 2) vs T (by omega)
    rw [hvl, hTl, show i * 2 + 2 + (n - i) * 2 = (n + 1) * 2 by omega, ← hY1, ← hY2] at this
    rw [this, ← htk, List.take_take, Nat.min_eq_left (by omega)]
  rw [← hT, ← hfin]
  obtain ⟨W1, hW1⟩ : ∃ W1, W1 = w.drew.setRow g Y1.toArray := ⟨_, rfl⟩
  have hg1 : W1.heap[g]? = some (.cells Y1.toArray 47 (0, 0)) := by rw [hW1]; exact setRow_heap w.drew g _ _ _ _ hg
  have hcp1 : ∀ ty dc sc, (Builtin.copy_ #[25, 25] ty #[.slice (some ⟨g, i1 * 2, none⟩) (n1 - i1) dc, .slice (some ⟨g, i * 2, none⟩) (n1 - i) sc]).run Try.prog w.drew = .ok (goInt (n - i : Nat)) W1 := fun ty dc sc => by
    rw [hW1, hY1]
    have := run_copyK (P := Try.prog) w.drew 25 25 ty 47 2 g (i * 2 + 2) (n1 - i1) dc ⟨g, i * 2, none⟩ (n1 - i) sc (n - i) cur 47 T Try.underlying25 k_size_pin hg (by simp only [Nat.min_def]; split <;> omega) hTl
      (fun j v hj => by rw [Addr.add_lit, cell_of_row w.drew _ _ _ _ _ hg]; simpa using hTc j v hj) (by omega) oT
    rw [show i1 * 2 = i * 2 + 2 by omega]
    exact this
  obtain ⟨W2, hW2⟩ : ∃ W2, W2 = W1.setRow g Y2.toArray := ⟨_, rfl⟩
  have hg2 : W2.heap[g]? = some (.cells Y2.toArray 47 (0, 0)) := by rw [hW2]; exact setRow_heap W1 g _ _ _ _ hg1
  have hcp2 : ∀ ty dc, (Builtin.copy_ #[25, 25] ty #[.slice (some ⟨g, i * 2, none⟩) (n1 - i) dc, .slice (some ⟨gv, 0, none⟩) 1 1]).run Try.prog W1 = .ok (goInt (1 : Nat)) W2 := fun ty dc => by
    rw [hW2, hY2]
    refine run_copyK (P := Try.prog) W1 25 25 ty 47 2 g (i * 2) (n1 - i) dc ⟨gv, 0, none⟩ 1 1 1 Y1 47 vs Try.underlying25 k_size_pin hg1 (by simp only [Nat.min_def]; split <;> omega) (by omega) (fun j v hj => ?_) (by omega) o2
    rw [Addr.add_lit, Nat.zero_add, hW1, cell_setRow_other _ _ _ _ (by exact hne)]
    have := hv.cell j
    rw [List.getElem?_toArray] at this
    exact this.trans hj
  have hb2 : Below base w W2 := by
    rw [hW2, hW1]
    exact below_setRow (below_setRow (Below.refl base w).drew hbg _) hbg _
  have hown2 : W2.ownsRow base 47 2 (.slice (some ⟨g, 0, none⟩) (n + 1) c) (n + 1) (Y2.take ((n + 1) * 2)) := own_close Y2 hbg hg2 hroom hcm hY2l
  have hgl : g < w.heap.size := (Array.getElem?_eq_some_iff.1 hg).1
  have hov : ∀ o la lb cb, (callFunc 66 #[.slice (some ⟨gv, 0, none⟩) 1 la, .slice (some ⟨g, o, none⟩) lb cb]).run Try.prog w = .ok (.value (.bool false)) w := fun o la lb cb => by
    have hsa : w.shape? gv = some (47, vs.length) := by
      have : w.heap[gv]? = some (.cells vs.toArray 47 (0, 0)) := hv
      simp [World.shape?, this]
    have hsb : w.shape? g = some (47, cur.length) := by simp [World.shape?, hg]
    rw [run_callFunc_extern Try.func66 (by kernel_rfl) (by kernel_rfl) (by kernel_rfl) (e := Extern.SlicesOverlaps.overlaps #[25, 25] #[4]) (by kernel_rfl),
      Lib.run_overlaps_apart w 25 4 47 Try.underlying25 2 (fun w => by
        obtain ⟨i0, hi, hz0, hz1, hz2⟩ := info_parts info_pin
        simp [sizeOf, typeInfo, hi, hz1]) ⟨gv, 0, none⟩ ⟨g, o, none⟩ 1 la lb cb hne _ _ _ _ hsa hsb (by omega) (hv.frozen 0) (hv.frozen _)]
    rfl
  have wi : IntKind.i64.wrap ((i : Int) + 1) = (i1 : Int) := by rw [IntWalk.i64_in _ (by omega)]; omega
  have wn : IntKind.i64.wrap ((n : Int) + 1) = (n1 : Int) := by rw [IntWalk.i64_in _ (by omega)]; omega
  have q1 : ¬ (i : Int) = n := by omega
  have q2 : i ≤ n := by omega
  have q3 : ¬ c = i := by omega
  have q4 : i1 ≤ n1 := by omega
  have q5 : ¬ c = i1 := by omega
  have q6 : n1 ≤ c := by omega
  have q7 : i ≤ n1 := by omega
  have q8 : decide ((c : Int) < n1) = false := decide_eq_false (by omega)
  have q9 : decide (c < n1) = false := decide_eq_false (by omega)
  have q10 : ((i : Int) == n) = false := by simp; omega
  have q11 : (i == n) = false := by simp; omega
  rw [← hn1] at hown2
  rw [← hn1]
  have HO := Lib.hid hown2
  have HB := Lib.hid hb2
  have HC1 := Lib.hid hcp1
  have HC2 := Lib.hid hcp2
  clear hi1 hn1 hown2 hb2 hcp1 hcp2 hfin hY2 hY1 hTc hTl hT htk hg1 hg2 hW1 hW2
  go_enter Try.func37, Try.ntmps37
  go_wp2_with (simp only [hov])
  go_region_law (refine step_copy_run rfl (.tmp 73) (.tmp 76) 25 25 rfl (.slice (some ⟨g, i1 * 2, none⟩) (n1 - i1) (c - i1)) (.slice (some ⟨g, i * 2, none⟩) (n1 - i) (c - i)) (by simp [Act.eval, Act.put]) (by simp [Act.eval, Act.put]) (HC1.out _ _ _) ?_)
  all_goals
    go_wp2_with (refine wpList_copy_run _ rfl (.tmp 80) (.tmp 81) 25 25 rfl (.slice (some ⟨g, i * 2, none⟩) (n1 - i) (c - i)) (.slice (some ⟨gv, 0, none⟩) 1 1) rfl rfl (HC2.out _ _) ?_)
    go_ret
    exact ⟨_, _, rfl, HO.out, HB.out⟩

set_option maxRecDepth 100000 in
set_option maxHeartbeats 1000000 in
theorem insert_pin_grow (base g n c i : Nat) (xs : List Value) (gv : Nat) (vs : List Value) (w : World)
    (hown : w.ownsRow base 47 2 (.slice (some ⟨g, 0, none⟩) n c) n xs) (hbase : base ≤ w.heap.size) (hi : i < n) (hroom : c < n + 1) (hn : n ≤ 1000)
    (hv : Blk w gv 47 vs.toArray) (o1 : ∀ u ∈ xs, u.oneCell' = true) (o2 : ∀ u ∈ vs, u.oneCell' = true) (hvl : vs.length = 2) :
    Calls Try.prog 37 #[.slice (some ⟨g, 0, none⟩) n c, .int .i64 i, .slice (some ⟨gv, 0, none⟩) 1 1] w fun e w' => ∃ A' c', e = .returned (.slice A' (n + 1) c') ∧ w'.ownsRow base 47 2 (.slice A' (n + 1) c') (n + 1) (xs.take (i * 2) ++ (vs ++ xs.drop (i * 2))) ∧ Below base w w' := by
  obtain ⟨cur, hbg, hg, hnc, hcm, hcl, htk⟩ := own_open hown
  obtain rfl : c = n := by omega
  obtain ⟨i0, hi0, hz0, hz1, hz2⟩ := info_parts info_pin
  have hxl : xs.length = c * 2 := hown.1
  obtain rfl : cur = xs := by rw [← htk, List.take_of_length_le (by omega)]
  obtain ⟨i1, hi1⟩ : ∃ i1, i1 = i + 1 := ⟨_, rfl⟩
  obtain ⟨n1, hn1⟩ : ∃ n1, n1 = c + 1 := ⟨_, rfl⟩
  obtain ⟨k, hk⟩ : ∃ k, k = n1 - i := ⟨_, rfl⟩
  obtain ⟨T, hT⟩ : ∃ T, T = cur.drop (i * 2) := ⟨_, rfl⟩
  have hTl : T.length = (c - i) * 2 := by rw [hT, List.length_drop, hxl]; omega
  have oT : ∀ u ∈ T, u.oneCell' = true := fun u hu => o1 u (by rw [hT] at hu; exact List.mem_of_mem_drop hu)
  have hTc : ∀ j v, T[j]? = some v → cur[i * 2 + j]? = some v := by
    intro j v hj
    rw [hT, List.getElem?_drop] at hj
    exact hj
  obtain ⟨O, hO⟩ : ∃ O, O = cur.take (i * 2) := ⟨_, rfl⟩
  have hOl : O.length = i * 2 := by rw [hO, List.length_take]; omega
  have hold : (Builtin.firstCells i0.size i (.slice (some ⟨g, 0, none⟩) i c)).run Try.prog w.drew = .ok O.toArray w.drew := by
    rw [hz1]
    refine run_firstK w.drew 2 i ⟨g, 0, none⟩ i c O hOl (fun j v hj => ?_)
    rw [Addr.add_lit, Nat.zero_add, cell_of_row w.drew _ _ _ _ _ hg, List.getElem?_toArray]
    rw [hO, List.getElem?_take] at hj
    split at hj
    · exact hj
    · cases hj
  have hik : i + k = n1 := by omega
  have hgr := fun ty => Lib.run_append_grow_zeros (P := Try.prog) w 25 3 ty 47 i0 _ .i64 .i64 Try.underlying25 Try.underlying3 hi0 hz0 (some ⟨g, 0, none⟩) i c O hold k (by omega) (by rw [hz1]; decide) (by omega) (by omega) (by rw [hz2]; omega)
    (by rw [hz2]; exact growslice_fits (by omega) (by omega))
  rw [hik] at hgr
  obtain ⟨cap, hcap, hc1, hc2⟩ : ∃ cap, cap = grownCap w n1 c 47 ∧ n1 ≤ cap ∧ cap ≤ maxLen := ⟨_, rfl, grownCap_ge .., grownCap_le_maxLen _ _ _ _ (by unfold maxLen; omega)⟩
  rw [← hcap] at hgr
  obtain ⟨Z, hZ⟩ : ∃ Z : Array Value, Z = O.toArray ++ Builtin.zeroCells (Value.agg #[.int .i64 0, .int .i64 0]).cells k ++ Builtin.zeroCells (Value.agg #[.int .i64 0, .int .i64 0]).cells (cap - n1) := ⟨_, rfl⟩
  have hZs : Z.size = cap * 2 := by
    rw [hZ, Array.size_append, Array.size_append, size_zeroCells, size_zeroCells]
    have : (Value.agg #[.int .i64 0, .int .i64 0]).cells.size = 2 := rfl
    rw [this, List.size_toArray, hOl]; omega
  rw [← hZ] at hgr
  have hZO : Z.toList.take (i * 2) = O := by
    rw [hZ, Array.append_assoc, Array.toList_append, List.take_append_of_le_length (by simp; omega), List.take_of_length_le (by simp; omega)]
  obtain ⟨gN, hgN⟩ : ∃ gN, gN = w.heap.size := ⟨_, rfl⟩
  rw [← hgN] at hgr
  obtain ⟨W0, hW0⟩ : ∃ W0, W0 = w.drew.alloc (.cells Z 47) := ⟨_, rfl⟩
  have hg0 : W0.heap[gN]? = some (.cells Z.toList.toArray 47 (0, 0)) := by rw [hW0, hgN, Array.toArray_toList]; exact heap_alloc_new w.drew _
  have hb0 : Below base w W0 := by rw [hW0]; exact (Below.refl base w).drew.alloc hbase _
  have hgl : g < w.heap.size := (Array.getElem?_eq_some_iff.1 hg).1
  have hgo : W0.heap[g]? = some (.cells cur.toArray 47 (0, 0)) := by rw [hW0]; exact (Below.heap_alloc w.drew _ g hgl).trans hg
  have hvo : W0.heap[gv]? = some (.cells vs.toArray 47 (0, 0)) := by rw [hW0]; exact (Below.heap_alloc w.drew _ gv hv.lt).trans hv
  have hvl0 := hv.lt
  rw [← hW0] at hgr
  obtain ⟨Y1, hY1⟩ : ∃ Y1, Y1 = splice Z.toList (i * 2) vs := ⟨_, rfl⟩
  obtain ⟨Y2, hY2⟩ : ∃ Y2, Y2 = splice Y1 (i * 2 + 2) T := ⟨_, rfl⟩
  have hZl : Z.toList.length = cap * 2 := by simpa using hZs
  have hY1l : Y1.length = cap * 2 := by rw [hY1, splice_lenP _ _ _ (by omega), hZl]
  have hY2l : Y2.length = cap * 2 := by rw [hY2, splice_lenP _ _ _ (by omega), hY1l]
  have hfin : Y2.take (n1 * 2) = cur.take (i * 2) ++ (vs ++ T) := by
    have := spliceAP Z.toList (i * 2) vs T (by omega)
    rw [hvl, hTl, show i * 2 + 2 + (c - i) * 2 = n1 * 2 by omega, ← hY1, ← hY2, hZO, hO] at this
    exact this
  rw [← hT, ← hfin]
  obtain ⟨W1, hW1⟩ : ∃ W1, W1 = W0.setRow gN Y1.toArray := ⟨_, rfl⟩
  have hg1 : W1.heap[gN]? = some (.cells Y1.toArray 47 (0, 0)) := by rw [hW1]; exact setRow_heap W0 gN _ _ _ _ hg0
  have hcp1 : ∀ ty dc, (Builtin.copy_ #[25, 25] ty #[.slice (some ⟨gN, i * 2, none⟩) (n1 - i) dc, .slice (some ⟨gv, 0, none⟩) 1 1]).run Try.prog W0 = .ok (goInt (1 : Nat)) W1 := fun ty dc => by
    rw [hW1, hY1]
    refine run_copyK (P := Try.prog) W0 25 25 ty 47 2 gN (i * 2) (n1 - i) dc ⟨gv, 0, none⟩ 1 1 1 Z.toList 47 vs Try.underlying25 k_size_pin hg0 (by simp only [Nat.min_def]; split <;> omega) (by omega) (fun j v hj => ?_) (by omega) o2
    rw [Addr.add_lit, Nat.zero_add, cell_of_row W0 _ _ _ _ _ hvo]
    simpa using hj
  obtain ⟨W2, hW2⟩ : ∃ W2, W2 = W1.drew.setRow gN Y2.toArray := ⟨_, rfl⟩
  have hg2 : W2.heap[gN]? = some (.cells Y2.toArray 47 (0, 0)) := by rw [hW2]; exact setRow_heap W1.drew gN _ _ _ _ hg1
  have hgo1 : W1.heap[g]? = some (.cells cur.toArray 47 (0, 0)) := by rw [hW1, setRow_other _ _ _ _ (by omega)]; exact hgo
  have hcp2 : ∀ ty dc sc, (Builtin.copy_ #[25, 25] ty #[.slice (some ⟨gN, i1 * 2, none⟩) (n1 - i1) dc, .slice (some ⟨g, i * 2, none⟩) (c - i) sc]).run Try.prog W1.drew = .ok (goInt (c - i : Nat)) W2 := fun ty dc sc => by
    rw [hW2, hY2]
    have := run_copyK (P := Try.prog) W1.drew 25 25 ty 47 2 gN (i * 2 + 2) (n1 - i1) dc ⟨g, i * 2, none⟩ (c - i) sc (c - i) Y1 47 T Try.underlying25 k_size_pin hg1 (by simp only [Nat.min_def]; split <;> omega) hTl
      (fun j v hj => by rw [Addr.add_lit, cell_of_row W1.drew _ _ _ _ _ hgo1]; simpa using hTc j v hj) (by omega) oT
    rw [show i1 * 2 = i * 2 + 2 by omega]
    exact this
  have hbgN : base ≤ gN := by omega
  have hb2 : Below base w W2 := by
    rw [hW2, hW1]
    exact below_setRow (below_setRow hb0 hbgN _).drew hbgN _
  have hown2 : W2.ownsRow base 47 2 (.slice (some ⟨gN, 0, none⟩) n1 cap) n1 (Y2.take (n1 * 2)) := own_close Y2 hbgN hg2 hc1 hc2 hY2l
  have wi : IntKind.i64.wrap ((i : Int) + 1) = (i1 : Int) := by rw [IntWalk.i64_in _ (by omega)]; omega
  have wn : IntKind.i64.wrap ((c : Int) + 1) = (n1 : Int) := by rw [IntWalk.i64_in _ (by omega)]; omega
  have wk : IntKind.i64.wrap ((n1 : Int) - i) = (k : Int) := by rw [IntWalk.i64_in _ (by omega)]; omega
  have q1 : ¬ (i : Int) = c := by omega
  have q2 : i ≤ c := by omega
  have q3 : ¬ c = i := by omega
  have q4 : i1 ≤ n1 := by omega
  have q5 : ¬ cap = i1 := by omega
  have q7 : i ≤ n1 := by omega
  have q12 : ¬ cap = i := by omega
  have q8 : decide ((c : Int) < n1) = true := decide_eq_true (by omega)
  have q9 : decide (c < n1) = true := decide_eq_true (by omega)
  have q10 : ((i : Int) == c) = false := by simp; omega
  have q11 : (i == c) = false := by simp; omega
  rw [← hn1]
  have HO := Lib.hid hown2
  have HB := Lib.hid hb2
  have HC1 := Lib.hid hcp1
  have HC2 := Lib.hid hcp2
  have HG := Lib.hid hgr
  clear hi1 hn1 hown2 hb2 hcp1 hcp2 hgr hfin hY2 hY1 hTc hTl hT hg1 hg2 hW1 hW2 hW0 hZl hZs hZO hZ hO hold hk hik hcap hgN hgo hgo1 hvo hown htk hg hg0
  go_enter Try.func37, Try.ntmps37
  go_wp2_with (first | (at_builtin; refine Lib.wpList_append_run _ rfl (.tmp 34) (.tmp 39) 25 3 rfl (.slice (some ⟨g, 0, none⟩) i c) (.int .i64 k) rfl rfl _ _ (HG.out _) ?_) | (refine wpList_copy_run _ rfl (.tmp 43) (.tmp 44) 25 25 rfl (.slice (some ⟨gN, i * 2, none⟩) (n1 - i) (cap - i)) (.slice (some ⟨gv, 0, none⟩) 1 1) rfl rfl (HC1.out _ _) ?_))
  go_region_law (refine step_copy_run rfl (.tmp 50) (.tmp 53) 25 25 rfl (.slice (some ⟨gN, i1 * 2, none⟩) (n1 - i1) (cap - i1)) (.slice (some ⟨g, i * 2, none⟩) (c - i) (c - i)) (by simp [Act.eval, Act.put]) (by simp [Act.eval, Act.put]) (HC2.out _ _ _) ?_)
  all_goals
    go_wp2
    go_ret
    exact ⟨_, _, rfl, HO.out, HB.out⟩

theorem insert_pin (base : Nat) (A : Option Addr) (n c i : Nat) (xs : List Value) (gv : Nat) (vs : List Value) (w : World)
    (hown : w.ownsRow base 47 2 (.slice A n c) n xs) (hbase : base ≤ w.heap.size) (hi : i ≤ n) (hn : n ≤ 1000)
    (hv : Blk w gv 47 vs.toArray) (hne : (Value.slice A n c).ownBlock ≠ some gv) (o1 : ∀ u ∈ xs, u.oneCell' = true) (o2 : ∀ u ∈ vs, u.oneCell' = true) (hvl : vs.length = 2) :
    Calls Try.prog 37 #[.slice A n c, .int .i64 i, .slice (some ⟨gv, 0, none⟩) 1 1] w fun e w' => ∃ A' c', e = .returned (.slice A' (n + 1) c') ∧ w'.ownsRow base 47 2 (.slice A' (n + 1) c') (n + 1) (xs.take (i * 2) ++ (vs ++ xs.drop (i * 2))) ∧ Below base w w' := by
  have hxl : xs.length = n * 2 := hown.1
  by_cases hin : i = n
  · subst hin
    rw [List.take_of_length_le (by omega), List.drop_of_length_le (by omega), List.append_nil]
    exact insert_endP base A i c xs gv vs w hown hbase hn hv o2 hvl
  · obtain ⟨g, rfl⟩ : ∃ g, A = some ⟨g, 0, none⟩ := by
      rcases hown.2 with ⟨h2, h3⟩ | ⟨g, cap, cur, hv, -⟩
      · omega
      · injection hv with h1 h2 h3; exact ⟨g, h1⟩
    by_cases hr : n + 1 ≤ c
    · exact insert_pin_in base g n c i xs gv vs w hown (by omega) hr hn hv (fun h => hne (by rw [h]; rfl)) o1 o2 hvl
    · exact insert_pin_grow base g n c i xs gv vs w hown hbase (by omega) (by omega) hn hv o1 o2 hvl
end Go.Proofs.Ytbmkbnalembbjaa
