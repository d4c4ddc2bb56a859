/-
  Texts joined: InsertStr.
-/
import Derived.Lib.Overlaps
import Derived.Deep.RegionHeld3
import Derived.StillTailTactics
import Derived.Test.YtfikonmhbhcejaaGreatDoorP0
import Derived.Test.YtfikonmhbhcejaaGreatDoorP22
import Derived.Test.YtfikonmhbhcejaaGreatDoorP24
namespace Go.Proofs.YtfikonmhbhcejaaGreatDoor
open Go.RowKit Go.Sort
def anyV (_ : Nat) (_ : Value) : Prop := True
theorem zero_any {v : Value} : ∀ (j : Nat) (u : Value), v.cells[j]? = some u → anyV j u := fun _ _ _ => trivial
theorem k_size_strT : (Tryz.prog.info? 9).map (·.size) = some 1 := by kernel_rfl
set_option maxRecDepth 100000 in
set_option maxHeartbeats 1000000 in
theorem insertStr_end (base : Nat) (A : Option Addr) (n c : Nat) (xs : List Value) (gv : Nat) (vs : List Value) (w : World)
    (hown : OwnT w base 9 1 (anyV) (.slice A n c) n xs) (hbase : base ≤ w.heap.size) (hn : n ≤ 1000)
    (hv : Blk w gv 9 vs.toArray) (o2 : ∀ u ∈ vs, u.oneCell' = true) (hvl : vs.length = 1) (ov : ∀ u ∈ vs, anyV 0 u) :
    Calls Tryz.prog 12 #[.slice A n c, .int .i64 n, .slice (some ⟨gv, 0, none⟩) 1 1] w fun e w' => ∃ A' c', e = .returned (.slice A' (n + 1) c') ∧ OwnT w' base 9 1 (anyV) (.slice A' (n + 1) c') (n + 1) (xs ++ vs) ∧ Below base w w' ∧ w.grownBy w' (Value.slice A n c).ownBlock ∧ ((Value.slice A' (n + 1) c').ownBlock = (Value.slice A n c).ownBlock ∨ (Value.slice A' (n + 1) c').ownBlock = some w.heap.size) := by
  obtain ⟨i0, hi, hz0, hz1, hz2⟩ := info_parts info_string
  have hrv : Reads w w.heap.size 1 (some ⟨gv, 0, none⟩) 1 vs := ⟨by omega, fun _ => ⟨_, rfl, hv.lt, fun j u hj => by
    rw [Addr.add_lit, Nat.zero_add, hv.cell]
    simpa using hj⟩⟩
  have hov2 : ∀ (j : Nat) (u : Value), vs[j]? = some u → anyV (j % 1) u := fun j u hu => by rw [Nat.mod_one]; exact ov u (List.mem_of_getElem? hu)
  clear hv
  rcases A with _ | ad
  · have hm : n = 0 := by
      rcases hown.1.2 with ⟨h2, rfl⟩ | ⟨g, cap, cur, hv, -⟩
      · rfl
      · cases hv
    subst hm
    go_enter Tryz.func12, Tryz.ntmps12
    go_wp2_with (at_builtin; refine wpList_append_T _ rfl (.tmp 23) (.tmp 24) 22 rfl base 9 i0 _ 1 16 Tryz.underlying22 hi hz0 hz1 hz2 rfl (by decide) (zero_any) (.slice none 0 c) 0 xs rfl hown w.heap.size (some ⟨gv, 0, none⟩) 1 1 vs rfl hrv o2 hov2 (by simp [maxLen]) (by omega) hbase ?_; rintro v' w2 hown2 hgr hbl2 -; obtain ⟨A2', c2', rfl⟩ := own_slice hown2.1)
    go_ret
    exact ⟨_, _, rfl, hown2, (Below.refl base w).grown hgr hbase (fun g hg => (hown.1.lt g hg).1), hgr, hbl2⟩
  · obtain ⟨g, rfl⟩ : ∃ g, ad = ⟨g, 0, none⟩ := by
      rcases hown.1.2 with ⟨h2, -⟩ | ⟨g, cap, cur, hv, -⟩
      · cases h2
      · injection hv with h1 h2 h3; injection h1 with h1; exact ⟨g, h1⟩
    have hnc := own_cap hown.1
    have wn : IntKind.i64.wrap (n : Int) = n := IntWalk.i64_in _ (by omega)
    go_enter Tryz.func12, Tryz.ntmps12
    go_wp2_with (at_builtin; refine wpList_append_T _ rfl (.tmp 23) (.tmp 24) 22 rfl base 9 i0 _ 1 16 Tryz.underlying22 hi hz0 hz1 hz2 rfl (by decide) (zero_any) (.slice (some ⟨g, 0, none⟩) n c) n xs rfl hown w.heap.size (some ⟨gv, 0, none⟩) 1 1 vs rfl hrv o2 hov2 (by simp [maxLen]; omega) (by omega) hbase ?_; rintro v' w2 hown2 hgr hbl2 -; obtain ⟨A2', c2', rfl⟩ := own_slice hown2.1)
    all_goals
      go_ret
      exact ⟨_, _, rfl, hown2, (Below.refl base w).grown hgr hbase (fun g hg => (hown.1.lt g hg).1), hgr, hbl2⟩
set_option maxRecDepth 100000 in
set_option maxHeartbeats 1000000 in
theorem insertStr_in (base g n c i : Nat) (xs : List Value) (gv : Nat) (vs : List Value) (w : World)
    (hown : OwnT w base 9 1 (anyV) (.slice (some ⟨g, 0, none⟩) n c) n xs) (hi : i < n) (hroom : n + 1 ≤ c) (hn : n ≤ 1000)
    (hv : Blk w gv 9 vs.toArray) (hne : gv ≠ g) (o1 : ∀ u ∈ xs, u.oneCell' = true) (o2 : ∀ u ∈ vs, u.oneCell' = true) (hvl : vs.length = 1) (ov : ∀ u ∈ vs, anyV 0 u) :
    Calls Tryz.prog 12 #[.slice (some ⟨g, 0, none⟩) n c, .int .i64 i, .slice (some ⟨gv, 0, none⟩) 1 1] w fun e w' => ∃ A' c', e = .returned (.slice A' (n + 1) c') ∧ OwnT w' base 9 1 (anyV) (.slice A' (n + 1) c') (n + 1) (xs.take i ++ (vs ++ xs.drop i)) ∧ Below base w w' ∧ w.grownBy w' (Value.slice (some ⟨g, 0, none⟩) n c).ownBlock ∧ ((Value.slice A' (n + 1) c').ownBlock = (Value.slice (some ⟨g, 0, none⟩) n c).ownBlock ∨ (Value.slice A' (n + 1) c').ownBlock = some w.heap.size) := by
  obtain ⟨cur, hbg, hg, hnc, hcm, hcl, htk, hty⟩ := hown.open
  rw [Nat.mul_one] at hcl htk
  have htc : ∀ u ∈ cur, anyV 0 u := fun u hu => by obtain ⟨j, hj⟩ := List.mem_iff_getElem?.1 hu; have := hty j u hj; rwa [Nat.mod_one] at this
  have hxl : xs.length = n := by simpa using hown.1.1
  obtain ⟨i1, hi1⟩ : ∃ i1, i1 = i + 1 := ⟨_, rfl⟩
  obtain ⟨n1, hn1⟩ : ∃ n1, n1 = n + 1 := ⟨_, rfl⟩
  obtain ⟨T, hT⟩ : ∃ T, T = xs.drop i := ⟨_, rfl⟩
  have hTl : T.length = (n - i) := by rw [hT, List.length_drop, hxl]
  have oT : ∀ u ∈ T, u.oneCell' = true := fun u hu => o1 u (by rw [hT] at hu; exact List.mem_of_mem_drop hu)
  have hTc : ∀ j v, T[j]? = some v → cur[i + j]? = some v := by
    intro j v hj
    rw [hT, List.getElem?_drop, ← htk, List.getElem?_take] at hj
    split at hj
    · exact hj
    · cases hj
  obtain ⟨Y1, hY1⟩ : ∃ Y1, Y1 = splice cur i1 T := ⟨_, rfl⟩
  obtain ⟨Y2, hY2⟩ : ∃ Y2, Y2 = splice Y1 i vs := ⟨_, rfl⟩
  have hY1l : Y1.length = c := by rw [hY1, splice_lenK _ _ _ (by omega), hcl]
  have hY2l : Y2.length = c := by rw [hY2, splice_lenK _ _ _ (by omega), hY1l]
  have hfin : Y2.take (n + 1) = xs.take i ++ (vs ++ T) := by
    have := spliceBK cur i vs T (by omega)
    rw [hvl, hTl, show i + 1 + (n - i) = (n + 1) by omega, ← hi1, ← hY1, ← hY2] at this
    rw [this, ← htk, List.take_take, Nat.min_eq_left (by omega)]
  rw [← hT, ← hfin]
  obtain ⟨W1, hW1⟩ : ∃ W1, W1 = w.drew.setRow g Y1.toArray := ⟨_, rfl⟩
  have hg1 : W1.heap[g]? = some (.cells Y1.toArray 9 (0, 0)) := by rw [hW1]; exact setRow_heap w.drew g _ _ _ _ hg
  have hcp1 : ∀ ty dc sc, (Builtin.copy_ #[22, 22] ty #[.slice (some ⟨g, i1, none⟩) (n1 - i1) dc, .slice (some ⟨g, i, none⟩) (n1 - i) sc]).run Tryz.prog w.drew = .ok (goInt (n - i : Nat)) W1 := fun ty dc sc => by
    rw [hW1, hY1]
    have := run_copyK (P := Tryz.prog) w.drew 22 22 ty 9 1 g (i + 1) (n1 - i1) dc ⟨g, i, none⟩ (n1 - i) sc (n - i) cur 9 T Tryz.underlying22 k_size_strT hg (by simp only [Nat.min_def]; split <;> omega) (by rw [hTl, Nat.mul_one])
      (fun j v hj => by rw [Addr.add_lit, cell_of_row w.drew _ _ _ _ _ hg]; simpa using hTc j v hj) (by omega) oT
    rw [← hi1] at this
    exact this
  obtain ⟨W2, hW2⟩ : ∃ W2, W2 = W1.setRow g Y2.toArray := ⟨_, rfl⟩
  have hg2 : W2.heap[g]? = some (.cells Y2.toArray 9 (0, 0)) := by rw [hW2]; exact setRow_heap W1 g _ _ _ _ hg1
  have hcp2 : ∀ ty dc, (Builtin.copy_ #[22, 22] ty #[.slice (some ⟨g, i, none⟩) (n1 - i) dc, .slice (some ⟨gv, 0, none⟩) 1 1]).run Tryz.prog W1 = .ok (goInt (1 : Nat)) W2 := fun ty dc => by
    rw [hW2, hY2]
    refine run_copyK (P := Tryz.prog) W1 22 22 ty 9 1 g i (n1 - i) dc ⟨gv, 0, none⟩ 1 1 1 Y1 9 vs Tryz.underlying22 k_size_strT hg1 (by simp only [Nat.min_def]; split <;> omega) (by omega) (fun j v hj => ?_) (by omega) o2
    rw [Addr.add_lit, Nat.zero_add, hW1, cell_setRow_other _ _ _ _ (by exact hne)]
    have := hv.cell j
    rw [List.getElem?_toArray] at this
    exact this.trans hj
  have hb2 : Below base w W2 := by
    rw [hW2, hW1]
    exact below_setRow (below_setRow (Below.refl base w).drew hbg _) hbg _
  have hTc' : ∀ v ∈ T, v ∈ cur := fun v hv => by obtain ⟨j, hj⟩ := List.mem_iff_getElem?.1 hv; exact List.mem_of_getElem? (hTc j v hj)
  have hown2 : OwnT W2 base 9 1 (anyV) (.slice (some ⟨g, 0, none⟩) (n + 1) c) (n + 1) (Y2.take (n + 1)) := by
    have hYt : ∀ u ∈ Y2, anyV 0 u := by rw [hY2, hY1]; exact splice_ok (splice_ok htc (fun v hv => htc v (hTc' v hv))) ov
    have := OwnT.close (size := 1) Y2 hbg hg2 hroom hcm (by rw [Nat.mul_one]; exact hY2l) (ok := anyV) (fun j u hu => by
      rw [Nat.mod_one]
      exact hYt u (List.mem_of_getElem? hu))
    rwa [Nat.mul_one] at this
  have hgl : g < w.heap.size := (Array.getElem?_eq_some_iff.1 hg).1
  have hov : ∀ o la lb cb, (callFunc 38 #[.slice (some ⟨gv, 0, none⟩) 1 la, .slice (some ⟨g, o, none⟩) lb cb]).run Tryz.prog w = .ok (.value (.bool false)) w := fun o la lb cb => by
    have hsa : w.shape? gv = some (9, vs.length) := by
      have : w.heap[gv]? = some (.cells vs.toArray 9 (0, 0)) := hv
      simp [World.shape?, this]
    have hsb : w.shape? g = some (9, cur.length) := by simp [World.shape?, hg]
    rw [run_callFunc_extern Tryz.func38 (by kernel_rfl) (by kernel_rfl) (by kernel_rfl) (e := Extern.SlicesOverlaps.overlaps #[22, 22] #[4]) (by kernel_rfl),
      Lib.run_overlaps_apart w 22 4 9 Tryz.underlying22 1 (fun w => by
        obtain ⟨i0, hi, hz0, hz1, hz2⟩ := info_parts info_string
        simp [sizeOf, typeInfo, hi, hz1]) ⟨gv, 0, none⟩ ⟨g, o, none⟩ 1 la lb cb hne _ _ _ _ hsa hsb (by omega) (hv.frozen 0) (hv.frozen _)]
    rfl
  have wi : IntKind.i64.wrap ((i : Int) + 1) = (i1 : Int) := by rw [IntWalk.i64_in _ (by omega)]; omega
  have wn : IntKind.i64.wrap ((n : Int) + 1) = (n1 : Int) := by rw [IntWalk.i64_in _ (by omega)]; omega
  have q1 : ¬ (i : Int) = n := by omega
  have q2 : i ≤ n := by omega
  have q3 : ¬ c = i := by omega
  have q4 : i1 ≤ n1 := by omega
  have q5 : ¬ c = i1 := by omega
  have q6 : n1 ≤ c := by omega
  have q7 : i ≤ n1 := by omega
  have q8 : decide ((c : Int) < n1) = false := decide_eq_false (by omega)
  have q9 : decide (c < n1) = false := decide_eq_false (by omega)
  have q10 : ((i : Int) == n) = false := by simp; omega
  have q11 : (i == n) = false := by simp; omega
  rw [← hn1] at hown2
  rw [← hn1]
  have HO := Lib.hid hown2
  have HGr : Hid (w.grownBy W2 (some g)) := by
    show World.grownBy _ _ _
    rw [hW2, hW1]
    exact (show w.grownBy w.drew (some g) from ⟨rfl, rfl, rfl, Nat.le_refl _, fun _ _ _ => rfl⟩).trans (grownBy_setRowK.trans grownBy_setRowK)
  have HB := Lib.hid hb2
  have HC1 := Lib.hid hcp1
  have HC2 := Lib.hid hcp2
  clear hi1 hn1 hown2 hb2 hcp1 hcp2 hfin hY2 hY1 hTc hTl hT htk hg1 hg2 hW1 hW2
  go_enter Tryz.func12, Tryz.ntmps12
  go_wp2_with (simp only [hov])
  go_region_law (refine step_copy_run rfl (.tmp 73) (.tmp 76) 22 22 rfl (.slice (some ⟨g, i1, none⟩) (n1 - i1) (c - i1)) (.slice (some ⟨g, i, none⟩) (n1 - i) (c - i)) (by simp [Act.eval, Act.put]) (by simp [Act.eval, Act.put]) (HC1.out _ _ _) ?_)
  all_goals
    go_wp2_with (refine wpList_copy_run _ rfl (.tmp 80) (.tmp 81) 22 22 rfl (.slice (some ⟨g, i, none⟩) (n1 - i) (c - i)) (.slice (some ⟨gv, 0, none⟩) 1 1) rfl rfl (HC2.out _ _) ?_)
    go_ret
    exact ⟨_, _, rfl, HO.out, HB.out, HGr.out, .inl rfl⟩
set_option maxRecDepth 100000 in
set_option maxHeartbeats 1000000 in
theorem insertStr_grow (base g n c i : Nat) (xs : List Value) (gv : Nat) (vs : List Value) (w : World)
    (hown : OwnT w base 9 1 (anyV) (.slice (some ⟨g, 0, none⟩) n c) n xs) (hbase : base ≤ w.heap.size) (hi : i < n) (hroom : c < n + 1) (hn : n ≤ 1000)
    (hv : Blk w gv 9 vs.toArray) (o1 : ∀ u ∈ xs, u.oneCell' = true) (o2 : ∀ u ∈ vs, u.oneCell' = true) (hvl : vs.length = 1) (ov : ∀ u ∈ vs, anyV 0 u) :
    Calls Tryz.prog 12 #[.slice (some ⟨g, 0, none⟩) n c, .int .i64 i, .slice (some ⟨gv, 0, none⟩) 1 1] w fun e w' => ∃ A' c', e = .returned (.slice A' (n + 1) c') ∧ OwnT w' base 9 1 (anyV) (.slice A' (n + 1) c') (n + 1) (xs.take i ++ (vs ++ xs.drop i)) ∧ Below base w w' ∧ w.grownBy w' (Value.slice (some ⟨g, 0, none⟩) n c).ownBlock ∧ ((Value.slice A' (n + 1) c').ownBlock = (Value.slice (some ⟨g, 0, none⟩) n c).ownBlock ∨ (Value.slice A' (n + 1) c').ownBlock = some w.heap.size) := by
  obtain ⟨cur, hbg, hg, hnc, hcm, hcl, htk, hty⟩ := hown.open
  rw [Nat.mul_one] at hcl htk
  have htc : ∀ u ∈ cur, anyV 0 u := fun u hu => by obtain ⟨j, hj⟩ := List.mem_iff_getElem?.1 hu; have := hty j u hj; rwa [Nat.mod_one] at this
  obtain rfl : c = n := by omega
  obtain ⟨i0, hi0, hz0, hz1, hz2⟩ := info_parts info_string
  have hxl : xs.length = c := by simpa using hown.1.1
  obtain rfl : cur = xs := by rw [← htk, List.take_of_length_le (by omega)]
  obtain ⟨i1, hi1⟩ : ∃ i1, i1 = i + 1 := ⟨_, rfl⟩
  obtain ⟨n1, hn1⟩ : ∃ n1, n1 = c + 1 := ⟨_, rfl⟩
  obtain ⟨k, hk⟩ : ∃ k, k = n1 - i := ⟨_, rfl⟩
  obtain ⟨T, hT⟩ : ∃ T, T = cur.drop i := ⟨_, rfl⟩
  have hTl : T.length = (c - i) := by rw [hT, List.length_drop, hxl]
  have oT : ∀ u ∈ T, u.oneCell' = true := fun u hu => o1 u (by rw [hT] at hu; exact List.mem_of_mem_drop hu)
  have hTc : ∀ j v, T[j]? = some v → cur[i + j]? = some v := by
    intro j v hj
    rw [hT, List.getElem?_drop] at hj
    exact hj
  obtain ⟨O, hO⟩ : ∃ O, O = cur.take i := ⟨_, rfl⟩
  have hOl : O.length = i := by rw [hO, List.length_take]; omega
  have hold : (Builtin.firstCells i0.size i (.slice (some ⟨g, 0, none⟩) i c)).run Tryz.prog w.drew = .ok O.toArray w.drew := by
    rw [hz1]
    refine run_firstK w.drew 1 i ⟨g, 0, none⟩ i c O (by rw [hOl, Nat.mul_one]) (fun j v hj => ?_)
    rw [Addr.add_lit, Nat.zero_add, cell_of_row w.drew _ _ _ _ _ hg, List.getElem?_toArray]
    rw [hO, List.getElem?_take] at hj
    split at hj
    · exact hj
    · cases hj
  have hik : i + k = n1 := by omega
  have hgr := fun ty => Lib.run_append_grow_zeros (P := Tryz.prog) w 22 3 ty 9 i0 _ .i64 .i64 Tryz.underlying22 Tryz.underlying3 hi0 hz0 (some ⟨g, 0, none⟩) i c O hold k (by omega) (by rw [hz1]; decide) (by omega) (by omega) (by rw [hz2]; omega)
    (by rw [hz2]; exact growslice_fits (by omega) (by omega))
  rw [hik] at hgr
  obtain ⟨cap, hcap, hc1, hc2⟩ : ∃ cap, cap = grownCap w n1 c 9 ∧ n1 ≤ cap ∧ cap ≤ maxLen := ⟨_, rfl, grownCap_ge .., grownCap_le_maxLen _ _ _ _ (by unfold maxLen; omega)⟩
  rw [← hcap] at hgr
  obtain ⟨Z, hZ⟩ : ∃ Z : Array Value, Z = O.toArray ++ Builtin.zeroCells (Value.string ByteArray.empty).cells k ++ Builtin.zeroCells (Value.string ByteArray.empty).cells (cap - n1) := ⟨_, rfl⟩
  have hZt : ∀ u ∈ Z.toList, anyV 0 u := by
    have hz1 : ∀ (m : Nat) (u : Value), u ∈ (Builtin.zeroCells (Value.string ByteArray.empty).cells m).toList → anyV 0 u := fun m u hu => by
      obtain ⟨j, hj⟩ := List.mem_iff_getElem?.1 hu
      exact mod_zeros (zero_any) m j u (by simpa using hj)
    intro u hu
    rw [hZ, Array.toList_append, Array.toList_append] at hu
    rcases List.mem_append.1 hu with hu | hu
    · rcases List.mem_append.1 hu with hu | hu
      · rw [hO] at hu
        exact htc u (List.mem_of_mem_take hu)
      · exact hz1 _ u hu
    · exact hz1 _ u hu
  have hZs : Z.size = cap := by
    rw [hZ, Array.size_append, Array.size_append, size_zeroCells, size_zeroCells]
    have : (Value.string ByteArray.empty).cells.size = 1 := rfl
    rw [this, List.size_toArray, hOl]; omega
  rw [← hZ] at hgr
  have hZO : Z.toList.take i = O := by
    rw [hZ, Array.append_assoc, Array.toList_append, List.take_append_of_le_length (by simp; omega), List.take_of_length_le (by simp; omega)]
  obtain ⟨gN, hgN⟩ : ∃ gN, gN = w.heap.size := ⟨_, rfl⟩
  rw [← hgN] at hgr
  obtain ⟨W0, hW0⟩ : ∃ W0, W0 = w.drew.alloc (.cells Z 9) := ⟨_, rfl⟩
  have hg0 : W0.heap[gN]? = some (.cells Z.toList.toArray 9 (0, 0)) := by rw [hW0, hgN, Array.toArray_toList]; exact heap_alloc_new w.drew _
  have hb0 : Below base w W0 := by rw [hW0]; exact (Below.refl base w).drew.alloc hbase _
  have hgl : g < w.heap.size := (Array.getElem?_eq_some_iff.1 hg).1
  have hgo : W0.heap[g]? = some (.cells cur.toArray 9 (0, 0)) := by rw [hW0]; exact (Below.heap_alloc w.drew _ g hgl).trans hg
  have hvo : W0.heap[gv]? = some (.cells vs.toArray 9 (0, 0)) := by rw [hW0]; exact (Below.heap_alloc w.drew _ gv hv.lt).trans hv
  have hvl0 := hv.lt
  rw [← hW0] at hgr
  obtain ⟨Y1, hY1⟩ : ∃ Y1, Y1 = splice Z.toList i vs := ⟨_, rfl⟩
  obtain ⟨Y2, hY2⟩ : ∃ Y2, Y2 = splice Y1 i1 T := ⟨_, rfl⟩
  have hZl : Z.toList.length = cap := by simpa using hZs
  have hY1l : Y1.length = cap := by rw [hY1, splice_lenK _ _ _ (by omega), hZl]
  have hY2l : Y2.length = cap := by rw [hY2, splice_lenK _ _ _ (by omega), hY1l]
  have hfin : Y2.take (n1) = cur.take i ++ (vs ++ T) := by
    have := spliceAK Z.toList i vs T (by omega)
    rw [hvl, hTl, show i + 1 + (c - i) = n1 by omega, ← hi1, ← hY1, ← hY2, hZO, hO] at this
    exact this
  rw [← hT, ← hfin]
  obtain ⟨W1, hW1⟩ : ∃ W1, W1 = W0.setRow gN Y1.toArray := ⟨_, rfl⟩
  have hg1 : W1.heap[gN]? = some (.cells Y1.toArray 9 (0, 0)) := by rw [hW1]; exact setRow_heap W0 gN _ _ _ _ hg0
  have hcp1 : ∀ ty dc, (Builtin.copy_ #[22, 22] ty #[.slice (some ⟨gN, i, none⟩) (n1 - i) dc, .slice (some ⟨gv, 0, none⟩) 1 1]).run Tryz.prog W0 = .ok (goInt (1 : Nat)) W1 := fun ty dc => by
    rw [hW1, hY1]
    refine run_copyK (P := Tryz.prog) W0 22 22 ty 9 1 gN i (n1 - i) dc ⟨gv, 0, none⟩ 1 1 1 Z.toList 9 vs Tryz.underlying22 k_size_strT hg0 (by simp only [Nat.min_def]; split <;> omega) (by omega) (fun j v hj => ?_) (by omega) o2
    rw [Addr.add_lit, Nat.zero_add, cell_of_row W0 _ _ _ _ _ hvo]
    simpa using hj
  obtain ⟨W2, hW2⟩ : ∃ W2, W2 = W1.drew.setRow gN Y2.toArray := ⟨_, rfl⟩
  have hg2 : W2.heap[gN]? = some (.cells Y2.toArray 9 (0, 0)) := by rw [hW2]; exact setRow_heap W1.drew gN _ _ _ _ hg1
  have hgo1 : W1.heap[g]? = some (.cells cur.toArray 9 (0, 0)) := by rw [hW1, setRow_other _ _ _ _ (by omega)]; exact hgo
  have hcp2 : ∀ ty dc sc, (Builtin.copy_ #[22, 22] ty #[.slice (some ⟨gN, i1, none⟩) (n1 - i1) dc, .slice (some ⟨g, i, none⟩) (c - i) sc]).run Tryz.prog W1.drew = .ok (goInt (c - i : Nat)) W2 := fun ty dc sc => by
    rw [hW2, hY2]
    have := run_copyK (P := Tryz.prog) W1.drew 22 22 ty 9 1 gN (i + 1) (n1 - i1) dc ⟨g, i, none⟩ (c - i) sc (c - i) Y1 9 T Tryz.underlying22 k_size_strT hg1 (by simp only [Nat.min_def]; split <;> omega) (by rw [hTl, Nat.mul_one])
      (fun j v hj => by rw [Addr.add_lit, cell_of_row W1.drew _ _ _ _ _ hgo1]; simpa using hTc j v hj) (by omega) oT
    rw [← hi1] at this
    exact this
  have hbgN : base ≤ gN := by omega
  have hb2 : Below base w W2 := by
    rw [hW2, hW1]
    exact below_setRow (below_setRow hb0 hbgN _).drew hbgN _
  have hTc' : ∀ v ∈ T, v ∈ cur := fun v hv => by obtain ⟨j, hj⟩ := List.mem_iff_getElem?.1 hv; exact List.mem_of_getElem? (hTc j v hj)
  have hown2 : OwnT W2 base 9 1 (anyV) (.slice (some ⟨gN, 0, none⟩) n1 cap) n1 (Y2.take (n1)) := by
    have hYt : ∀ u ∈ Y2, anyV 0 u := by rw [hY2, hY1]; exact splice_ok (splice_ok hZt ov) (fun v hv => htc v (hTc' v hv))
    have := OwnT.close (size := 1) Y2 hbgN hg2 hc1 hc2 (by rw [Nat.mul_one]; exact hY2l) (ok := anyV) (fun j u hu => by
      rw [Nat.mod_one]
      exact hYt u (List.mem_of_getElem? hu))
    rwa [Nat.mul_one] at this
  have wi : IntKind.i64.wrap ((i : Int) + 1) = (i1 : Int) := by rw [IntWalk.i64_in _ (by omega)]; omega
  have wn : IntKind.i64.wrap ((c : Int) + 1) = (n1 : Int) := by rw [IntWalk.i64_in _ (by omega)]; omega
  have wk : IntKind.i64.wrap ((n1 : Int) - i) = (k : Int) := by rw [IntWalk.i64_in _ (by omega)]; omega
  have q1 : ¬ (i : Int) = c := by omega
  have q2 : i ≤ c := by omega
  have q3 : ¬ c = i := by omega
  have q4 : i1 ≤ n1 := by omega
  have q5 : ¬ cap = i1 := by omega
  have q7 : i ≤ n1 := by omega
  have q12 : ¬ cap = i := by omega
  have q8 : decide ((c : Int) < n1) = true := decide_eq_true (by omega)
  have q9 : decide (c < n1) = true := decide_eq_true (by omega)
  have q10 : ((i : Int) == c) = false := by simp; omega
  have q11 : (i == c) = false := by simp; omega
  rw [← hn1]
  have HO := Lib.hid hown2
  have HGr : Hid (w.grownBy W2 (some g)) := by
    have h1 : Below w.heap.size w W2 := by
      rw [hW2, hW1]
      exact below_setRow (below_setRow (by rw [hW0]; exact (Below.refl _ w).drew.alloc (Nat.le_refl _) _) (Nat.le_of_eq hgN.symm) _).drew (Nat.le_of_eq hgN.symm) _
    exact ⟨h1.os, h1.tape, h1.output, h1.size, fun k hk _ => h1.block k hk⟩
  have HgN := Lib.hid hgN
  have HB := Lib.hid hb2
  have HC1 := Lib.hid hcp1
  have HC2 := Lib.hid hcp2
  have HG := Lib.hid hgr
  clear hi1 hn1 hown2 hb2 hcp1 hcp2 hgr hfin hY2 hY1 hTc hTl hT hg1 hg2 hW1 hW2 hW0 hZl hZs hZO hZ hO hold hk hik hcap hgN hgo hgo1 hvo hown htk hg hg0
  go_enter Tryz.func12, Tryz.ntmps12
  go_wp2_with (first | (at_builtin; refine Lib.wpList_append_run _ rfl (.tmp 34) (.tmp 39) 22 3 rfl (.slice (some ⟨g, 0, none⟩) i c) (.int .i64 k) rfl rfl _ _ (HG.out _) ?_) | (refine wpList_copy_run _ rfl (.tmp 43) (.tmp 44) 22 22 rfl (.slice (some ⟨gN, i, none⟩) (n1 - i) (cap - i)) (.slice (some ⟨gv, 0, none⟩) 1 1) rfl rfl (HC1.out _ _) ?_))
  go_region_law (refine step_copy_run rfl (.tmp 50) (.tmp 53) 22 22 rfl (.slice (some ⟨gN, i1, none⟩) (n1 - i1) (cap - i1)) (.slice (some ⟨g, i, none⟩) (c - i) (c - i)) (by simp [Act.eval, Act.put]) (by simp [Act.eval, Act.put]) (HC2.out _ _ _) ?_)
  all_goals
    go_wp2
    go_ret
    exact ⟨_, _, rfl, HO.out, HB.out, HGr.out, .inr (by rw [← HgN.out]; rfl)⟩
theorem insertStr_any (base : Nat) (A : Option Addr) (n c i : Nat) (xs : List ByteArray) (gv : Nat) (x : ByteArray) (w : World)
    (hown : OwnT w base 9 1 (anyV) (.slice A n c) n (xs.map .string)) (hbase : base ≤ w.heap.size) (hi : i ≤ n) (hn : n ≤ 1000)
    (hv : Blk w gv 9 #[.string x]) (hne : (Value.slice A n c).ownBlock ≠ some gv) :
    Calls Tryz.prog 12 #[.slice A n c, .int .i64 i, .slice (some ⟨gv, 0, none⟩) 1 1] w fun e w' => ∃ A' c', e = .returned (.slice A' (n + 1) c') ∧ OwnT w' base 9 1 (anyV) (.slice A' (n + 1) c') (n + 1) ((xs.take i ++ x :: xs.drop i).map .string) ∧ Below base w w' ∧ w.grownBy w' (Value.slice A n c).ownBlock ∧ ((Value.slice A' (n + 1) c').ownBlock = (Value.slice A n c).ownBlock ∨ (Value.slice A' (n + 1) c').ownBlock = some w.heap.size) := by
  have hxl : xs.length = n := by have := hown.1.1; simpa using this
  have ov : ∀ u ∈ [Value.string x], anyV 0 u := fun u hu => by rw [List.mem_singleton] at hu; trivial
  have o2 : ∀ u ∈ [Value.string x], u.oneCell' = true := fun u hu => by rw [List.mem_singleton] at hu; rw [hu]; rfl
  have o1 := strs_one xs
  have e1 : (xs.take i ++ x :: xs.drop i).map Value.string = (xs.map Value.string).take i ++ ([Value.string x] ++ (xs.map Value.string).drop i) := by
    rw [List.map_append, List.map_cons, List.map_take, List.map_drop]; rfl
  rw [e1]
  by_cases hin : i = n
  · subst hin
    rw [List.take_of_length_le (by rw [List.length_map]; omega), List.drop_of_length_le (by rw [List.length_map]; omega), List.append_nil]
    exact insertStr_end base A i c _ gv [.string x] w hown hbase hn hv o2 rfl ov
  · obtain ⟨g, rfl⟩ : ∃ g, A = some ⟨g, 0, none⟩ := by
      rcases hown.1.2 with ⟨h2, h3⟩ | ⟨g, cap, cur, hv, -⟩
      · omega
      · injection hv with h1 h2 h3; exact ⟨g, h1⟩
    by_cases hr : n + 1 ≤ c
    · exact insertStr_in base g n c i _ gv [.string x] w hown (by omega) hr hn hv (fun h => hne (by rw [h]; rfl)) o1 o2 rfl ov
    · exact insertStr_grow base g n c i _ gv [.string x] w hown hbase (by omega) (by omega) hn hv o1 o2 rfl ov
end Go.Proofs.YtfikonmhbhcejaaGreatDoor
