/-
  Texts joined: BaseT StepPut StMem2 TriMem StepCopied.
-/
import Derived.Lib.Overlaps
import Derived.Deep.RegionHeld3
import Derived.StillTailTactics
import Derived.Shelf.SlicesG.SearchI
import Derived.Ground.SlgnProg
import Derived.Test.YtgkoaambdejkdaaG1
import Derived.Test.YtgkoaambdejkdaaG2
import Derived.Test.YtgkoaambdejkdaaG3
import Derived.Test.YtgkoaambdejkdaaG4
import Derived.Test.YtgkoaambdejkdaaG6
import Derived.Test.YtgkoaambdejkdaaG7
import Derived.Test.YtgkoaambdejkdaaG8
namespace Go.Proofs
open Go.RowKit Go.Sort Go.Shelf
shelf_lay_g SlLaysN.n49 Slgn 49 at Try 74 as Try.searchI
end Go.Proofs
namespace Go.Proofs.Ytgkoaambdejkdaa
open Go.RowKit Go.Sort
set_option maxHeartbeats 400000 in
theorem clone_intT (A : Option Addr) (n c B : Nat) (xs : List Value) (w : World) (hr : Reads w B 1 A n xs) (hB : B ≤ w.heap.size) (h1 : ∀ u ∈ xs, u.oneCell' = true) (hno : ∀ j u, xs[j]? = some u → isNum .i64 (j % 1) u) (hn : n * 8 ≤ 140737488355328) :
    Calls Try.prog 32 #[.slice A n c] w fun e w' => ∃ A' c', e = .returned (.slice A' n c') ∧ OwnT w' w.heap.size 3 1 (isNum .i64) (.slice A' n c') n xs ∧ Below w.heap.size w w' := by
  obtain ⟨i0, hi, hz0, hz1, hz2⟩ := info_parts info_int
  rcases A with _ | ad
  · have hm : n = 0 := by
      rcases Nat.eq_zero_or_pos n with h0 | h0
      · exact h0
      · obtain ⟨ad, h, _⟩ := hr.2 h0
        cases h
    subst hm
    have hx : xs = [] := List.eq_nil_of_length_eq_zero (by simpa using hr.1)
    subst hx
    have hnil := fun (w : World) => Lib.run_eql_slice_nil (P := Try.prog) w 23 3 none 0 c 0 0 Try.underlying23
    go_enter Try.func32, Try.ntmps32
    go_wp2
    go_ret
    exact ⟨none, 0, rfl, OwnT.nil _ _ _ _ _, Below.refl _ _⟩
  · have hnil := fun (w : World) => Lib.run_eql_slice_nil (P := Try.prog) w 23 3 (some ad) n c 0 0 Try.underlying23
    have hmade : OwnT (w.alloc (.cells #[] 3)) w.heap.size 3 1 (isNum .i64) (.slice (some ⟨w.heap.size, 0, none⟩) 0 0) 0 [] := OwnT.close (w := w.alloc (.cells #[] 3)) (n := 0) (c := 0) (size := 1) [] (Nat.le_refl _) (heap_alloc_new w _) (Nat.le_refl _) (by decide) rfl (by simp)
    go_enter Try.func32, Try.ntmps32
    go_wp2_with (at_builtin; refine wpList_append_T _ rfl (.tmp 5) (.tmp 6) 23 rfl w.heap.size 3 i0 (.int .i64 0) 1 8 Try.underlying23 hi hz0 hz1 hz2 rfl (by decide) (zero_num .i64 rfl) (.slice (some ⟨w.heap.size, 0, none⟩) 0 0) 0 [] rfl hmade B (some ad) n c xs rfl (hr.alloc hB _) h1 hno (by simp [maxLen]; omega) (by simpa using hn) (by simp) ?_; rintro v' w1 hown hgr hbl -; obtain ⟨A', c', rfl⟩ := own_slice hown.1)
    go_ret
    exact ⟨A', c', rfl, by simpa using hown, ((Below.refl _ _).alloc (Nat.le_refl _) _).grown hgr (by simp) (by simp [Value.ownBlock])⟩
theorem delete_oneT (base : Nat) (A : Option Addr) (n c k : Nat) (xs : List Int) (w : World) (hown : OwnT w base 3 1 (isNum .i64) (.slice A n c) n (xs.map (.int .i64))) (hx : ∀ x ∈ xs, (Lit.int .i64 x).wf = true) (hk : k < n) :
    Calls Try.prog 37 #[.slice A n c, .int .i64 k, .int .i64 ((k : Int) + 1)] w fun e w' => e = .returned (.slice A (n - 1) c) ∧
      OwnT w' base 3 1 (isNum .i64) (.slice A (n - 1) c) (n - 1) ((xs.take k ++ xs.drop (k + 1)).map (.int .i64)) ∧ w.grownBy w' (Value.slice A n c).ownBlock := by
  have hnil : Value.slice A n c ≠ .slice none 0 0 := by intro h; injection h with _ h2; omega
  obtain ⟨g, cap, hv, hb, hg, h1, h2, h3, hH⟩ := Lib.holds_of_ownsRow hown.1 hnil
  injection hv with e1 _ e3
  subst e1 e3
  have H := AnyG.slices_Delete_int Try.deleteOne g 0 c k (k + 1) xs w hH (by omega) (by unfold maxLen at h2; omega) (by omega) (by omega)
  rw [h3, show n - (k + 1 - k) = n - 1 by omega, show k + 1 - k = 1 by omega, show ((k + 1 : Nat) : Int) = (k : Int) + 1 by omega] at H
  have hl : (xs.take k ++ xs.drop (k + 1)).length = n - 1 := by rw [List.length_append, List.length_take, List.length_drop]; omega
  have hxl : ∀ x ∈ xs.take k ++ xs.drop (k + 1), (Lit.int .i64 x).wf = true := fun x h => hx x ((List.mem_append.1 h).elim List.mem_of_mem_take List.mem_of_mem_drop)
  generalize xs.take k ++ xs.drop (k + 1) = L at *
  refine Calls.mono H ?_
  rintro e w' ⟨rfl, q, rfl⟩
  have := ownT_putRow (q := q) (k := n - 1) hown (ys := L ++ List.replicate 1 0) (by rw [List.length_append, hl, List.length_replicate]; omega) (by omega) (fun y hy => ⟨y, rfl, (List.mem_append.1 hy).elim (hxl y) (fun h => by rw [(List.mem_replicate.1 h).2]; rfl)⟩)
  rw [List.take_left' hl] at this
  exact ⟨rfl, this, grownBy_sortedI (os := #[]) _⟩
theorem compact_intT (base : Nat) (A : Option Addr) (n c : Nat) (xs : List Int) (w : World) (hown : OwnT w base 3 1 (isNum .i64) (.slice A n c) n (xs.map (.int .i64))) (hx : ∀ x ∈ xs, (Lit.int .i64 x).wf = true) (hn : n * 8 ≤ 140737488355328) :
    Calls Try.prog 48 #[.slice A n c] w fun e w' => e = .returned (.slice A (Lib.compact xs).length c) ∧
      OwnT w' base 3 1 (isNum .i64) (.slice A (Lib.compact xs).length c) (Lib.compact xs).length ((Lib.compact xs).map (.int .i64)) ∧ w.grownBy w' (Value.slice A n c).ownBlock := by
  by_cases hnil : Value.slice A n c = .slice none 0 0
  · injection hnil with h1 h2 h3
    subst h1 h2 h3
    have hx : xs = [] := List.eq_nil_of_length_eq_zero (by have := hown.1.1; simpa using this)
    subst hx
    refine Calls.mono (AnyG.slices_Compact_int_empty Try.compactI none 0 w) ?_
    rintro e w' ⟨rfl, rfl⟩
    exact ⟨rfl, hown, ⟨rfl, rfl, rfl, Nat.le_refl _, fun _ _ _ => rfl⟩⟩
  · obtain ⟨g, cap, hv, hb, hg, h1, h2, h3, hH⟩ := Lib.holds_of_ownsRow hown.1 hnil
    injection hv with e1 _ e3
    subst e1 e3
    have H := AnyG.slices_Compact_int Try.compactI g 0 c xs w hH (by omega) (by omega)
    rw [h3] at H
    have hfl := (compact_sublist xs).length_le
    have hxl : ∀ x ∈ Lib.compact xs, (Lit.int .i64 x).wf = true := fun x h => hx x (compact_mem.1 h)
    generalize Lib.compact xs = ys at *
    refine Calls.mono H ?_
    rintro e w' ⟨rfl, q, rfl⟩
    have := ownT_putRow (q := q) (k := ys.length) hown (ys := ys ++ List.replicate (n - ys.length) 0) (by simp; omega) (by omega) (fun y hy => ⟨y, rfl, (List.mem_append.1 hy).elim (hxl y) (fun h => by rw [(List.mem_replicate.1 h).2]; rfl)⟩)
    rw [List.take_append_of_le_length (Nat.le_refl _), List.take_length] at this
    exact ⟨rfl, this, grownBy_sortedI (os := #[]) _⟩
theorem k_size_int1 : (Try.prog.info? 3).map (·.size) = some 1 := by kernel_rfl
set_option maxRecDepth 100000 in
set_option maxHeartbeats 1000000 in
theorem insertInt_end (base : Nat) (A : Option Addr) (n c : Nat) (xs : List Value) (gv : Nat) (vs : List Value) (w : World)
    (hown : OwnT w base 3 1 (isNum .i64) (.slice A n c) n xs) (hbase : base ≤ w.heap.size) (hn : n ≤ 1000)
    (hv : Blk w gv 3 vs.toArray) (o2 : ∀ u ∈ vs, u.oneCell' = true) (hvl : vs.length = 1) (ov : ∀ u ∈ vs, isNum .i64 0 u) :
    Calls Try.prog 75 #[.slice A n c, .int .i64 n, .slice (some ⟨gv, 0, none⟩) 1 1] w fun e w' => ∃ A' c', e = .returned (.slice A' (n + 1) c') ∧ OwnT w' base 3 1 (isNum .i64) (.slice A' (n + 1) c') (n + 1) (xs ++ vs) ∧ Below base w w' ∧ w.grownBy w' (Value.slice A n c).ownBlock ∧ ((Value.slice A' (n + 1) c').ownBlock = (Value.slice A n c).ownBlock ∨ (Value.slice A' (n + 1) c').ownBlock = some w.heap.size) := by
  obtain ⟨i0, hi, hz0, hz1, hz2⟩ := info_parts info_int
  have hrv : Reads w w.heap.size 1 (some ⟨gv, 0, none⟩) 1 vs := ⟨by omega, fun _ => ⟨_, rfl, hv.lt, fun j u hj => by
    rw [Addr.add_lit, Nat.zero_add, hv.cell]
    simpa using hj⟩⟩
  have hov2 : ∀ (j : Nat) (u : Value), vs[j]? = some u → isNum .i64 (j % 1) u := fun j u hu => by rw [Nat.mod_one]; exact ov u (List.mem_of_getElem? hu)
  clear hv
  rcases A with _ | ad
  · have hm : n = 0 := by
      rcases hown.1.2 with ⟨h2, rfl⟩ | ⟨g, cap, cur, hv, -⟩
      · rfl
      · cases hv
    subst hm
    go_enter Try.func75, Try.ntmps75
    go_wp2_with (at_builtin; refine wpList_append_T _ rfl (.tmp 23) (.tmp 24) 23 rfl base 3 i0 _ 1 8 Try.underlying23 hi hz0 hz1 hz2 rfl (by decide) (zero_num .i64 rfl) (.slice none 0 c) 0 xs rfl hown w.heap.size (some ⟨gv, 0, none⟩) 1 1 vs rfl hrv o2 hov2 (by simp [maxLen]) (by omega) hbase ?_; rintro v' w2 hown2 hgr hbl2 -; obtain ⟨A2', c2', rfl⟩ := own_slice hown2.1)
    go_ret
    exact ⟨_, _, rfl, hown2, (Below.refl base w).grown hgr hbase (fun g hg => (hown.1.lt g hg).1), hgr, hbl2⟩
  · obtain ⟨g, rfl⟩ : ∃ g, ad = ⟨g, 0, none⟩ := by
      rcases hown.1.2 with ⟨h2, -⟩ | ⟨g, cap, cur, hv, -⟩
      · cases h2
      · injection hv with h1 h2 h3; injection h1 with h1; exact ⟨g, h1⟩
    have hnc := own_cap hown.1
    have wn : IntKind.i64.wrap (n : Int) = n := IntWalk.i64_in _ (by omega)
    go_enter Try.func75, Try.ntmps75
    go_wp2_with (at_builtin; refine wpList_append_T _ rfl (.tmp 23) (.tmp 24) 23 rfl base 3 i0 _ 1 8 Try.underlying23 hi hz0 hz1 hz2 rfl (by decide) (zero_num .i64 rfl) (.slice (some ⟨g, 0, none⟩) n c) n xs rfl hown w.heap.size (some ⟨gv, 0, none⟩) 1 1 vs rfl hrv o2 hov2 (by simp [maxLen]; omega) (by omega) hbase ?_; rintro v' w2 hown2 hgr hbl2 -; obtain ⟨A2', c2', rfl⟩ := own_slice hown2.1)
    all_goals
      go_ret
      exact ⟨_, _, rfl, hown2, (Below.refl base w).grown hgr hbase (fun g hg => (hown.1.lt g hg).1), hgr, hbl2⟩
set_option maxRecDepth 100000 in
set_option maxHeartbeats 1000000 in
theorem insertInt_in (base g n c i : Nat) (xs : List Value) (gv : Nat) (vs : List Value) (w : World)
    (hown : OwnT w base 3 1 (isNum .i64) (.slice (some ⟨g, 0, none⟩) n c) n xs) (hi : i < n) (hroom : n + 1 ≤ c) (hn : n ≤ 1000)
    (hv : Blk w gv 3 vs.toArray) (hne : gv ≠ g) (o1 : ∀ u ∈ xs, u.oneCell' = true) (o2 : ∀ u ∈ vs, u.oneCell' = true) (hvl : vs.length = 1) (ov : ∀ u ∈ vs, isNum .i64 0 u) :
    Calls Try.prog 75 #[.slice (some ⟨g, 0, none⟩) n c, .int .i64 i, .slice (some ⟨gv, 0, none⟩) 1 1] w fun e w' => ∃ A' c', e = .returned (.slice A' (n + 1) c') ∧ OwnT w' base 3 1 (isNum .i64) (.slice A' (n + 1) c') (n + 1) (xs.take i ++ (vs ++ xs.drop i)) ∧ Below base w w' ∧ w.grownBy w' (Value.slice (some ⟨g, 0, none⟩) n c).ownBlock ∧ ((Value.slice A' (n + 1) c').ownBlock = (Value.slice (some ⟨g, 0, none⟩) n c).ownBlock ∨ (Value.slice A' (n + 1) c').ownBlock = some w.heap.size) := by
  obtain ⟨cur, hbg, hg, hnc, hcm, hcl, htk, hty⟩ := hown.open
  rw [Nat.mul_one] at hcl htk
  have htc : ∀ u ∈ cur, isNum .i64 0 u := fun u hu => by obtain ⟨j, hj⟩ := List.mem_iff_getElem?.1 hu; have := hty j u hj; rwa [Nat.mod_one] at this
  have hxl : xs.length = n := by simpa using hown.1.1
  obtain ⟨i1, hi1⟩ : ∃ i1, i1 = i + 1 := ⟨_, rfl⟩
  obtain ⟨n1, hn1⟩ : ∃ n1, n1 = n + 1 := ⟨_, rfl⟩
  obtain ⟨T, hT⟩ : ∃ T, T = xs.drop i := ⟨_, rfl⟩
  have hTl : T.length = (n - i) := by rw [hT, List.length_drop, hxl]
  have oT : ∀ u ∈ T, u.oneCell' = true := fun u hu => o1 u (by rw [hT] at hu; exact List.mem_of_mem_drop hu)
  have hTc : ∀ j v, T[j]? = some v → cur[i + j]? = some v := by
    intro j v hj
    rw [hT, List.getElem?_drop, ← htk, List.getElem?_take] at hj
    split at hj
    · exact hj
    · cases hj
  obtain ⟨Y1, hY1⟩ : ∃ Y1, Y1 = splice cur i1 T := ⟨_, rfl⟩
  obtain ⟨Y2, hY2⟩ : ∃ Y2, Y2 = splice Y1 i vs := ⟨_, rfl⟩
  have hY1l : Y1.length = c := by rw [hY1, splice_lenK _ _ _ (by omega), hcl]
  have hY2l : Y2.length = c := by rw [hY2, splice_lenK _ _ _ (by omega), hY1l]
  have hfin : Y2.take (n + 1) = xs.take i ++ (vs ++ T) := by
    have := spliceBK cur i vs T (by omega)
    rw [hvl, hTl, show i + 1 + (n - i) = (n + 1) by omega, ← hi1, ← hY1, ← hY2] at this
    rw [this, ← htk, List.take_take, Nat.min_eq_left (by omega)]
  rw [← hT, ← hfin]
  obtain ⟨W1, hW1⟩ : ∃ W1, W1 = w.drew.setRow g Y1.toArray := ⟨_, rfl⟩
  have hg1 : W1.heap[g]? = some (.cells Y1.toArray 3 (0, 0)) := by rw [hW1]; exact setRow_heap w.drew g _ _ _ _ hg
  have hcp1 : ∀ ty dc sc, (Builtin.copy_ #[23, 23] ty #[.slice (some ⟨g, i1, none⟩) (n1 - i1) dc, .slice (some ⟨g, i, none⟩) (n1 - i) sc]).run Try.prog w.drew = .ok (goInt (n - i : Nat)) W1 := fun ty dc sc => by
    rw [hW1, hY1]
    have := run_copyK (P := Try.prog) w.drew 23 23 ty 3 1 g (i + 1) (n1 - i1) dc ⟨g, i, none⟩ (n1 - i) sc (n - i) cur 3 T Try.underlying23 k_size_int1 hg (by simp only [Nat.min_def]; split <;> omega) (by rw [hTl, Nat.mul_one])
      (fun j v hj => by rw [Addr.add_lit, cell_of_row w.drew _ _ _ _ _ hg]; simpa using hTc j v hj) (by omega) oT
    rw [← hi1] at this
    exact this
  obtain ⟨W2, hW2⟩ : ∃ W2, W2 = W1.setRow g Y2.toArray := ⟨_, rfl⟩
  have hg2 : W2.heap[g]? = some (.cells Y2.toArray 3 (0, 0)) := by rw [hW2]; exact setRow_heap W1 g _ _ _ _ hg1
  have hcp2 : ∀ ty dc, (Builtin.copy_ #[23, 23] ty #[.slice (some ⟨g, i, none⟩) (n1 - i) dc, .slice (some ⟨gv, 0, none⟩) 1 1]).run Try.prog W1 = .ok (goInt (1 : Nat)) W2 := fun ty dc => by
    rw [hW2, hY2]
    refine run_copyK (P := Try.prog) W1 23 23 ty 3 1 g i (n1 - i) dc ⟨gv, 0, none⟩ 1 1 1 Y1 3 vs Try.underlying23 k_size_int1 hg1 (by simp only [Nat.min_def]; split <;> omega) (by omega) (fun j v hj => ?_) (by omega) o2
    rw [Addr.add_lit, Nat.zero_add, hW1, cell_setRow_other _ _ _ _ (by exact hne)]
    have := hv.cell j
    rw [List.getElem?_toArray] at this
    exact this.trans hj
  have hb2 : Below base w W2 := by
    rw [hW2, hW1]
    exact below_setRow (below_setRow (Below.refl base w).drew hbg _) hbg _
  have hTc' : ∀ v ∈ T, v ∈ cur := fun v hv => by obtain ⟨j, hj⟩ := List.mem_iff_getElem?.1 hv; exact List.mem_of_getElem? (hTc j v hj)
  have hown2 : OwnT W2 base 3 1 (isNum .i64) (.slice (some ⟨g, 0, none⟩) (n + 1) c) (n + 1) (Y2.take (n + 1)) := by
    have hYt : ∀ u ∈ Y2, isNum .i64 0 u := by rw [hY2, hY1]; exact splice_ok (splice_ok htc (fun v hv => htc v (hTc' v hv))) ov
    have := OwnT.close (size := 1) Y2 hbg hg2 hroom hcm (by rw [Nat.mul_one]; exact hY2l) (ok := isNum .i64) (fun j u hu => by
      rw [Nat.mod_one]
      exact hYt u (List.mem_of_getElem? hu))
    rwa [Nat.mul_one] at this
  have hgl : g < w.heap.size := (Array.getElem?_eq_some_iff.1 hg).1
  have hov : ∀ o la lb cb, (callFunc 89 #[.slice (some ⟨gv, 0, none⟩) 1 la, .slice (some ⟨g, o, none⟩) lb cb]).run Try.prog w = .ok (.value (.bool false)) w := fun o la lb cb => by
    have hsa : w.shape? gv = some (3, vs.length) := by
      have : w.heap[gv]? = some (.cells vs.toArray 3 (0, 0)) := hv
      simp [World.shape?, this]
    have hsb : w.shape? g = some (3, cur.length) := by simp [World.shape?, hg]
    rw [run_callFunc_extern Try.func89 (by kernel_rfl) (by kernel_rfl) (by kernel_rfl) (e := Extern.SlicesOverlaps.overlaps #[23, 23] #[4]) (by kernel_rfl),
      Lib.run_overlaps_apart w 23 4 3 Try.underlying23 1 (fun w => by
        obtain ⟨i0, hi, hz0, hz1, hz2⟩ := info_parts info_int
        simp [sizeOf, typeInfo, hi, hz1]) ⟨gv, 0, none⟩ ⟨g, o, none⟩ 1 la lb cb hne _ _ _ _ hsa hsb (by omega) (hv.frozen 0) (hv.frozen _)]
    rfl
  have wi : IntKind.i64.wrap ((i : Int) + 1) = (i1 : Int) := by rw [IntWalk.i64_in _ (by omega)]; omega
  have wn : IntKind.i64.wrap ((n : Int) + 1) = (n1 : Int) := by rw [IntWalk.i64_in _ (by omega)]; omega
  have q1 : ¬ (i : Int) = n := by omega
  have q2 : i ≤ n := by omega
  have q3 : ¬ c = i := by omega
  have q4 : i1 ≤ n1 := by omega
  have q5 : ¬ c = i1 := by omega
  have q6 : n1 ≤ c := by omega
  have q7 : i ≤ n1 := by omega
  have q8 : decide ((c : Int) < n1) = false := decide_eq_false (by omega)
  have q9 : decide (c < n1) = false := decide_eq_false (by omega)
  have q10 : ((i : Int) == n) = false := by simp; omega
  have q11 : (i == n) = false := by simp; omega
  rw [← hn1] at hown2
  rw [← hn1]
  have HO := Lib.hid hown2
  have HGr : Hid (w.grownBy W2 (some g)) := by
    show World.grownBy _ _ _
    rw [hW2, hW1]
    exact (show w.grownBy w.drew (some g) from ⟨rfl, rfl, rfl, Nat.le_refl _, fun _ _ _ => rfl⟩).trans (grownBy_setRowK.trans grownBy_setRowK)
  have HB := Lib.hid hb2
  have HC1 := Lib.hid hcp1
  have HC2 := Lib.hid hcp2
  clear hi1 hn1 hown2 hb2 hcp1 hcp2 hfin hY2 hY1 hTc hTl hT htk hg1 hg2 hW1 hW2
  go_enter Try.func75, Try.ntmps75
  go_wp2_with (simp only [hov])
  go_region_law (refine step_copy_run rfl (.tmp 73) (.tmp 76) 23 23 rfl (.slice (some ⟨g, i1, none⟩) (n1 - i1) (c - i1)) (.slice (some ⟨g, i, none⟩) (n1 - i) (c - i)) (by simp [Act.eval, Act.put]) (by simp [Act.eval, Act.put]) (HC1.out _ _ _) ?_)
  all_goals
    go_wp2_with (refine wpList_copy_run _ rfl (.tmp 80) (.tmp 81) 23 23 rfl (.slice (some ⟨g, i, none⟩) (n1 - i) (c - i)) (.slice (some ⟨gv, 0, none⟩) 1 1) rfl rfl (HC2.out _ _) ?_)
    go_ret
    exact ⟨_, _, rfl, HO.out, HB.out, HGr.out, .inl rfl⟩
set_option maxRecDepth 100000 in
set_option maxHeartbeats 1000000 in
theorem insertInt_grow (base g n c i : Nat) (xs : List Value) (gv : Nat) (vs : List Value) (w : World)
    (hown : OwnT w base 3 1 (isNum .i64) (.slice (some ⟨g, 0, none⟩) n c) n xs) (hbase : base ≤ w.heap.size) (hi : i < n) (hroom : c < n + 1) (hn : n ≤ 1000)
    (hv : Blk w gv 3 vs.toArray) (o1 : ∀ u ∈ xs, u.oneCell' = true) (o2 : ∀ u ∈ vs, u.oneCell' = true) (hvl : vs.length = 1) (ov : ∀ u ∈ vs, isNum .i64 0 u) :
    Calls Try.prog 75 #[.slice (some ⟨g, 0, none⟩) n c, .int .i64 i, .slice (some ⟨gv, 0, none⟩) 1 1] w fun e w' => ∃ A' c', e = .returned (.slice A' (n + 1) c') ∧ OwnT w' base 3 1 (isNum .i64) (.slice A' (n + 1) c') (n + 1) (xs.take i ++ (vs ++ xs.drop i)) ∧ Below base w w' ∧ w.grownBy w' (Value.slice (some ⟨g, 0, none⟩) n c).ownBlock ∧ ((Value.slice A' (n + 1) c').ownBlock = (Value.slice (some ⟨g, 0, none⟩) n c).ownBlock ∨ (Value.slice A' (n + 1) c').ownBlock = some w.heap.size) := by
  obtain ⟨cur, hbg, hg, hnc, hcm, hcl, htk, hty⟩ := hown.open
  rw [Nat.mul_one] at hcl htk
  have htc : ∀ u ∈ cur, isNum .i64 0 u := fun u hu => by obtain ⟨j, hj⟩ := List.mem_iff_getElem?.1 hu; have := hty j u hj; rwa [Nat.mod_one] at this
  obtain rfl : c = n := by omega
  obtain ⟨i0, hi0, hz0, hz1, hz2⟩ := info_parts info_int
  have hxl : xs.length = c := by simpa using hown.1.1
  obtain rfl : cur = xs := by rw [← htk, List.take_of_length_le (by omega)]
  obtain ⟨i1, hi1⟩ : ∃ i1, i1 = i + 1 := ⟨_, rfl⟩
  obtain ⟨n1, hn1⟩ : ∃ n1, n1 = c + 1 := ⟨_, rfl⟩
  obtain ⟨k, hk⟩ : ∃ k, k = n1 - i := ⟨_, rfl⟩
  obtain ⟨T, hT⟩ : ∃ T, T = cur.drop i := ⟨_, rfl⟩
  have hTl : T.length = (c - i) := by rw [hT, List.length_drop, hxl]
  have oT : ∀ u ∈ T, u.oneCell' = true := fun u hu => o1 u (by rw [hT] at hu; exact List.mem_of_mem_drop hu)
  have hTc : ∀ j v, T[j]? = some v → cur[i + j]? = some v := by
    intro j v hj
    rw [hT, List.getElem?_drop] at hj
    exact hj
  obtain ⟨O, hO⟩ : ∃ O, O = cur.take i := ⟨_, rfl⟩
  have hOl : O.length = i := by rw [hO, List.length_take]; omega
  have hold : (Builtin.firstCells i0.size i (.slice (some ⟨g, 0, none⟩) i c)).run Try.prog w.drew = .ok O.toArray w.drew := by
    rw [hz1]
    refine run_firstK w.drew 1 i ⟨g, 0, none⟩ i c O (by rw [hOl, Nat.mul_one]) (fun j v hj => ?_)
    rw [Addr.add_lit, Nat.zero_add, cell_of_row w.drew _ _ _ _ _ hg, List.getElem?_toArray]
    rw [hO, List.getElem?_take] at hj
    split at hj
    · exact hj
    · cases hj
  have hik : i + k = n1 := by omega
  have hgr := fun ty => Lib.run_append_grow_zeros (P := Try.prog) w 23 3 ty 3 i0 _ .i64 .i64 Try.underlying23 Try.underlying3 hi0 hz0 (some ⟨g, 0, none⟩) i c O hold k (by omega) (by rw [hz1]; decide) (by omega) (by omega) (by rw [hz2]; omega)
    (by rw [hz2]; exact growslice_fits (by omega) (by omega))
  rw [hik] at hgr
  obtain ⟨cap, hcap, hc1, hc2⟩ : ∃ cap, cap = grownCap w n1 c 3 ∧ n1 ≤ cap ∧ cap ≤ maxLen := ⟨_, rfl, grownCap_ge .., grownCap_le_maxLen _ _ _ _ (by unfold maxLen; omega)⟩
  rw [← hcap] at hgr
  obtain ⟨Z, hZ⟩ : ∃ Z : Array Value, Z = O.toArray ++ Builtin.zeroCells (Value.int .i64 0).cells k ++ Builtin.zeroCells (Value.int .i64 0).cells (cap - n1) := ⟨_, rfl⟩
  have hZt : ∀ u ∈ Z.toList, isNum .i64 0 u := by
    have hz1 : ∀ (m : Nat) (u : Value), u ∈ (Builtin.zeroCells (Value.int .i64 0).cells m).toList → isNum .i64 0 u := fun m u hu => by
      obtain ⟨j, hj⟩ := List.mem_iff_getElem?.1 hu
      exact mod_zeros (zero_num .i64 rfl) m j u (by simpa using hj)
    intro u hu
    rw [hZ, Array.toList_append, Array.toList_append] at hu
    rcases List.mem_append.1 hu with hu | hu
    · rcases List.mem_append.1 hu with hu | hu
      · rw [hO] at hu
        exact htc u (List.mem_of_mem_take hu)
      · exact hz1 _ u hu
    · exact hz1 _ u hu
  have hZs : Z.size = cap := by
    rw [hZ, Array.size_append, Array.size_append, size_zeroCells, size_zeroCells]
    have : (Value.int .i64 0).cells.size = 1 := rfl
    rw [this, List.size_toArray, hOl]; omega
  rw [← hZ] at hgr
  have hZO : Z.toList.take i = O := by
    rw [hZ, Array.append_assoc, Array.toList_append, List.take_append_of_le_length (by simp; omega), List.take_of_length_le (by simp; omega)]
  obtain ⟨gN, hgN⟩ : ∃ gN, gN = w.heap.size := ⟨_, rfl⟩
  rw [← hgN] at hgr
  obtain ⟨W0, hW0⟩ : ∃ W0, W0 = w.drew.alloc (.cells Z 3) := ⟨_, rfl⟩
  have hg0 : W0.heap[gN]? = some (.cells Z.toList.toArray 3 (0, 0)) := by rw [hW0, hgN, Array.toArray_toList]; exact heap_alloc_new w.drew _
  have hb0 : Below base w W0 := by rw [hW0]; exact (Below.refl base w).drew.alloc hbase _
  have hgl : g < w.heap.size := (Array.getElem?_eq_some_iff.1 hg).1
  have hgo : W0.heap[g]? = some (.cells cur.toArray 3 (0, 0)) := by rw [hW0]; exact (Below.heap_alloc w.drew _ g hgl).trans hg
  have hvo : W0.heap[gv]? = some (.cells vs.toArray 3 (0, 0)) := by rw [hW0]; exact (Below.heap_alloc w.drew _ gv hv.lt).trans hv
  have hvl0 := hv.lt
  rw [← hW0] at hgr
  obtain ⟨Y1, hY1⟩ : ∃ Y1, Y1 = splice Z.toList i vs := ⟨_, rfl⟩
  obtain ⟨Y2, hY2⟩ : ∃ Y2, Y2 = splice Y1 i1 T := ⟨_, rfl⟩
  have hZl : Z.toList.length = cap := by simpa using hZs
  have hY1l : Y1.length = cap := by rw [hY1, splice_lenK _ _ _ (by omega), hZl]
  have hY2l : Y2.length = cap := by rw [hY2, splice_lenK _ _ _ (by omega), hY1l]
  have hfin : Y2.take (n1) = cur.take i ++ (vs ++ T) := by
    have := spliceAK Z.toList i vs T (by omega)
    rw [hvl, hTl, show i + 1 + (c - i) = n1 by omega, ← hi1, ← hY1, ← hY2, hZO, hO] at this
    exact this
  rw [← hT, ← hfin]
  obtain ⟨W1, hW1⟩ : ∃ W1, W1 = W0.setRow gN Y1.toArray := ⟨_, rfl⟩
  have hg1 : W1.heap[gN]? = some (.cells Y1.toArray 3 (0, 0)) := by rw [hW1]; exact setRow_heap W0 gN _ _ _ _ hg0
  have hcp1 : ∀ ty dc, (Builtin.copy_ #[23, 23] ty #[.slice (some ⟨gN, i, none⟩) (n1 - i) dc, .slice (some ⟨gv, 0, none⟩) 1 1]).run Try.prog W0 = .ok (goInt (1 : Nat)) W1 := fun ty dc => by
    rw [hW1, hY1]
    refine run_copyK (P := Try.prog) W0 23 23 ty 3 1 gN i (n1 - i) dc ⟨gv, 0, none⟩ 1 1 1 Z.toList 3 vs Try.underlying23 k_size_int1 hg0 (by simp only [Nat.min_def]; split <;> omega) (by omega) (fun j v hj => ?_) (by omega) o2
    rw [Addr.add_lit, Nat.zero_add, cell_of_row W0 _ _ _ _ _ hvo]
    simpa using hj
  obtain ⟨W2, hW2⟩ : ∃ W2, W2 = W1.drew.setRow gN Y2.toArray := ⟨_, rfl⟩
  have hg2 : W2.heap[gN]? = some (.cells Y2.toArray 3 (0, 0)) := by rw [hW2]; exact setRow_heap W1.drew gN _ _ _ _ hg1
  have hgo1 : W1.heap[g]? = some (.cells cur.toArray 3 (0, 0)) := by rw [hW1, setRow_other _ _ _ _ (by omega)]; exact hgo
  have hcp2 : ∀ ty dc sc, (Builtin.copy_ #[23, 23] ty #[.slice (some ⟨gN, i1, none⟩) (n1 - i1) dc, .slice (some ⟨g, i, none⟩) (c - i) sc]).run Try.prog W1.drew = .ok (goInt (c - i : Nat)) W2 := fun ty dc sc => by
    rw [hW2, hY2]
    have := run_copyK (P := Try.prog) W1.drew 23 23 ty 3 1 gN (i + 1) (n1 - i1) dc ⟨g, i, none⟩ (c - i) sc (c - i) Y1 3 T Try.underlying23 k_size_int1 hg1 (by simp only [Nat.min_def]; split <;> omega) (by rw [hTl, Nat.mul_one])
      (fun j v hj => by rw [Addr.add_lit, cell_of_row W1.drew _ _ _ _ _ hgo1]; simpa using hTc j v hj) (by omega) oT
    rw [← hi1] at this
    exact this
  have hbgN : base ≤ gN := by omega
  have hb2 : Below base w W2 := by
    rw [hW2, hW1]
    exact below_setRow (below_setRow hb0 hbgN _).drew hbgN _
  have hTc' : ∀ v ∈ T, v ∈ cur := fun v hv => by obtain ⟨j, hj⟩ := List.mem_iff_getElem?.1 hv; exact List.mem_of_getElem? (hTc j v hj)
  have hown2 : OwnT W2 base 3 1 (isNum .i64) (.slice (some ⟨gN, 0, none⟩) n1 cap) n1 (Y2.take (n1)) := by
    have hYt : ∀ u ∈ Y2, isNum .i64 0 u := by rw [hY2, hY1]; exact splice_ok (splice_ok hZt ov) (fun v hv => htc v (hTc' v hv))
    have := OwnT.close (size := 1) Y2 hbgN hg2 hc1 hc2 (by rw [Nat.mul_one]; exact hY2l) (ok := isNum .i64) (fun j u hu => by
      rw [Nat.mod_one]
      exact hYt u (List.mem_of_getElem? hu))
    rwa [Nat.mul_one] at this
  have wi : IntKind.i64.wrap ((i : Int) + 1) = (i1 : Int) := by rw [IntWalk.i64_in _ (by omega)]; omega
  have wn : IntKind.i64.wrap ((c : Int) + 1) = (n1 : Int) := by rw [IntWalk.i64_in _ (by omega)]; omega
  have wk : IntKind.i64.wrap ((n1 : Int) - i) = (k : Int) := by rw [IntWalk.i64_in _ (by omega)]; omega
  have q1 : ¬ (i : Int) = c := by omega
  have q2 : i ≤ c := by omega
  have q3 : ¬ c = i := by omega
  have q4 : i1 ≤ n1 := by omega
  have q5 : ¬ cap = i1 := by omega
  have q7 : i ≤ n1 := by omega
  have q12 : ¬ cap = i := by omega
  have q8 : decide ((c : Int) < n1) = true := decide_eq_true (by omega)
  have q9 : decide (c < n1) = true := decide_eq_true (by omega)
  have q10 : ((i : Int) == c) = false := by simp; omega
  have q11 : (i == c) = false := by simp; omega
  rw [← hn1]
  have HO := Lib.hid hown2
  have HGr : Hid (w.grownBy W2 (some g)) := by
    have h1 : Below w.heap.size w W2 := by
      rw [hW2, hW1]
      exact below_setRow (below_setRow (by rw [hW0]; exact (Below.refl _ w).drew.alloc (Nat.le_refl _) _) (Nat.le_of_eq hgN.symm) _).drew (Nat.le_of_eq hgN.symm) _
    exact ⟨h1.os, h1.tape, h1.output, h1.size, fun k hk _ => h1.block k hk⟩
  have HgN := Lib.hid hgN
  have HB := Lib.hid hb2
  have HC1 := Lib.hid hcp1
  have HC2 := Lib.hid hcp2
  have HG := Lib.hid hgr
  clear hi1 hn1 hown2 hb2 hcp1 hcp2 hgr hfin hY2 hY1 hTc hTl hT hg1 hg2 hW1 hW2 hW0 hZl hZs hZO hZ hO hold hk hik hcap hgN hgo hgo1 hvo hown htk hg hg0
  go_enter Try.func75, Try.ntmps75
  go_wp2_with (first | (at_builtin; refine Lib.wpList_append_run _ rfl (.tmp 34) (.tmp 39) 23 3 rfl (.slice (some ⟨g, 0, none⟩) i c) (.int .i64 k) rfl rfl _ _ (HG.out _) ?_) | (refine wpList_copy_run _ rfl (.tmp 43) (.tmp 44) 23 23 rfl (.slice (some ⟨gN, i, none⟩) (n1 - i) (cap - i)) (.slice (some ⟨gv, 0, none⟩) 1 1) rfl rfl (HC1.out _ _) ?_))
  go_region_law (refine step_copy_run rfl (.tmp 50) (.tmp 53) 23 23 rfl (.slice (some ⟨gN, i1, none⟩) (n1 - i1) (cap - i1)) (.slice (some ⟨g, i, none⟩) (c - i) (c - i)) (by simp [Act.eval, Act.put]) (by simp [Act.eval, Act.put]) (HC2.out _ _ _) ?_)
  all_goals
    go_wp2
    go_ret
    exact ⟨_, _, rfl, HO.out, HB.out, HGr.out, .inr (by rw [← HgN.out]; rfl)⟩
theorem insertInt_any (base : Nat) (A : Option Addr) (n c i : Nat) (xs : List Int) (gv : Nat) (x : Int) (w : World)
    (hown : OwnT w base 3 1 (isNum .i64) (.slice A n c) n (xs.map (.int .i64))) (hbase : base ≤ w.heap.size) (hi : i ≤ n) (hn : n ≤ 1000)
    (hv : Blk w gv 3 #[.int .i64 x]) (hx : (Lit.int .i64 x).wf = true) (hne : (Value.slice A n c).ownBlock ≠ some gv) :
    Calls Try.prog 75 #[.slice A n c, .int .i64 i, .slice (some ⟨gv, 0, none⟩) 1 1] w fun e w' => ∃ A' c', e = .returned (.slice A' (n + 1) c') ∧ OwnT w' base 3 1 (isNum .i64) (.slice A' (n + 1) c') (n + 1) ((xs.take i ++ x :: xs.drop i).map (.int .i64)) ∧ Below base w w' ∧ w.grownBy w' (Value.slice A n c).ownBlock ∧ ((Value.slice A' (n + 1) c').ownBlock = (Value.slice A n c).ownBlock ∨ (Value.slice A' (n + 1) c').ownBlock = some w.heap.size) := by
  have hxl : xs.length = n := by have := hown.1.1; simpa using this
  have ov : ∀ u ∈ [Value.int .i64 x], isNum .i64 0 u := fun u hu => by rw [List.mem_singleton] at hu; exact ⟨x, hu, hx⟩
  have o2 : ∀ u ∈ [Value.int .i64 x], u.oneCell' = true := fun u hu => by rw [List.mem_singleton] at hu; rw [hu]; rfl
  have o1 := ints_one xs
  have e1 : (xs.take i ++ x :: xs.drop i).map (Value.int .i64) = (xs.map (Value.int .i64)).take i ++ ([Value.int .i64 x] ++ (xs.map (Value.int .i64)).drop i) := by
    rw [List.map_append, List.map_cons, List.map_take, List.map_drop]; rfl
  rw [e1]
  by_cases hin : i = n
  · subst hin
    rw [List.take_of_length_le (by rw [List.length_map]; omega), List.drop_of_length_le (by rw [List.length_map]; omega), List.append_nil]
    exact insertInt_end base A i c _ gv [.int .i64 x] w hown hbase hn hv o2 rfl ov
  · obtain ⟨g, rfl⟩ : ∃ g, A = some ⟨g, 0, none⟩ := by
      rcases hown.1.2 with ⟨h2, h3⟩ | ⟨g, cap, cur, hv, -⟩
      · omega
      · injection hv with h1 h2 h3; exact ⟨g, h1⟩
    by_cases hr : n + 1 ≤ c
    · exact insertInt_in base g n c i _ gv [.int .i64 x] w hown (by omega) hr hn hv (fun h => hne (by rw [h]; rfl)) o1 o2 rfl ov
    · exact insertInt_grow base g n c i _ gv [.int .i64 x] w hown hbase (by omega) (by omega) hn hv o1 o2 rfl ov
end Go.Proofs.Ytgkoaambdejkdaa

namespace Go.Proofs.Ytgkoaambdejkdaa
open Go.RowKit
set_option maxHeartbeats 400000 in
theorem search_nil (c : Nat) (x : Int) (w : World) : Calls Try.prog 74 #[.slice none 0 c, .int .i64 x] w fun e w' => e = .returned (.tuple #[.int .i64 0, .bool false]) ∧ w' = w := by
  go_enter Try.func74, Try.ntmps74
  go_wp2
  go_loopw [7, 8] (fun i j wr => i = .int .i64 0 ∧ j = .int .i64 0 ∧ wr = w) (fun _ _ _ => 0)
  case atStart => exact ⟨rfl, rfl, rfl⟩
  case round =>
    obtain ⟨rfl, rfl, rfl⟩ := hrel
    go_wp2
    go_ret2
    exact ⟨rfl, rfl⟩
theorem search_any (base : Nat) (A : Option Addr) (n c : Nat) (xs : List Int) (x : Int) (w : World) (hown : w.ownsRow base 3 1 (.slice A n c) n (xs.map (.int .i64))) (hn : n ≤ 1000) (hs : xs.Pairwise (fun a b => a < b)) :
    Calls Try.prog 74 #[.slice A n c, .int .i64 x] w fun e w' => e = .returned (.tuple #[.int .i64 (cntL xs x : Nat), .bool (decide (x ∈ xs))]) ∧ ∃ q, w' = w.drewN q := by
  have hxl : xs.length = n := by have := hown.1; simpa using this
  rcases A with _ | ad
  · have hm : n = 0 := by
      rcases hown.2 with ⟨h2, rfl⟩ | ⟨g, cap, cur, hv, -⟩
      · rfl
      · cases hv
    subst hm
    have hx : xs = [] := List.eq_nil_of_length_eq_zero hxl
    subst hx
    refine Calls.mono (search_nil c x w) ?_
    rintro e w' ⟨rfl, rfl⟩
    exact ⟨rfl, 0, rfl⟩
  · obtain ⟨g, rfl⟩ : ∃ g, ad = ⟨g, 0, none⟩ := by
      rcases hown.2 with ⟨h2, -⟩ | ⟨g, cap, cur, hv, -⟩
      · cases h2
      · injection hv with h1 h2 h3; injection h1 with h1; exact ⟨g, h1⟩
    refine Calls.mono (AnyG.slices_BinarySearch_int Try.searchI g 0 n c xs x w (by omega) (by omega) (fun j hj => ?_) ?_) ?_
    · have := hown.cells (g := g) rfl j (.int .i64 xs[j]) (by simp [hj])
      rw [Addr.add_lit] at this
      rw [List.getD_eq_getElem?_getD, List.getElem?_eq_getElem hj]
      exact this
    · rw [List.take_of_length_le (by omega)]
      exact rise_le hs
    · rintro e w' ⟨rfl, q, rfl⟩
      rw [List.take_of_length_le (by omega), List.countP_eq_length_filter]
      refine ⟨?_, q, rfl⟩
      have : xs.contains x = decide (x ∈ xs) := by simp
      rw [this]
      rfl
set_option maxHeartbeats 400000 in
theorem stepPut_any (base : Nat) (A : Option Addr) (n c : Nat) (l : List Int) (x : Int) (w : World) (hown : OwnT w base 3 1 (isNum .i64) (.slice A n c) n (l.map (.int .i64))) (hbase : base ≤ w.heap.size) (hn : n ≤ 1000) (hs : l.Pairwise (fun a b => a < b)) (hx : (Lit.int .i64 x).wf = true) :
    Calls Try.prog 38 #[.slice A n c, .int .i64 x] w fun e w' => ∃ A' c', e = .returned (.slice A' (putL l x).length c') ∧ OwnT w' base 3 1 (isNum .i64) (.slice A' (putL l x).length c') (putL l x).length ((putL l x).map (.int .i64)) ∧ Below base w w' ∧ w.grownBy w' (Value.slice A n c).ownBlock ∧
      ∀ k, (Value.slice A' (putL l x).length c').ownBlock = some k → (Value.slice A n c).ownBlock = some k ∨ w.heap.size ≤ k := by
  have hll : l.length = n := by have := hown.1.1; simpa using this
  have H := Lib.hid (search_any base A n c l x w hown.1 hn hs)
  have HO := Lib.hid hown
  by_cases hm : x ∈ l
  · rw [decide_eq_true hm] at H
    have hp : putL l x = l := by unfold putL; rw [if_pos hm]
    rw [hp, hll]
    clear hm hp hown hll
    generalize cntL l x = k at *
    go_enter Try.func38, Try.ntmps38
    go_wp2_with fail
    refine H.out.mono ?_
    rintro e w1 ⟨rfl, q, rfl⟩
    go_wp2
    go_ret
    exact ⟨A, c, rfl, HO.out.drewN q, below_drewN (Below.refl _ _) q, ⟨rfl, rfl, rfl, Nat.le_refl _, fun _ _ _ => rfl⟩, fun k hk => .inl hk⟩
  · rw [decide_eq_false hm] at H
    have hp : putL l x = l.take (cntL l x) ++ x :: l.drop (cntL l x) := by unfold putL; rw [if_neg hm]; rfl
    have hk := cntL_le l x
    have hpl : (putL l x).length = n + 1 := by rw [putL, if_neg hm, insL_length, hll]
    rw [hpl, hp]
    rw [hll] at hk
    clear hm hp hpl hown hll
    generalize cntL l x = k at *
    go_enter Try.func38, Try.ntmps38
    go_wp2_with fail
    refine H.out.mono ?_
    rintro e w1 ⟨rfl, q, rfl⟩
    have HI := Lib.hid (insertInt_any base A n c k l w.heap.size x ((w.drewN q).alloc (.cells #[.int .i64 x] 3)) ((HO.out.drewN q).alloc _) (by simp; omega) hk hn (Blk.new (w.drewN q) 3 #[.int .i64 x]) hx (fun h => by have := (HO.out.1.lt _ h).2; omega))
    have hb1 : Below base w ((w.drewN q).alloc (.cells #[.int .i64 x] 3)) := (below_drewN (Below.refl base w) q).alloc hbase _
    go_wp2_with fail
    refine HI.out.mono ?_
    rintro e w2 ⟨A', c', rfl, hown2, hb2, hg2, hbl⟩
    have HG2 := Lib.hid hg2
    have HBl := Lib.hid hbl
    clear hg2 hbl
    go_wp2
    go_ret
    refine ⟨A', c', rfl, hown2, hb1.trans hb2, (show w.grownBy (w.drewN q) _ from ⟨rfl, rfl, rfl, Nat.le_refl _, fun _ _ _ => rfl⟩).trans ((World.grownBy_alloc (w.drewN q) _ _).trans HG2.out), fun k hk => ?_⟩
    rcases HBl.out with h | h
    · rw [h] at hk; exact .inl hk
    · rw [h] at hk; injection hk with hk; right; rw [← hk]; simp
end Go.Proofs.Ytgkoaambdejkdaa

namespace Go.Proofs.Ytgkoaambdejkdaa
open Go.RowKit
section
variable {w w' : World} {base n c rn rc pn pc hn hc : Nat} {A RA PA HA : Option Addr} {S : St}
theorem own_some {size k d : Nat} {e : TypeId} {xs : List Value} (h : w.ownsRow base e size (.slice A k d) k xs) (hk : 0 < k) : ∃ g, A = some ⟨g, 0, none⟩ ∧ base ≤ g ∧ ∃ cur : Array Value, Blk w g e cur := by
  rcases h.2 with ⟨h, _⟩ | ⟨g, cap, cur, h, hg, hh, _⟩
  · injection h with _ h2 _
    omega
  · injection h with h1 _ _
    exact ⟨g, h1, hg, cur, hh⟩
theorem Blk.store4 {g : Nat} {t : TypeId} {a b c d : Value} (h : Blk w g t #[a, b, c, d]) (x0 x1 x2 x3 : Value) :
    Blk ((((w.setCell ⟨g, 0, none⟩ x0).setCell ⟨g, 1, none⟩ x1).setCell ⟨g, 2, none⟩ x2).setCell ⟨g, 3, none⟩ x3) g t #[x0, x1, x2, x3] := (((h.set_ 0 x0).set_ 1 x1).set_ 2 x2).set_ 3 x3
theorem Blk.far4 {g g' : Nat} {t : TypeId} {cs : Array Value} (h : Blk w g t cs) (hne : g ≠ g') (x0 x1 x2 x3 : Value) :
    Blk ((((w.setCell ⟨g', 0, none⟩ x0).setCell ⟨g', 1, none⟩ x1).setCell ⟨g', 2, none⟩ x2).setCell ⟨g', 3, none⟩ x3) g t cs := (((h.far (p := ⟨g', 0, none⟩) hne x0).far (p := ⟨g', 1, none⟩) hne x1).far (p := ⟨g', 2, none⟩) hne x2).far (p := ⟨g', 3, none⟩) hne x3
theorem Blk.four_frozen {g : Nat} {t : TypeId} {cs : Array Value} (h : Blk w g t cs) : w.frozen? ⟨g, 0, none⟩ = false ∧ w.frozen? ⟨g, 1, none⟩ = false ∧ w.frozen? ⟨g, 2, none⟩ = false ∧ w.frozen? ⟨g, 3, none⟩ = false := ⟨h.frozen 0, h.frozen 1, h.frozen 2, h.frozen 3⟩
end
end Go.Proofs.Ytgkoaambdejkdaa

namespace Go.Proofs.Ytgkoaambdejkdaa
open Go.RowKit
section
variable {w w' : World} {g : Nat} {t : TypeId} {a b c : Value}
theorem Blk.three (h : Blk w g t #[a, b, c]) : w.cell? ⟨g, 0, none⟩ = some a ∧ w.cell? ⟨g, 1, none⟩ = some b ∧ w.cell? ⟨g, 2, none⟩ = some c := ⟨h.cell 0, h.cell 1, h.cell 2⟩
theorem Blk.store3 (h : Blk w g t #[a, b, c]) (x0 x1 x2 : Value) : Blk (((w.setCell ⟨g, 0, none⟩ x0).setCell ⟨g, 1, none⟩ x1).setCell ⟨g, 2, none⟩ x2) g t #[x0, x1, x2] := ((h.set_ 0 x0).set_ 1 x1).set_ 2 x2
theorem Blk.far3 {g' : Nat} {cs : Array Value} (h : Blk w g t cs) (hne : g ≠ g') (x0 x1 x2 : Value) : Blk (((w.setCell ⟨g', 0, none⟩ x0).setCell ⟨g', 1, none⟩ x1).setCell ⟨g', 2, none⟩ x2) g t cs :=
  ((h.far (p := ⟨g', 0, none⟩) hne x0).far (p := ⟨g', 1, none⟩) hne x1).far (p := ⟨g', 2, none⟩) hne x2
theorem below_block3 {base : Nat} {w0 : World} (h : Below base w0 w) (hg : base ≤ g) (x0 x1 x2 : Value) : Below base w0 (((w.setCell ⟨g, 0, none⟩ x0).setCell ⟨g, 1, none⟩ x1).setCell ⟨g, 2, none⟩ x2) :=
  ((h.setCell (p := ⟨g, 0, none⟩) hg _).setCell (p := ⟨g, 1, none⟩) hg _).setCell (p := ⟨g, 2, none⟩) hg _
end
theorem own_apart2 {w w' : World} {b1 n n' : Nat} {e e' : TypeId} {size size' : Nat} {ok ok' : Nat → Value → Prop} {v v' : Value} {xs xs' : List Value} (h : OwnT w b1 e size ok v n xs) (h' : OwnT w' w.heap.size e' size' ok' v' n' xs') : ∀ k, v.ownBlock = some k → v'.ownBlock ≠ some k := fun k h1 h2 => by
  have := (h.1.lt k h1).2
  have := (h'.1.lt k h2).1
  omega
structure TriO (w : World) (base : Nat) (A : Option Addr) (n c : Nat) (G : Option Addr) (gn gc : Nat) (K : Option Addr) (kn kc : Nat) (a g b : List Int) : Prop where
  a : OwnT w base 43 1 (isNum .u64) (.slice A n c) n (a.map (.int .u64))
  g : OwnT w base 3 1 (isNum .i64) (.slice G gn gc) gn (g.map (.int .i64))
  b : OwnT w base 3 1 (isNum .i64) (.slice K kn kc) kn (b.map (.int .i64))
  ap : ∀ k, (Value.slice G gn gc).ownBlock = some k → (Value.slice K kn kc).ownBlock ≠ some k
section
variable {w w' : World} {base : Nat} {A : Option Addr} {n c : Nat} {G : Option Addr} {gn gc : Nat} {K : Option Addr} {kn kc : Nat} {a g b : List Int}
theorem TriO.below (h : TriO w base A n c G gn gc K kn kc a g b) (hb : Below w.heap.size w w') : TriO w' base A n c G gn gc K kn kc a g b := ⟨h.a.below hb, h.g.below hb, h.b.below hb, h.ap⟩
theorem TriO.mono {base' : Nat} (h : TriO w base' A n c G gn gc K kn kc a g b) (hb : base ≤ base') : TriO w base A n c G gn gc K kn kc a g b := ⟨h.a.mono hb, h.g.mono hb, h.b.mono hb, h.ap⟩
theorem TriO.alloc (h : TriO w base A n c G gn gc K kn kc a g b) (o : Obj) : TriO (w.alloc o) base A n c G gn gc K kn kc a g b := ⟨h.a.alloc o, h.g.alloc o, h.b.alloc o, h.ap⟩
theorem TriO.set {t : TypeId} {q : Nat} {cs : Array Value} (h : TriO w base A n c G gn gc K kn kc a g b) (hB : Blk w q t cs) (h1 : 43 ≠ t) (h2 : 3 ≠ t) (i : Nat) (u : Value) : TriO (w.setCell ⟨q, i, none⟩ u) base A n c G gn gc K kn kc a g b :=
  ⟨h.a.apart (own_blk h.a.1 hB h1) u, h.g.apart (own_blk h.g.1 hB h2) u, h.b.apart (own_blk h.b.1 hB h2) u, h.ap⟩
theorem TriO.store {t : TypeId} {q : Nat} {x y z : Value} (h : TriO w base A n c G gn gc K kn kc a g b) (hB : Blk w q t #[x, y, z]) (h1 : 43 ≠ t) (h2 : 3 ≠ t) (x0 x1 x2 : Value) :
    TriO (((w.setCell ⟨q, 0, none⟩ x0).setCell ⟨q, 1, none⟩ x1).setCell ⟨q, 2, none⟩ x2) base A n c G gn gc K kn kc a g b :=
  ((h.set hB h1 h2 0 x0).set (hB.set_ 0 x0) h1 h2 1 x1).set ((hB.set_ 0 x0).set_ 1 x1) h1 h2 2 x2
theorem TriO.putB {K' : Option Addr} {kn' kc' : Nat} {b' : List Int} (h : TriO w base A n c G gn gc K kn kc a g b) (ho : OwnT w' base 3 1 (isNum .i64) (.slice K' kn' kc') kn' (b'.map (.int .i64))) (hg : w.grownBy w' (Value.slice K kn kc).ownBlock)
    (hb : ∀ k, (Value.slice K' kn' kc').ownBlock = some k → (Value.slice K kn kc).ownBlock = some k ∨ w.heap.size ≤ k) : TriO w' base A n c G gn gc K' kn' kc' a g b' := by
  refine ⟨h.a.kept hg ?_, h.g.kept hg ?_, ho, fun k h1 h2 => ?_⟩
  · cases hk : (Value.slice K kn kc).ownBlock with
    | none => cases ha : (Value.slice A n c).ownBlock with
      | none => exact .inl rfl
      | some _ => exact .inr (by simp)
    | some k => exact .inr (own_kinds h.b.1 h.a.1 (by decide) hk)
  · cases hk : (Value.slice G gn gc).ownBlock with
    | none => exact .inl rfl
    | some k => exact .inr (fun e => h.ap k hk e.symm)
  · rcases hb k h2 with h3 | h3
    · exact h.ap k h1 h3
    · have := (h.g.1.lt k h1).2; omega
theorem TriO.putG {G' : Option Addr} {gn' gc' : Nat} {g' : List Int} (h : TriO w base A n c G gn gc K kn kc a g b) (ho : OwnT w' base 3 1 (isNum .i64) (.slice G' gn' gc') gn' (g'.map (.int .i64))) (hg : w.grownBy w' (Value.slice G gn gc).ownBlock)
    (hb : ∀ k, (Value.slice G' gn' gc').ownBlock = some k → (Value.slice G gn gc).ownBlock = some k ∨ w.heap.size ≤ k) : TriO w' base A n c G' gn' gc' K kn kc a g' b := by
  refine ⟨h.a.kept hg ?_, ho, h.b.kept hg ?_, fun k h1 h2 => ?_⟩
  · cases hk : (Value.slice G gn gc).ownBlock with
    | none => cases ha : (Value.slice A n c).ownBlock with
      | none => exact .inl rfl
      | some _ => exact .inr (by simp)
    | some k => exact .inr (own_kinds h.g.1 h.a.1 (by decide) hk)
  · cases hk : (Value.slice K kn kc).ownBlock with
    | none => exact .inl rfl
    | some k => exact .inr (fun e => h.ap k e.symm hk)
  · rcases hb k h1 with h3 | h3
    · exact h.ap k h3 h2
    · have := (h.b.1.lt k h2).2; omega
end
end Go.Proofs.Ytgkoaambdejkdaa

namespace Go.Proofs.Ytgkoaambdejkdaa
open Go.RowKit
set_option maxRecDepth 100000 in
set_option maxHeartbeats 4000000 in
theorem stepCopied_any (A : Option Addr) (n c : Nat) (G : Option Addr) (gn gc : Nat) (K : Option Addr) (kn kc : Nat) (a g b : List Int) (w : World)
    (hr : Reads w w.heap.size 1 A n (a.map (.int .u64))) (ha : ∀ x ∈ a, (Lit.int .u64 x).wf = true) (hg : Reads w w.heap.size 1 G gn (g.map (.int .i64))) (hgx : ∀ x ∈ g, (Lit.int .i64 x).wf = true) (hk : Reads w w.heap.size 1 K kn (b.map (.int .i64))) (hkx : ∀ x ∈ b, (Lit.int .i64 x).wf = true)
    (h1 : n ≤ 1000000) (h2 : gn ≤ 1000000) (h3 : kn ≤ 1000000) :
    Calls Try.prog 36 #[.agg #[.slice A n c, .slice G gn gc, .slice K kn kc]] w fun e w' => Below w.heap.size w w' ∧ ∃ (A1 : Option Addr) (c1 : Nat) (A2 : Option Addr) (c2 : Nat) (A3 : Option Addr) (c3 : Nat),
      e = .returned (.agg #[.slice A1 n c1, .slice A2 gn c2, .slice A3 kn c3]) ∧ TriO w' w.heap.size A1 n c1 A2 gn c2 A3 kn c3 a g b := by
  have C1 := Lib.hid (fun W r hB => clone_u64T A n c w.heap.size (a.map (.int .u64)) W r hB (fun u hu => by obtain ⟨x, _, rfl⟩ := List.mem_map.1 hu; rfl) (nums_num ha 1) (by omega))
  have C2 := Lib.hid (fun W r hB => clone_intT G gn gc w.heap.size (g.map (.int .i64)) W r hB (ints_one _) (nums_num hgx 1) (by omega))
  have C3 := Lib.hid (fun W r hB => clone_intT K kn kc w.heap.size (b.map (.int .i64)) W r hB (ints_one _) (nums_num hkx 1) (by omega))
  have hb0 := below_new w (.cells #[.slice A n c, .slice G gn gc, .slice K kn kc] 25)
  have hb := hb0.alloc hb0.size (.cells #[.slice none 0 0, .slice none 0 0, .slice none 0 0] 25)
  have DS := (Blk.new w 25 #[.slice A n c, .slice G gn gc, .slice K kn kc]).alloc (.cells #[.slice none 0 0, .slice none 0 0, .slice none 0 0] 25)
  have DR := Blk.new (w.alloc (.cells #[.slice A n c, .slice G gn gc, .slice K kn kc] 25)) 25 #[.slice none 0 0, .slice none 0 0, .slice none 0 0]
  rw [World.size_alloc] at DR
  clear hb0
  go_enter Try.func36, Try.ntmps36
  go_upto_region 1 with fail
  have hb := hb.drew
  have DS := DS.drew
  have DR := DR.drew
  obtain ⟨s0, s1, s2⟩ := DS.three
  obtain ⟨r0, r1, r2⟩ := DR.three
  have f0 := DR.frozen 0
  have f1 := DR.frozen 1
  have f2 := DR.frozen 2
  go_region_held3 (fun w' => w'.cell? ⟨w.heap.size, 0, none⟩ = some (.slice A n c) ∧ w'.cell? ⟨w.heap.size, 1, none⟩ = some (.slice G gn gc) ∧ w'.cell? ⟨w.heap.size, 2, none⟩ = some (.slice K kn kc)) (go_keep)
    (first
      | (go_at_call 31; (with_reducible refine (C1.out _ (hr.below hb) hb.size).mono ?_); rintro e wz ⟨A1, c1, rfl, oz, hbz⟩; have DS := DS.below hbz DS.lt; have DR := DR.below hbz DR.lt; obtain ⟨s0, s1, s2⟩ := DS.three; obtain ⟨r0, r1, r2⟩ := DR.three; have f0 := DR.frozen 0; have f1 := DR.frozen 1; have f2 := DR.frozen 2; (try have o1 := OwnT.below o1 hbz); (try have o2 := OwnT.below o2 hbz); (try have o3 := OwnT.below o3 hbz); have o1 := OwnT.mono oz hb.size; clear oz; have hb := hb.trans (hbz.mono hb.size))
      | (go_at_call 32; (with_reducible refine (C2.out _ (hg.below hb) hb.size).mono ?_); rintro e wz ⟨A2, c2, rfl, oz, hbz⟩; (try have ap := own_apart2 o3 oz); have DS := DS.below hbz DS.lt; have DR := DR.below hbz DR.lt; obtain ⟨s0, s1, s2⟩ := DS.three; obtain ⟨r0, r1, r2⟩ := DR.three; have f0 := DR.frozen 0; have f1 := DR.frozen 1; have f2 := DR.frozen 2; (try have o1 := OwnT.below o1 hbz); (try have o2 := OwnT.below o2 hbz); (try have o3 := OwnT.below o3 hbz); have o2 := OwnT.mono oz hb.size; clear oz; have hb := hb.trans (hbz.mono hb.size))
      | (go_at_call 32; (with_reducible refine (C3.out _ (hk.below hb) hb.size).mono ?_); rintro e wz ⟨A3, c3, rfl, oz, hbz⟩; (try have ap := own_apart2 o2 oz); have DS := DS.below hbz DS.lt; have DR := DR.below hbz DR.lt; obtain ⟨s0, s1, s2⟩ := DS.three; obtain ⟨r0, r1, r2⟩ := DR.three; have f0 := DR.frozen 0; have f1 := DR.frozen 1; have f2 := DR.frozen 2; (try have o1 := OwnT.below o1 hbz); (try have o2 := OwnT.below o2 hbz); (try have o3 := OwnT.below o3 hbz); have o3 := OwnT.mono oz hb.size; clear oz; have hb := hb.trans (hbz.mono hb.size)))
  all_goals
    have HO := Lib.hid ((TriO.mk o1 o2 o3 (by first | exact ap | exact fun k h h' => ap k h' h) : TriO _ w.heap.size A1 n c1 A2 gn c2 A3 kn c3 a g b).store DR (by decide) (by decide))
    clear o1 o2 o3 s0 s1 s2
    go_wp2_with fail
    refine bodyPost_ret (v := .agg #[.slice A1 n c1, .slice A2 gn c2, .slice A3 kn c3]) ?_ rfl ⟨below_block3 hb (Nat.le_succ _) _ _ _, A1, c1, A2, c2, A3, c3, rfl, HO.out _ _ _⟩
    obtain ⟨z0, z1, z2⟩ := (DR.store3 (.slice A1 n c1) (.slice A2 gn c2) (.slice A3 kn c3)).three
    simp only [results, Try.results36]
    go_simp
end Go.Proofs.Ytgkoaambdejkdaa
