/-
  Texts joined: PinDrop PinT HandT.
-/
import Derived.Test.YtbmkbnalembbjaaGreatDoorQ1
import Derived.Test.YtbmkbnalembbjaaGreatDoorQ9
import Derived.Test.YtbmkbnalembbjaaGreatDoorQ10
namespace Go.Proofs.YtbmkbnalembbjaaGreatDoor
open Go.RowKit
def dropE (l : List Rn) (x : Int) : Int := if findE l x ≠ 0 then findE l x else 5
end Go.Proofs.YtbmkbnalembbjaaGreatDoor

namespace Go.Proofs.YtbmkbnalembbjaaGreatDoor
open Go.RowKit
def isI (_ : Nat) (u : Value) : Prop := ∃ x, u = .int .i64 x
theorem isI_zero : ∀ j u, (Value.agg #[.int .i64 0, .int .i64 0]).cells[j]? = some u → isI j u := by
  intro j u hu
  have hc : (Value.agg #[.int .i64 0, .int .i64 0]).cells = #[.int .i64 0, .int .i64 0] := by kernel_rfl
  rw [hc] at hu
  rcases j with _ | _ | j
  · exact ⟨0, by simpa using hu.symm⟩
  · exact ⟨0, by simpa using hu.symm⟩
  · simp at hu
theorem isI_all {l : List Value} {k : Nat} (h : ∀ u ∈ l, isI 0 u) : ∀ j u, l[j]? = some u → isI (j % k) u := fun _ u hu => h u (List.mem_of_getElem? hu)
theorem isI_runs (l : List Rn) : ∀ u ∈ runsC l, isI 0 u := by
  intro u hu
  obtain ⟨r, -, hr⟩ := List.mem_flatMap.1 hu
  simp only [runC, List.mem_cons, List.not_mem_nil, or_false] at hr
  rcases hr with rfl | rfl
  · exact ⟨_, rfl⟩
  · exact ⟨_, rfl⟩
theorem ownT_set1 {w : World} {base g n c k : Nat} {e : TypeId} {xs : List Value} (h : OwnT w base e k isI (.slice (some ⟨g, 0, none⟩) n c) n xs) (j : Nat) (x : Int) :
    OwnT (w.setCell ⟨g, j, none⟩ (.int .i64 x)) base e k isI (.slice (some ⟨g, 0, none⟩) n c) n (xs.set j (.int .i64 x)) := by
  obtain ⟨cur, hb, hg, hc, hm, hl, ht, hty⟩ := h.open
  have hB : Blk w g e cur.toArray := hg
  have hB2 := hB.set_ j (.int .i64 x)
  simp only [List.setIfInBounds_toArray] at hB2
  have := OwnT.close (size := k) (n := n) (c := c) (ok := isI) (cur.set j (.int .i64 x)) hb hB2 hc hm (by rw [List.length_set]; exact hl) (fun i u hu => by
    rcases List.mem_or_eq_of_mem_set (List.mem_of_getElem? hu) with h1 | h1
    · obtain ⟨i2, hi2⟩ := List.mem_iff_getElem?.1 h1
      exact hty i2 u hi2
    · exact ⟨x, h1⟩)
  rw [List.take_set, ht] at this
  exact this
set_option maxHeartbeats 400000 in
theorem clone_pinT (A : Option Addr) (n c B : Nat) (xs : List Value) (w : World) (hr : Reads w B 2 A n xs) (hB : B ≤ w.heap.size) (h1 : ∀ u ∈ xs, u.oneCell' = true) (hno : ∀ u ∈ xs, isI 0 u) (hn : n ≤ 1000000) :
    Calls Tryz.prog 17 #[.slice A n c] w fun e w' => ∃ A' c', e = .returned (.slice A' n c') ∧ OwnT w' w.heap.size 57 2 isI (.slice A' n c') n xs ∧ Below w.heap.size w w' := by
  obtain ⟨i0, hi, hz0, hz1, hz2⟩ := info_parts info_pin
  rcases A with _ | ad
  · have hm : n = 0 := by
      rcases Nat.eq_zero_or_pos n with h0 | h0
      · exact h0
      · obtain ⟨ad, h, _⟩ := hr.2 h0
        cases h
    subst hm
    have hx : xs = [] := List.eq_nil_of_length_eq_zero (by simpa using hr.1)
    subst hx
    have hnil := fun (w : World) => Lib.run_eql_slice_nil (P := Tryz.prog) w 24 57 none 0 c 0 0 Tryz.underlying24
    go_enter Tryz.func17, Tryz.ntmps17
    go_wp2
    go_ret
    exact ⟨none, 0, rfl, OwnT.nil _ _ _ _ _, Below.refl _ _⟩
  · have hnil := fun (w : World) => Lib.run_eql_slice_nil (P := Tryz.prog) w 24 57 (some ad) n c 0 0 Tryz.underlying24
    have hmade : OwnT (w.alloc (.cells #[] 57)) w.heap.size 57 2 isI (.slice (some ⟨w.heap.size, 0, none⟩) 0 0) 0 [] := OwnT.close (w := w.alloc (.cells #[] 57)) (n := 0) (c := 0) (size := 2) [] (Nat.le_refl _) (heap_alloc_new w _) (Nat.le_refl _) (by decide) rfl (by simp)
    go_enter Tryz.func17, Tryz.ntmps17
    go_wp2_with (at_builtin; refine wpList_append_T _ rfl (.tmp 5) (.tmp 6) 24 rfl w.heap.size 57 i0 _ 2 16 Tryz.underlying24 hi hz0 hz1 hz2 rfl (by decide) isI_zero (.slice (some ⟨w.heap.size, 0, none⟩) 0 0) 0 [] rfl hmade B (some ad) n c xs rfl (hr.alloc hB _) h1 (isI_all hno) (by simp [maxLen]; omega) (by omega) (by simp) ?_; rintro v' w1 hown hgr hbl -; obtain ⟨A', c', rfl⟩ := own_slice hown.1)
    go_ret
    exact ⟨A', c', rfl, by simpa using hown, ((Below.refl _ _).alloc (Nat.le_refl _) _).grown hgr (by simp) (by simp [Value.ownBlock])⟩
set_option maxRecDepth 100000 in
set_option maxHeartbeats 1000000 in
theorem insert_endT (base : Nat) (A : Option Addr) (n c : Nat) (xs : List Value) (gv : Nat) (vs : List Value) (w : World)
    (hown : OwnT w base 57 2 isI (.slice A n c) n xs) (hbase : base ≤ w.heap.size) (hn : n ≤ 1000)
    (hv : Blk w gv 57 vs.toArray) (o2 : ∀ u ∈ vs, u.oneCell' = true) (hvl : vs.length = 2) (ov : ∀ u ∈ vs, isI 0 u) :
    Calls Tryz.prog 111 #[.slice A n c, .int .i64 n, .slice (some ⟨gv, 0, none⟩) 1 1] w fun e w' => ∃ A' c', e = .returned (.slice A' (n + 1) c') ∧ OwnT w' base 57 2 isI (.slice A' (n + 1) c') (n + 1) (xs ++ vs) ∧ Below base w w' := by
  obtain ⟨i0, hi, hz0, hz1, hz2⟩ := info_parts info_pin
  have hrv : Reads w w.heap.size 2 (some ⟨gv, 0, none⟩) 1 vs := ⟨by omega, fun _ => ⟨_, rfl, hv.lt, fun j u hj => by
    rw [Addr.add_lit, Nat.zero_add, hv.cell]
    simpa using hj⟩⟩
  clear hv
  rcases A with _ | ad
  · have hm : n = 0 := by
      rcases hown.1.2 with ⟨h2, rfl⟩ | ⟨g, cap, cur, hv, -⟩
      · rfl
      · cases hv
    subst hm
    go_enter Tryz.func111, Tryz.ntmps111
    go_wp2_with (at_builtin; refine wpList_append_T _ rfl (.tmp 23) (.tmp 24) 24 rfl base 57 i0 _ 2 16 Tryz.underlying24 hi hz0 hz1 hz2 rfl (by decide) isI_zero (.slice none 0 c) 0 xs rfl hown w.heap.size (some ⟨gv, 0, none⟩) 1 1 vs rfl hrv o2 (isI_all ov) (by simp [maxLen]) (by omega) hbase ?_; rintro v' w2 hown2 hgr hbl2 -; obtain ⟨A2', c2', rfl⟩ := own_slice hown2.1)
    go_ret
    exact ⟨_, _, rfl, hown2, (Below.refl base w).grown hgr hbase (fun g hg => (hown.1.lt g hg).1)⟩
  · obtain ⟨g, rfl⟩ : ∃ g, ad = ⟨g, 0, none⟩ := by
      rcases hown.1.2 with ⟨h2, -⟩ | ⟨g, cap, cur, hv, -⟩
      · cases h2
      · injection hv with h1 h2 h3; injection h1 with h1; exact ⟨g, h1⟩
    have hnc := own_cap hown.1
    have wn : IntKind.i64.wrap (n : Int) = n := IntWalk.i64_in _ (by omega)
    go_enter Tryz.func111, Tryz.ntmps111
    go_wp2_with (at_builtin; refine wpList_append_T _ rfl (.tmp 23) (.tmp 24) 24 rfl base 57 i0 _ 2 16 Tryz.underlying24 hi hz0 hz1 hz2 rfl (by decide) isI_zero (.slice (some ⟨g, 0, none⟩) n c) n xs rfl hown w.heap.size (some ⟨gv, 0, none⟩) 1 1 vs rfl hrv o2 (isI_all ov) (by simp [maxLen]; omega) (by omega) hbase ?_; rintro v' w2 hown2 hgr hbl2 -; obtain ⟨A2', c2', rfl⟩ := own_slice hown2.1)
    all_goals
      go_ret
      exact ⟨_, _, rfl, hown2, (Below.refl base w).grown hgr hbase (fun g hg => (hown.1.lt g hg).1)⟩
set_option maxRecDepth 100000 in
set_option maxHeartbeats 1000000 in
theorem insert_inT (base g n c i : Nat) (xs : List Value) (gv : Nat) (vs : List Value) (w : World)
    (hown : OwnT w base 57 2 isI (.slice (some ⟨g, 0, none⟩) n c) n xs) (hi : i < n) (hroom : n + 1 ≤ c) (hn : n ≤ 1000)
    (hv : Blk w gv 57 vs.toArray) (hne : gv ≠ g) (o1 : ∀ u ∈ xs, u.oneCell' = true) (o2 : ∀ u ∈ vs, u.oneCell' = true) (hvl : vs.length = 2) (ov : ∀ u ∈ vs, isI 0 u) :
    Calls Tryz.prog 111 #[.slice (some ⟨g, 0, none⟩) n c, .int .i64 i, .slice (some ⟨gv, 0, none⟩) 1 1] w fun e w' => ∃ A' c', e = .returned (.slice A' (n + 1) c') ∧ OwnT w' base 57 2 isI (.slice A' (n + 1) c') (n + 1) (xs.take (i * 2) ++ (vs ++ xs.drop (i * 2))) ∧ Below base w w' := by
  obtain ⟨cur, hbg, hg, hnc, hcm, hcl, htk, hty⟩ := hown.open
  have htc : ∀ u ∈ cur, isI 0 u := fun u hu => by obtain ⟨j, hj⟩ := List.mem_iff_getElem?.1 hu; exact hty j u hj
  have htx : ∀ u ∈ xs, isI 0 u := fun u hu => htc u (by rw [← htk] at hu; exact List.mem_of_mem_take hu)
  have hxl : xs.length = n * 2 := hown.1.1
  obtain ⟨i1, hi1⟩ : ∃ i1, i1 = i + 1 := ⟨_, rfl⟩
  obtain ⟨n1, hn1⟩ : ∃ n1, n1 = n + 1 := ⟨_, rfl⟩
  obtain ⟨T, hT⟩ : ∃ T, T = xs.drop (i * 2) := ⟨_, rfl⟩
  have hTl : T.length = (n - i) * 2 := by rw [hT, List.length_drop, hxl]; omega
  have oT : ∀ u ∈ T, u.oneCell' = true := fun u hu => o1 u (by rw [hT] at hu; exact List.mem_of_mem_drop hu)
  have hTc : ∀ j v, T[j]? = some v → cur[i * 2 + j]? = some v := by
    intro j v hj
    rw [hT, List.getElem?_drop, ← htk, List.getElem?_take] at hj
    split at hj
    · exact hj
    · cases hj
  obtain ⟨Y1, hY1⟩ : ∃ Y1, Y1 = splice cur (i * 2 + 2) T := ⟨_, rfl⟩
  obtain ⟨Y2, hY2⟩ : ∃ Y2, Y2 = splice Y1 (i * 2) vs := ⟨_, rfl⟩
  have hY1l : Y1.length = c * 2 := by rw [hY1, splice_lenP _ _ _ (by omega), hcl]
  have hY2l : Y2.length = c * 2 := by rw [hY2, splice_lenP _ _ _ (by omega), hY1l]
  have hYt : ∀ u ∈ Y2, isI 0 u := by
    rw [hY2, hY1]
    exact splice_ok (splice_ok htc (fun v hv => htx v (by rw [hT] at hv; exact List.mem_of_mem_drop hv))) ov
  have hfin : Y2.take ((n + 1) * 2) = xs.take (i * 2) ++ (vs ++ T) := by
    have := spliceBP cur (i * 2) vs T (by omega)
    rw [hvl, hTl, show i * 2 + 2 + (n - i) * 2 = (n + 1) * 2 by omega, ← hY1, ← hY2] at this
    rw [this, ← htk, List.take_take, Nat.min_eq_left (by omega)]
  rw [← hT, ← hfin]
  obtain ⟨W1, hW1⟩ : ∃ W1, W1 = w.drew.setRow g Y1.toArray := ⟨_, rfl⟩
  have hg1 : W1.heap[g]? = some (.cells Y1.toArray 57 (0, 0)) := by rw [hW1]; exact setRow_heap w.drew g _ _ _ _ hg
  have hcp1 : ∀ ty dc sc, (Builtin.copy_ #[24, 24] ty #[.slice (some ⟨g, i1 * 2, none⟩) (n1 - i1) dc, .slice (some ⟨g, i * 2, none⟩) (n1 - i) sc]).run Tryz.prog w.drew = .ok (goInt (n - i : Nat)) W1 := fun ty dc sc => by
    rw [hW1, hY1]
    have := run_copyK (P := Tryz.prog) w.drew 24 24 ty 57 2 g (i * 2 + 2) (n1 - i1) dc ⟨g, i * 2, none⟩ (n1 - i) sc (n - i) cur 57 T Tryz.underlying24 k_size_pin hg (by simp only [Nat.min_def]; split <;> omega) hTl
      (fun j v hj => by rw [Addr.add_lit, cell_of_row w.drew _ _ _ _ _ hg]; simpa using hTc j v hj) (by omega) oT
    rw [show i1 * 2 = i * 2 + 2 by omega]
    exact this
  obtain ⟨W2, hW2⟩ : ∃ W2, W2 = W1.setRow g Y2.toArray := ⟨_, rfl⟩
  have hg2 : W2.heap[g]? = some (.cells Y2.toArray 57 (0, 0)) := by rw [hW2]; exact setRow_heap W1 g _ _ _ _ hg1
  have hcp2 : ∀ ty dc, (Builtin.copy_ #[24, 24] ty #[.slice (some ⟨g, i * 2, none⟩) (n1 - i) dc, .slice (some ⟨gv, 0, none⟩) 1 1]).run Tryz.prog W1 = .ok (goInt (1 : Nat)) W2 := fun ty dc => by
    rw [hW2, hY2]
    refine run_copyK (P := Tryz.prog) W1 24 24 ty 57 2 g (i * 2) (n1 - i) dc ⟨gv, 0, none⟩ 1 1 1 Y1 57 vs Tryz.underlying24 k_size_pin hg1 (by simp only [Nat.min_def]; split <;> omega) (by omega) (fun j v hj => ?_) (by omega) o2
    rw [Addr.add_lit, Nat.zero_add, hW1, cell_setRow_other _ _ _ _ (by exact hne)]
    have := hv.cell j
    rw [List.getElem?_toArray] at this
    exact this.trans hj
  have hb2 : Below base w W2 := by
    rw [hW2, hW1]
    exact below_setRow (below_setRow (Below.refl base w).drew hbg _) hbg _
  have hown2 : OwnT W2 base 57 2 isI (.slice (some ⟨g, 0, none⟩) (n + 1) c) (n + 1) (Y2.take ((n + 1) * 2)) := OwnT.close Y2 hbg hg2 hroom hcm hY2l (isI_all hYt)
  have hgl : g < w.heap.size := (Array.getElem?_eq_some_iff.1 hg).1
  have hov : ∀ o la lb cb, (callFunc 138 #[.slice (some ⟨gv, 0, none⟩) 1 la, .slice (some ⟨g, o, none⟩) lb cb]).run Tryz.prog w = .ok (.value (.bool false)) w := fun o la lb cb => by
    have hsa : w.shape? gv = some (57, vs.length) := by
      have : w.heap[gv]? = some (.cells vs.toArray 57 (0, 0)) := hv
      simp [World.shape?, this]
    have hsb : w.shape? g = some (57, cur.length) := by simp [World.shape?, hg]
    rw [run_callFunc_extern Tryz.func138 (by kernel_rfl) (by kernel_rfl) (by kernel_rfl) (e := Extern.SlicesOverlaps.overlaps #[24, 24] #[4]) (by kernel_rfl),
      Lib.run_overlaps_apart w 24 4 57 Tryz.underlying24 2 (fun w => by
        obtain ⟨i0, hi, hz0, hz1, hz2⟩ := info_parts info_pin
        simp [sizeOf, typeInfo, hi, hz1]) ⟨gv, 0, none⟩ ⟨g, o, none⟩ 1 la lb cb hne _ _ _ _ hsa hsb (by omega) (hv.frozen 0) (hv.frozen _)]
    rfl
  have wi : IntKind.i64.wrap ((i : Int) + 1) = (i1 : Int) := by rw [IntWalk.i64_in _ (by omega)]; omega
  have wn : IntKind.i64.wrap ((n : Int) + 1) = (n1 : Int) := by rw [IntWalk.i64_in _ (by omega)]; omega
  have q1 : ¬ (i : Int) = n := by omega
  have q2 : i ≤ n := by omega
  have q3 : ¬ c = i := by omega
  have q4 : i1 ≤ n1 := by omega
  have q5 : ¬ c = i1 := by omega
  have q6 : n1 ≤ c := by omega
  have q7 : i ≤ n1 := by omega
  have q8 : decide ((c : Int) < n1) = false := decide_eq_false (by omega)
  have q9 : decide (c < n1) = false := decide_eq_false (by omega)
  have q10 : ((i : Int) == n) = false := by simp; omega
  have q11 : (i == n) = false := by simp; omega
  rw [← hn1] at hown2
  rw [← hn1]
  have HO := Lib.hid hown2
  have HB := Lib.hid hb2
  have HC1 := Lib.hid hcp1
  have HC2 := Lib.hid hcp2
  clear htc htx hty hYt hi1 hn1 hown2 hb2 hcp1 hcp2 hfin hY2 hY1 hTc hTl hT htk hg1 hg2 hW1 hW2
  go_enter Tryz.func111, Tryz.ntmps111
  go_wp2_with (simp only [hov])
  go_region_law (refine step_copy_run rfl (.tmp 73) (.tmp 76) 24 24 rfl (.slice (some ⟨g, i1 * 2, none⟩) (n1 - i1) (c - i1)) (.slice (some ⟨g, i * 2, none⟩) (n1 - i) (c - i)) (by simp [Act.eval, Act.put]) (by simp [Act.eval, Act.put]) (HC1.out _ _ _) ?_)
  all_goals
    go_wp2_with (refine wpList_copy_run _ rfl (.tmp 80) (.tmp 81) 24 24 rfl (.slice (some ⟨g, i * 2, none⟩) (n1 - i) (c - i)) (.slice (some ⟨gv, 0, none⟩) 1 1) rfl rfl (HC2.out _ _) ?_)
    go_ret
    exact ⟨_, _, rfl, HO.out, HB.out⟩
set_option maxRecDepth 100000 in
set_option maxHeartbeats 1000000 in
theorem insert_growT (base g n c i : Nat) (xs : List Value) (gv : Nat) (vs : List Value) (w : World)
    (hown : OwnT w base 57 2 isI (.slice (some ⟨g, 0, none⟩) n c) n xs) (hbase : base ≤ w.heap.size) (hi : i < n) (hroom : c < n + 1) (hn : n ≤ 1000)
    (hv : Blk w gv 57 vs.toArray) (o1 : ∀ u ∈ xs, u.oneCell' = true) (o2 : ∀ u ∈ vs, u.oneCell' = true) (hvl : vs.length = 2) (ov : ∀ u ∈ vs, isI 0 u) :
    Calls Tryz.prog 111 #[.slice (some ⟨g, 0, none⟩) n c, .int .i64 i, .slice (some ⟨gv, 0, none⟩) 1 1] w fun e w' => ∃ A' c', e = .returned (.slice A' (n + 1) c') ∧ OwnT w' base 57 2 isI (.slice A' (n + 1) c') (n + 1) (xs.take (i * 2) ++ (vs ++ xs.drop (i * 2))) ∧ Below base w w' := by
  obtain ⟨cur, hbg, hg, hnc, hcm, hcl, htk, hty⟩ := hown.open
  have htc : ∀ u ∈ cur, isI 0 u := fun u hu => by obtain ⟨j, hj⟩ := List.mem_iff_getElem?.1 hu; exact hty j u hj
  have htx : ∀ u ∈ xs, isI 0 u := fun u hu => htc u (by rw [← htk] at hu; exact List.mem_of_mem_take hu)
  obtain rfl : c = n := by omega
  obtain ⟨i0, hi0, hz0, hz1, hz2⟩ := info_parts info_pin
  have hxl : xs.length = c * 2 := hown.1.1
  obtain rfl : cur = xs := by rw [← htk, List.take_of_length_le (by omega)]
  obtain ⟨i1, hi1⟩ : ∃ i1, i1 = i + 1 := ⟨_, rfl⟩
  obtain ⟨n1, hn1⟩ : ∃ n1, n1 = c + 1 := ⟨_, rfl⟩
  obtain ⟨k, hk⟩ : ∃ k, k = n1 - i := ⟨_, rfl⟩
  obtain ⟨T, hT⟩ : ∃ T, T = cur.drop (i * 2) := ⟨_, rfl⟩
  have hTl : T.length = (c - i) * 2 := by rw [hT, List.length_drop, hxl]; omega
  have oT : ∀ u ∈ T, u.oneCell' = true := fun u hu => o1 u (by rw [hT] at hu; exact List.mem_of_mem_drop hu)
  have hTc : ∀ j v, T[j]? = some v → cur[i * 2 + j]? = some v := by
    intro j v hj
    rw [hT, List.getElem?_drop] at hj
    exact hj
  obtain ⟨O, hO⟩ : ∃ O, O = cur.take (i * 2) := ⟨_, rfl⟩
  have hOl : O.length = i * 2 := by rw [hO, List.length_take]; omega
  have hold : (Builtin.firstCells i0.size i (.slice (some ⟨g, 0, none⟩) i c)).run Tryz.prog w.drew = .ok O.toArray w.drew := by
    rw [hz1]
    refine run_firstK w.drew 2 i ⟨g, 0, none⟩ i c O hOl (fun j v hj => ?_)
    rw [Addr.add_lit, Nat.zero_add, cell_of_row w.drew _ _ _ _ _ hg, List.getElem?_toArray]
    rw [hO, List.getElem?_take] at hj
    split at hj
    · exact hj
    · cases hj
  have hik : i + k = n1 := by omega
  have hgr := fun ty => Lib.run_append_grow_zeros (P := Tryz.prog) w 24 3 ty 57 i0 _ .i64 .i64 Tryz.underlying24 Tryz.underlying3 hi0 hz0 (some ⟨g, 0, none⟩) i c O hold k (by omega) (by rw [hz1]; decide) (by omega) (by omega) (by rw [hz2]; omega)
    (by rw [hz2]; exact growslice_fits (by omega) (by omega))
  rw [hik] at hgr
  obtain ⟨cap, hcap, hc1, hc2⟩ : ∃ cap, cap = grownCap w n1 c 57 ∧ n1 ≤ cap ∧ cap ≤ maxLen := ⟨_, rfl, grownCap_ge .., grownCap_le_maxLen _ _ _ _ (by unfold maxLen; omega)⟩
  rw [← hcap] at hgr
  obtain ⟨Z, hZ⟩ : ∃ Z : Array Value, Z = O.toArray ++ Builtin.zeroCells (Value.agg #[.int .i64 0, .int .i64 0]).cells k ++ Builtin.zeroCells (Value.agg #[.int .i64 0, .int .i64 0]).cells (cap - n1) := ⟨_, rfl⟩
  have hZs : Z.size = cap * 2 := by
    rw [hZ, Array.size_append, Array.size_append, size_zeroCells, size_zeroCells]
    have : (Value.agg #[.int .i64 0, .int .i64 0]).cells.size = 2 := rfl
    rw [this, List.size_toArray, hOl]; omega
  have hZt : ∀ u ∈ Z.toList, isI 0 u := by
    have hz : ∀ (m : Nat) (u : Value), u ∈ (Builtin.zeroCells (Value.agg #[.int .i64 0, .int .i64 0]).cells m).toList → isI 0 u := fun m u hu => by
      obtain ⟨j, hj⟩ := List.mem_iff_getElem?.1 hu
      exact mod_zeros isI_zero m j u (by simpa using hj)
    intro u hu
    rw [hZ, Array.toList_append, Array.toList_append] at hu
    rcases List.mem_append.1 hu with hu | hu
    · rcases List.mem_append.1 hu with hu | hu
      · exact htc u (by rw [hO] at hu; exact List.mem_of_mem_take (by simpa using hu))
      · exact hz _ u hu
    · exact hz _ u hu
  rw [← hZ] at hgr
  have hZO : Z.toList.take (i * 2) = O := by
    rw [hZ, Array.append_assoc, Array.toList_append, List.take_append_of_le_length (by simp; omega), List.take_of_length_le (by simp; omega)]
  obtain ⟨gN, hgN⟩ : ∃ gN, gN = w.heap.size := ⟨_, rfl⟩
  rw [← hgN] at hgr
  obtain ⟨W0, hW0⟩ : ∃ W0, W0 = w.drew.alloc (.cells Z 57) := ⟨_, rfl⟩
  have hg0 : W0.heap[gN]? = some (.cells Z.toList.toArray 57 (0, 0)) := by rw [hW0, hgN, Array.toArray_toList]; exact heap_alloc_new w.drew _
  have hb0 : Below base w W0 := by rw [hW0]; exact (Below.refl base w).drew.alloc hbase _
  have hgl : g < w.heap.size := (Array.getElem?_eq_some_iff.1 hg).1
  have hgo : W0.heap[g]? = some (.cells cur.toArray 57 (0, 0)) := by rw [hW0]; exact (Below.heap_alloc w.drew _ g hgl).trans hg
  have hvo : W0.heap[gv]? = some (.cells vs.toArray 57 (0, 0)) := by rw [hW0]; exact (Below.heap_alloc w.drew _ gv hv.lt).trans hv
  have hvl0 := hv.lt
  rw [← hW0] at hgr
  obtain ⟨Y1, hY1⟩ : ∃ Y1, Y1 = splice Z.toList (i * 2) vs := ⟨_, rfl⟩
  obtain ⟨Y2, hY2⟩ : ∃ Y2, Y2 = splice Y1 (i * 2 + 2) T := ⟨_, rfl⟩
  have hZl : Z.toList.length = cap * 2 := by simpa using hZs
  have hY1l : Y1.length = cap * 2 := by rw [hY1, splice_lenP _ _ _ (by omega), hZl]
  have hY2l : Y2.length = cap * 2 := by rw [hY2, splice_lenP _ _ _ (by omega), hY1l]
  have hYt : ∀ u ∈ Y2, isI 0 u := by
    rw [hY2, hY1]
    exact splice_ok (splice_ok hZt ov) (fun v hv => htc v (by rw [hT] at hv; exact List.mem_of_mem_drop hv))
  have hfin : Y2.take (n1 * 2) = cur.take (i * 2) ++ (vs ++ T) := by
    have := spliceAP Z.toList (i * 2) vs T (by omega)
    rw [hvl, hTl, show i * 2 + 2 + (c - i) * 2 = n1 * 2 by omega, ← hY1, ← hY2, hZO, hO] at this
    exact this
  rw [← hT, ← hfin]
  obtain ⟨W1, hW1⟩ : ∃ W1, W1 = W0.setRow gN Y1.toArray := ⟨_, rfl⟩
  have hg1 : W1.heap[gN]? = some (.cells Y1.toArray 57 (0, 0)) := by rw [hW1]; exact setRow_heap W0 gN _ _ _ _ hg0
  have hcp1 : ∀ ty dc, (Builtin.copy_ #[24, 24] ty #[.slice (some ⟨gN, i * 2, none⟩) (n1 - i) dc, .slice (some ⟨gv, 0, none⟩) 1 1]).run Tryz.prog W0 = .ok (goInt (1 : Nat)) W1 := fun ty dc => by
    rw [hW1, hY1]
    refine run_copyK (P := Tryz.prog) W0 24 24 ty 57 2 gN (i * 2) (n1 - i) dc ⟨gv, 0, none⟩ 1 1 1 Z.toList 57 vs Tryz.underlying24 k_size_pin hg0 (by simp only [Nat.min_def]; split <;> omega) (by omega) (fun j v hj => ?_) (by omega) o2
    rw [Addr.add_lit, Nat.zero_add, cell_of_row W0 _ _ _ _ _ hvo]
    simpa using hj
  obtain ⟨W2, hW2⟩ : ∃ W2, W2 = W1.drew.setRow gN Y2.toArray := ⟨_, rfl⟩
  have hg2 : W2.heap[gN]? = some (.cells Y2.toArray 57 (0, 0)) := by rw [hW2]; exact setRow_heap W1.drew gN _ _ _ _ hg1
  have hgo1 : W1.heap[g]? = some (.cells cur.toArray 57 (0, 0)) := by rw [hW1, setRow_other _ _ _ _ (by omega)]; exact hgo
  have hcp2 : ∀ ty dc sc, (Builtin.copy_ #[24, 24] ty #[.slice (some ⟨gN, i1 * 2, none⟩) (n1 - i1) dc, .slice (some ⟨g, i * 2, none⟩) (c - i) sc]).run Tryz.prog W1.drew = .ok (goInt (c - i : Nat)) W2 := fun ty dc sc => by
    rw [hW2, hY2]
    have := run_copyK (P := Tryz.prog) W1.drew 24 24 ty 57 2 gN (i * 2 + 2) (n1 - i1) dc ⟨g, i * 2, none⟩ (c - i) sc (c - i) Y1 57 T Tryz.underlying24 k_size_pin hg1 (by simp only [Nat.min_def]; split <;> omega) hTl
      (fun j v hj => by rw [Addr.add_lit, cell_of_row W1.drew _ _ _ _ _ hgo1]; simpa using hTc j v hj) (by omega) oT
    rw [show i1 * 2 = i * 2 + 2 by omega]
    exact this
  have hbgN : base ≤ gN := by omega
  have hb2 : Below base w W2 := by
    rw [hW2, hW1]
    exact below_setRow (below_setRow hb0 hbgN _).drew hbgN _
  have hown2 : OwnT W2 base 57 2 isI (.slice (some ⟨gN, 0, none⟩) n1 cap) n1 (Y2.take (n1 * 2)) := OwnT.close Y2 hbgN hg2 hc1 hc2 hY2l (isI_all hYt)
  have wi : IntKind.i64.wrap ((i : Int) + 1) = (i1 : Int) := by rw [IntWalk.i64_in _ (by omega)]; omega
  have wn : IntKind.i64.wrap ((c : Int) + 1) = (n1 : Int) := by rw [IntWalk.i64_in _ (by omega)]; omega
  have wk : IntKind.i64.wrap ((n1 : Int) - i) = (k : Int) := by rw [IntWalk.i64_in _ (by omega)]; omega
  have q1 : ¬ (i : Int) = c := by omega
  have q2 : i ≤ c := by omega
  have q3 : ¬ c = i := by omega
  have q4 : i1 ≤ n1 := by omega
  have q5 : ¬ cap = i1 := by omega
  have q7 : i ≤ n1 := by omega
  have q12 : ¬ cap = i := by omega
  have q8 : decide ((c : Int) < n1) = true := decide_eq_true (by omega)
  have q9 : decide (c < n1) = true := decide_eq_true (by omega)
  have q10 : ((i : Int) == c) = false := by simp; omega
  have q11 : (i == c) = false := by simp; omega
  rw [← hn1]
  have HO := Lib.hid hown2
  have HB := Lib.hid hb2
  have HC1 := Lib.hid hcp1
  have HC2 := Lib.hid hcp2
  have HG := Lib.hid hgr
  clear htc htx hty hYt hZt hi1 hn1 hown2 hb2 hcp1 hcp2 hgr hfin hY2 hY1 hTc hTl hT hg1 hg2 hW1 hW2 hW0 hZl hZs hZO hZ hO hold hk hik hcap hgN hgo hgo1 hvo hown htk hg hg0
  go_enter Tryz.func111, Tryz.ntmps111
  go_wp2_with (first | (at_builtin; refine Lib.wpList_append_run _ rfl (.tmp 34) (.tmp 39) 24 3 rfl (.slice (some ⟨g, 0, none⟩) i c) (.int .i64 k) rfl rfl _ _ (HG.out _) ?_) | (refine wpList_copy_run _ rfl (.tmp 43) (.tmp 44) 24 24 rfl (.slice (some ⟨gN, i * 2, none⟩) (n1 - i) (cap - i)) (.slice (some ⟨gv, 0, none⟩) 1 1) rfl rfl (HC1.out _ _) ?_))
  go_region_law (refine step_copy_run rfl (.tmp 50) (.tmp 53) 24 24 rfl (.slice (some ⟨gN, i1 * 2, none⟩) (n1 - i1) (cap - i1)) (.slice (some ⟨g, i * 2, none⟩) (c - i) (c - i)) (by simp [Act.eval, Act.put]) (by simp [Act.eval, Act.put]) (HC2.out _ _ _) ?_)
  all_goals
    go_wp2
    go_ret
    exact ⟨_, _, rfl, HO.out, HB.out⟩
theorem insert_pinT (base : Nat) (A : Option Addr) (n c i : Nat) (xs : List Value) (gv : Nat) (vs : List Value) (w : World)
    (hown : OwnT w base 57 2 isI (.slice A n c) n xs) (hbase : base ≤ w.heap.size) (hi : i ≤ n) (hn : n ≤ 1000)
    (hv : Blk w gv 57 vs.toArray) (hne : (Value.slice A n c).ownBlock ≠ some gv) (o1 : ∀ u ∈ xs, u.oneCell' = true) (o2 : ∀ u ∈ vs, u.oneCell' = true) (hvl : vs.length = 2) (ov : ∀ u ∈ vs, isI 0 u) :
    Calls Tryz.prog 111 #[.slice A n c, .int .i64 i, .slice (some ⟨gv, 0, none⟩) 1 1] w fun e w' => ∃ A' c', e = .returned (.slice A' (n + 1) c') ∧ OwnT w' base 57 2 isI (.slice A' (n + 1) c') (n + 1) (xs.take (i * 2) ++ (vs ++ xs.drop (i * 2))) ∧ Below base w w' := by
  have hxl : xs.length = n * 2 := hown.1.1
  by_cases hin : i = n
  · subst hin
    rw [List.take_of_length_le (by omega), List.drop_of_length_le (by omega), List.append_nil]
    exact insert_endT base A i c xs gv vs w hown hbase hn hv o2 hvl ov
  · obtain ⟨g, rfl⟩ : ∃ g, A = some ⟨g, 0, none⟩ := by
      rcases hown.1.2 with ⟨h2, h3⟩ | ⟨g, cap, cur, hv, -⟩
      · omega
      · injection hv with h1 h2 h3; exact ⟨g, h1⟩
    by_cases hr : n + 1 ≤ c
    · exact insert_inT base g n c i xs gv vs w hown (by omega) hr hn hv (fun h => hne (by rw [h]; rfl)) o1 o2 hvl ov
    · exact insert_growT base g n c i xs gv vs w hown hbase (by omega) (by omega) hn hv o1 o2 hvl ov
set_option maxRecDepth 100000 in
set_option maxHeartbeats 1000000 in
theorem delete_pinT (base : Nat) (A : Option Addr) (n c i : Nat) (xs : List Value) (w : World)
    (hown : OwnT w base 57 2 isI (.slice A n c) n xs) (hi : i < n) (hn : n ≤ 1000) (o1 : ∀ u ∈ xs, u.oneCell' = true) :
    Calls Tryz.prog 112 #[.slice A n c, .int .i64 i, .int .i64 ((i + 1 : Nat) : Int)] w fun e w' => ∃ A' c', e = .returned (.slice A' (n - 1) c') ∧ OwnT w' base 57 2 isI (.slice A' (n - 1) c') (n - 1) (xs.take (i * 2) ++ xs.drop ((i + 1) * 2)) ∧ Below base w w' := by
  obtain ⟨g, rfl⟩ : ∃ g, A = some ⟨g, 0, none⟩ := by
    rcases hown.1.2 with ⟨h2, h3⟩ | ⟨g, cap, cur, hv, -⟩
    · omega
    · injection hv with h1 h2 h3; exact ⟨g, h1⟩
  obtain ⟨cur, hbg, hg, hnc, hcm, hcl, htk, hty⟩ := hown.open
  have htc : ∀ u ∈ cur, isI 0 u := fun u hu => by obtain ⟨j, hj⟩ := List.mem_iff_getElem?.1 hu; exact hty j u hj
  have htx : ∀ u ∈ xs, isI 0 u := fun u hu => htc u (by rw [← htk] at hu; exact List.mem_of_mem_take hu)
  have hxl : xs.length = n * 2 := hown.1.1
  obtain ⟨i1, hi1⟩ : ∃ i1, i1 = i + 1 := ⟨_, rfl⟩
  obtain ⟨n1, hn1⟩ : ∃ n1, n1 = n - 1 := ⟨_, rfl⟩
  obtain ⟨m, hm⟩ : ∃ m, m = n - i1 := ⟨_, rfl⟩
  obtain ⟨T, hT⟩ : ∃ T, T = xs.drop (i1 * 2) := ⟨_, rfl⟩
  have hTl : T.length = m * 2 := by rw [hT, List.length_drop, hxl]; omega
  have oT : ∀ u ∈ T, u.oneCell' = true := fun u hu => o1 u (by rw [hT] at hu; exact List.mem_of_mem_drop hu)
  have hTc : ∀ j v, T[j]? = some v → cur[i1 * 2 + j]? = some v := by
    intro j v hj
    rw [hT, List.getElem?_drop, ← htk, List.getElem?_take] at hj
    split at hj
    · exact hj
    · cases hj
  obtain ⟨Y1, hY1⟩ : ∃ Y1, Y1 = splice cur (i * 2) T := ⟨_, rfl⟩
  obtain ⟨Y2, hY2⟩ : ∃ Y2 : List Value, Y2 = splice Y1 (n1 * 2) [.int .i64 0, .int .i64 0] := ⟨_, rfl⟩
  have hY1l : Y1.length = c * 2 := by rw [hY1, splice_lenP _ _ _ (by omega), hcl]
  have hY2l : Y2.length = c * 2 := by rw [hY2, splice_lenP _ _ _ (by simp; omega), hY1l]
  have hYt : ∀ u ∈ Y2, isI 0 u := by
    rw [hY2, hY1]
    refine splice_ok (splice_ok htc (fun v hv => htx v (by rw [hT] at hv; exact List.mem_of_mem_drop hv))) (fun u hu => ?_)
    simp only [List.mem_cons, List.not_mem_nil, or_false, or_self] at hu
    exact ⟨0, hu⟩
  have hfin : Y2.take (n1 * 2) = xs.take (i * 2) ++ T := by
    have h1 : Y2.take (n1 * 2) = Y1.take (n1 * 2) := by
      rw [hY2]
      unfold splice
      rw [List.take_append_of_le_length (by simp; omega), List.take_take, Nat.min_self]
    have h2 := take_preP cur (i * 2) T (by omega)
    rw [hTl, show i * 2 + m * 2 = n1 * 2 by omega, ← hY1] at h2
    rw [h1, h2, ← htk, List.take_take, Nat.min_eq_left (by omega)]
  rw [← hi1, ← hT, ← hfin]
  obtain ⟨W1, hW1⟩ : ∃ W1, W1 = w.drew.setRow g Y1.toArray := ⟨_, rfl⟩
  have hg1 : W1.heap[g]? = some (.cells Y1.toArray 57 (0, 0)) := by rw [hW1]; exact setRow_heap w.drew g _ _ _ _ hg
  have hap : ∀ ty ad sc, (m = 0 ∨ ad = ⟨g, i1 * 2, none⟩) → (Builtin.append_ #[24, 24] ty #[.slice (some ⟨g, 0, none⟩) i c, .slice (some ad) (n - i1) sc]).run Tryz.prog w.drew = .ok (.slice (some ⟨g, 0, none⟩) n1 c) W1 := fun ty ad sc had => by
    rw [hW1, hY1, ← hm]
    have := run_appendK (P := Tryz.prog) w.drew 24 ty 57 2 g i c ad m sc cur 57 T Tryz.underlying24 k_size_pin hg hTl
      (fun j v hj => by
        rcases had with h0 | rfl
        · have := (List.getElem?_eq_some_iff.1 hj).1
          omega
        · rw [Addr.add_lit, cell_of_row w.drew _ _ _ _ _ hg]; simpa using hTc j v hj) (by omega) (by omega) oT
    rw [show n1 = i + m by omega]
    exact this
  obtain ⟨W2, hW2⟩ : ∃ W2, W2 = W1.setRow g Y2.toArray := ⟨_, rfl⟩
  have hg2 : W2.heap[g]? = some (.cells Y2.toArray 57 (0, 0)) := by rw [hW2]; exact setRow_heap W1 g _ _ _ _ hg1
  have hcp2 : ∀ ty dc, (Builtin.clear_ #[24] ty #[.slice (some ⟨g, n1 * 2, none⟩) (n - n1) dc]).run Tryz.prog W1 = .ok (.tuple #[]) W2 := fun ty dc => by
    rw [hW2, hY2]
    exact run_clearK (P := Tryz.prog) W1 24 ty 57 2 g (n1 * 2) (n - n1) dc Y1 57 _ _ Tryz.underlying24 k_zero_pin (by rw [show n - n1 = 1 by omega]; exact zero_pin1) hg1 (by omega) (by simp; omega) (by decide)
  have hb2 : Below base w W2 := by
    rw [hW2, hW1]
    exact below_setRow (below_setRow (Below.refl base w).drew hbg _) hbg _
  have hown2 : OwnT W2 base 57 2 isI (.slice (some ⟨g, 0, none⟩) n1 c) n1 (Y2.take (n1 * 2)) := OwnT.close Y2 hbg hg2 (by omega) hcm hY2l (isI_all hYt)
  have q1 : ((i : Int) == i1) = false := by simp; omega
  have q11 : (i == i1) = false := by simp; omega
  have q2 : i ≤ n := by omega
  have q3 : ¬ c = i := by omega
  have q4 : i1 ≤ n := by omega
  have q5 : i ≤ i1 := by omega
  have q6 : ¬ c = n1 := by omega
  have q7 : n1 ≤ n := by omega
  have q8 : i ≤ c := by omega
  have q9 : n ≤ c := by omega
  have q10 : i1 ≤ c := by omega
  have q12 : ¬ n = i := by omega
  rw [← hn1]
  have HO := Lib.hid hown2
  have HB := Lib.hid hb2
  have HAp := Lib.hid hap
  have HC2 := Lib.hid hcp2
  by_cases hci : c = i1
  · have hcn : n = i1 := by omega
    have hm0 : m = 0 := by omega
    clear htc htx hty hYt hi1 hn1 hown2 hb2 hcp2 hap hfin hY2 hY1 hTc hTl hT htk hg1 hg2 hW1 hW2 hm hg hown
    subst hcn
    obtain rfl : c = n := hci
    have ha0 := Lib.hid (fun ty => HAp.out ty ⟨g, 0, none⟩ (c - c) (.inl hm0))
    rw [Nat.sub_self] at ha0
    go_enter Tryz.func112, Tryz.ntmps112
    go_wp2
    go_region_law (refine step_append_run rfl (.tmp 22) (.tmp 25) 24 24 rfl (.slice (some ⟨g, 0, none⟩) i c) (.slice (some ⟨g, 0, none⟩) 0 0) (by simp [Act.eval, Act.put]) (by simp [Act.eval, Act.put]) (ha0.out _) ?_)
    all_goals
      go_wp2_with (refine wpList_clear_run _ rfl (.tmp 31) 24 rfl (.slice (some ⟨g, n1 * 2, none⟩) (c - n1) (c - n1)) rfl (HC2.out _ _) ?_)
      go_ret
      exact ⟨_, _, rfl, HO.out, HB.out⟩
  · clear htc htx hty hYt hi1 hn1 hown2 hb2 hcp2 hap hfin hY2 hY1 hTc hTl hT htk hg1 hg2 hW1 hW2 hm hg hown
    go_enter Tryz.func112, Tryz.ntmps112
    go_wp2
    go_region_law (refine step_append_run rfl (.tmp 22) (.tmp 25) 24 24 rfl (.slice (some ⟨g, 0, none⟩) i c) (.slice (some ⟨g, i1 * 2, none⟩) (n - i1) (c - i1)) (by simp [Act.eval, Act.put]) (by simp [Act.eval, Act.put]) (HAp.out _ _ _ (.inr rfl)) ?_)
    all_goals
      go_wp2_with (refine wpList_clear_run _ rfl (.tmp 31) 24 rfl (.slice (some ⟨g, n1 * 2, none⟩) (n - n1) (c - n1)) rfl (HC2.out _ _) ?_)
      go_ret
      exact ⟨_, _, rfl, HO.out, HB.out⟩
def PinResT (base : Nat) (l : List Rn) (v : Int) (e : Ending) (w : World) : Prop :=
  ∃ (A : Option Addr) (c : Nat), e = .returned (.tuple #[.slice A l.length c, .int .i64 v, .int .i64 0]) ∧ OwnT w base 57 2 isI (.slice A l.length c) l.length (runsC l)
set_option maxRecDepth 100000 in
set_option maxHeartbeats 2000000 in
theorem paddT_all (A : Option Addr) (n c : Nat) (l : List Rn) (x : Int) (w : World) (hr : Reads w w.heap.size 2 A n (runsC l)) (hn : n ≤ 1000000000000000000) :
    Calls Tryz.prog 77 #[.slice A n c, .int .i64 x] w fun e w' => Below w.heap.size w w' ∧
      ((findE l x = 0 ∧ ∃ i : Nat, PlaceOf l x i ∧ countP l x < 1000000 ∧ (hasAt l x i = true ∨ l.length < 16) ∧ PinResT w.heap.size (moreP l x i (countP l x + 1)) (countP l x + 1) e w') ∨
       (¬ (findE l x = 0 ∧ ∃ i : Nat, PlaceOf l x i ∧ countP l x < 1000000 ∧ (hasAt l x i = true ∨ l.length < 16)) ∧ ∃ er : Int, (er != 0) = true ∧ er = addE l x ∧ e = .returned (.tuple #[.slice none 0 0, .int .i64 0, .int .i64 er]))) := by
  have hl : l.length = n := by have := hr.1; rw [runsC_length] at this; omega
  have HL := Lib.hid hl
  have H := Lib.hid (pfind_any A n c l x w hr hn)
  clear hl
  go_enter Tryz.func77, Tryz.ntmps77
  go_wp2_with fail
  refine H.out.mono ?_
  rintro e w1 ⟨hb1, ⟨hF, i, hi, rfl⟩ | ⟨hF, rfl⟩⟩
  · have hok := (findE_zero.1 hF).1
    have HOK := Lib.hid hok
    have HF := Lib.hid hF
    have HI := Lib.hid hi
    have hn16 : n ≤ 16 := by have := hok.len; have := HL.out; omega
    have hin0 : i ≤ n := by have := hi.le; have := HL.out; omega
    cases hh : hasAt l x i
    · have HH := Lib.hid hh
      have HV : Hid (countP l x = 0) := countP_none (place_none hok.rise hi hh)
      by_cases h16 : n = 16
      · have g1 : (n == 16) = true := by simp [h16]
        have g1' : ((n : Int) == 16) = true := by simp [h16]
        have HN : Hid (¬ (findE l x = 0 ∧ ∃ i : Nat, PlaceOf l x i ∧ countP l x < 1000000 ∧ (hasAt l x i = true ∨ l.length < 16))) := by
          rintro ⟨-, j, hj, -, hj2⟩
          rw [hj.unique hi, hh] at hj2
          have := HL.out
          rcases hj2 with h | h
          · cases h
          · omega
        clear hF hok hi hh h16
        go_wp2
        go_ret3
        exact ⟨hb1, .inr ⟨HN.out, 7, rfl, by unfold addE; rw [if_neg (by simp [HF.out])], rfl⟩⟩
      · have g1 : (n == 16) = false := by simp [h16]
        have g1' : ((n : Int) == 16) = false := by simp; omega
        have hn15 : n < 16 := by omega
        clear hF hok hi hh h16
        go_wp2_with fail
        refine (clone_pinT A n c _ (runsC l) _ (hr.below hb1) hb1.size (runsC_one l) (isI_runs l) (by omega)).mono ?_
        rintro e w2 ⟨A2, c2, rfl, hown2, hb2⟩
        have hbv := below_new w2 (.cells #[.int .i64 x, .int .i64 0] 57)
        have D0 := Blk.new w2 57 #[.int .i64 x, .int .i64 0]
        have hown3 := hown2.alloc (.cells #[.int .i64 x, .int .i64 0] 57)
        have hne : (Value.slice A2 n c2).ownBlock ≠ some w2.heap.size := fun h => by have := (hown2.1.lt _ h).2; omega
        have hsz := hb2.size
        have HIn := Lib.hid (insert_pinT w1.heap.size A2 n c2 i (runsC l) w2.heap.size [.int .i64 x, .int .i64 0] _ hown3 (by rw [World.size_alloc]; omega) hin0 (by omega) D0 hne (runsC_one l) (by simp [Value.oneCell']) rfl (isI_runs [⟨x, 0⟩]))
        have hb12 := below_step hb1 hb2
        have hb13 := below_step hb12 hbv
        have hbw13 := hb2.trans (hbv.mono hb2.size)
        clear hown2 hown3 hne D0
        go_wp2_with fail
        refine HIn.out.mono ?_
        rintro e w4 ⟨A4, c4, rfl, hown4, hb4⟩
        have hbw4 := hbw13.trans hb4
        have hb04 := below_step hb1 hbw4
        have hcs : (runsC l).take (i * 2) ++ ([.int .i64 x, .int .i64 0] ++ (runsC l).drop (i * 2)) = runsC (l.take i ++ ⟨x, 0⟩ :: l.drop i) := by
          rw [runsC_take, runsC_drop, runsC_append]; rfl
        rw [hcs] at hown4
        obtain ⟨g, rfl⟩ : ∃ g, A4 = some ⟨g, 0, none⟩ := by
          rcases hown4.1.2 with ⟨h2, h3⟩ | ⟨g, cap, cur, hv, -⟩
          · injection h2 with _ h4; omega
          · injection hv with h1 h2 h3; exact ⟨g, h1⟩
        have hlt : (l.take i).length = i := by rw [List.length_take]; have := HL.out; omega
        have hget : (l.take i ++ ⟨x, 0⟩ :: l.drop i)[i]? = some ⟨x, 0⟩ := by rw [List.getElem?_append_right (by omega), hlt, Nat.sub_self]; rfl
        obtain ⟨n1, hn1⟩ : ∃ n1, n1 = n + 1 := ⟨_, rfl⟩
        rw [← hn1] at hown4 ⊢
        have hin1 : i < n1 := by omega
        obtain ⟨ad, z, e3, had, hz, c0, c1⟩ := (Reads.of_own hown4.1).run hin1
        injection e3 with e3
        subst e3
        obtain rfl : ⟨x, 0⟩ = z := Option.some.inj (hget.symm.trans hz)
        rw [Addr.add_lit, Nat.zero_add] at c0 c1
        dsimp only at c0 c1
        obtain ⟨cur, -, hgh, -⟩ := own_open hown4.1
        have BG : Blk w4 g 57 cur.toArray := hgh
        have f1 := BG.frozen (i * 2 + 1)
        have hgb := (hown4.1.lt g rfl).1
        have hown5 := ownT_set1 hown4 (i * 2 + 1) 1
        rw [runsC_set _ _ _ _ hget] at hown5
        have hset : (l.take i ++ ⟨x, 0⟩ :: l.drop i).set i ⟨x, 1⟩ = moreP l x i (countP l x + 1) := by
          unfold moreP
          rw [HH.out, if_neg (by decide), HV.out]
          rw [List.set_append_right _ _ (by omega), hlt, Nat.sub_self]
          rfl
        dsimp only at hown5
        rw [hset] at hown5
        have HO5 := Lib.hid ((hown5.mono hb1.size))
        have hb05 := hb04.setCell (p := ⟨g, i * 2 + 1, none⟩) (by dsimp only; have := hb1.size; omega) (.int .i64 1)
        have HML : Hid ((moreP l x i (countP l x + 1)).length = n1) := by
          show _ = _
          rw [← hset, List.length_set, List.length_append, List.length_cons, hlt, List.length_drop]
          have := HL.out
          omega
        have p1 : (w4.setCell ⟨g, i * 2 + 1, none⟩ (.int .i64 1)).cell? ⟨g, i * 2 + 1, none⟩ = some (.int .i64 1) := by
          have hB2 := BG.set_ (i * 2 + 1) (.int .i64 1)
          have h2 := hB2.cell (i * 2 + 1)
          rw [h2]
          have h3 := BG.cell (i * 2 + 1)
          rw [c1] at h3
          have h4 := (Array.getElem?_eq_some_iff.1 h3.symm).1
          rw [Array.getElem?_setIfInBounds_self_of_lt h4]
        have w11 : IntKind.i64.wrap ((0 : Int) + 1) = 1 := by decide
        clear hcs hown4 hgh BG hget hset hown5 hlt hz hn1
        go_wp2
        go_quiet (fail)
        go_wp2
        go_ret3
        refine ⟨below_drewN hb05 _, .inl ⟨HF.out, i, HI.out, by rw [HV.out]; omega, .inr (by rw [HL.out]; exact hn15), some ⟨g, 0, none⟩, c4, ?_, ?_⟩⟩
        · rw [HML.out, HV.out]; rfl
        · rw [HML.out]
          have := HO5.out
          exact this
    · obtain ⟨y, hy, hyx⟩ := hasAt_some hh
      have HH := Lib.hid hh
      have hym := List.mem_of_getElem? hy
      have hyb := bad_no.1 (hok.ok y hym)
      have HV : Hid (countP l x = y.len) := by show _ = _; rw [← hyx]; exact countP_some hok hym
      have hin : i < n := by have := (List.getElem?_eq_some_iff.1 hy).1; have := HL.out; omega
      obtain ⟨ad, z, rfl, had, hz, c0, c1⟩ := (hr.below hb1).run hin
      obtain rfl : y = z := Option.some.inj (hy.symm.trans hz)
      obtain ⟨yl, yn⟩ := y
      dsimp only at c0 c1 HV hyx hyb
      subst hyx
      by_cases hfull : yn = 1000000
      · have g1 : (yn == 1000000) = true := by simp [hfull]
        have HN : Hid (¬ (findE l yl = 0 ∧ ∃ i : Nat, PlaceOf l yl i ∧ countP l yl < 1000000 ∧ (hasAt l yl i = true ∨ l.length < 16))) := by
          rintro ⟨-, j, -, hj2, -⟩
          rw [HV.out] at hj2
          omega
        clear hF hok hi hh hy hz hym hfull hyb
        go_wp2
        go_ret3
        exact ⟨hb1, .inr ⟨HN.out, 7, rfl, by unfold addE; rw [if_neg (by simp [HF.out])], rfl⟩⟩
      · have g1 : (yn == 1000000) = false := by simp [hfull]
        have hyn2 : yn < 1000000 := by omega
        have HY := Lib.hid hy
        clear hF hok hi hh hy hz hym hfull
        go_wp2_with fail
        refine (clone_pinT (some ad) n c _ (runsC l) _ (hr.below hb1) hb1.size (runsC_one l) (isI_runs l) (by omega)).mono ?_
        rintro e w2 ⟨A2, c2, rfl, hown2, hb2⟩
        obtain ⟨g, rfl⟩ : ∃ g, A2 = some ⟨g, 0, none⟩ := by
          rcases hown2.1.2 with ⟨h2, h3⟩ | ⟨g, cap, cur, hv, -⟩
          · injection h2 with _ h4; omega
          · injection hv with h1 h2 h3; exact ⟨g, h1⟩
        obtain ⟨ad2, z2, e3, had2, hz2, d0, d1⟩ := (Reads.of_own hown2.1).run hin
        injection e3 with e3
        subst e3
        obtain rfl : (⟨yl, yn⟩ : Rn) = z2 := Option.some.inj (HY.out.symm.trans hz2)
        rw [Addr.add_lit, Nat.zero_add] at d0 d1
        dsimp only at d0 d1
        obtain ⟨cur, -, hgh, -⟩ := own_open hown2.1
        have BG : Blk w2 g 57 cur.toArray := hgh
        have f1 := BG.frozen (i * 2 + 1)
        have hgb := (hown2.1.lt g rfl).1
        have hown5 := ownT_set1 hown2 (i * 2 + 1) (yn + 1)
        rw [runsC_set _ _ _ _ HY.out] at hown5
        have hset : l.set i ⟨yl, yn + 1⟩ = moreP l yl i (countP l yl + 1) := by
          unfold moreP
          rw [if_pos HH.out, HV.out]
        dsimp only at hown5
        rw [hset] at hown5
        have hb02 := below_step hb1 hb2
        have HO5 := Lib.hid ((hown5.mono hb1.size))
        have hb05 := hb02.setCell (p := ⟨g, i * 2 + 1, none⟩) (by dsimp only; have := hb1.size; omega) (.int .i64 (yn + 1))
        have HML : Hid ((moreP l yl i (countP l yl + 1)).length = n) := by
          show _ = _
          rw [← hset, List.length_set]
          exact HL.out
        have p1 : (w2.setCell ⟨g, i * 2 + 1, none⟩ (.int .i64 (yn + 1))).cell? ⟨g, i * 2 + 1, none⟩ = some (.int .i64 (yn + 1)) := by
          have hB2 := BG.set_ (i * 2 + 1) (.int .i64 (yn + 1))
          have h2 := hB2.cell (i * 2 + 1)
          rw [h2]
          have h3 := BG.cell (i * 2 + 1)
          rw [d1] at h3
          have h4 := (Array.getElem?_eq_some_iff.1 h3.symm).1
          rw [Array.getElem?_setIfInBounds_self_of_lt h4]
        have w11 : IntKind.i64.wrap (yn + 1) = yn + 1 := IntWalk.i64_in _ (by omega)
        clear hown2 hgh BG hset hown5 hz2
        go_wp2
        go_quiet (fail)
        go_wp2
        go_ret3
        refine ⟨below_drewN hb05 _, .inl ⟨HF.out, i, HI.out, by rw [HV.out]; omega, .inl HH.out, some ⟨g, 0, none⟩, c2, ?_, ?_⟩⟩
        · rw [HML.out, HV.out]; rfl
        · rw [HML.out]
          have := HO5.out
          exact this
  · have HN : Hid (¬ (findE l x = 0 ∧ ∃ i : Nat, PlaceOf l x i ∧ countP l x < 1000000 ∧ (hasAt l x i = true ∨ l.length < 16))) := fun h => by
      have h1 := h.1
      simp [h1] at hF
    have hF2 := hF
    go_wp2
    go_ret3
    exact ⟨hb1, .inr ⟨HN.out, findE l x, hF2, by unfold addE; rw [if_pos (by simpa using hF2)], rfl⟩⟩
set_option maxRecDepth 100000 in
set_option maxHeartbeats 2000000 in
theorem pdropT_all (A : Option Addr) (n c : Nat) (l : List Rn) (x : Int) (w : World) (hr : Reads w w.heap.size 2 A n (runsC l)) (hn : n ≤ 1000000000000000000) :
    Calls Tryz.prog 78 #[.slice A n c, .int .i64 x] w fun e w' => Below w.heap.size w w' ∧
      ((findE l x = 0 ∧ ∃ i : Nat, PlaceOf l x i ∧ hasAt l x i = true ∧ PinResT w.heap.size (lessP l i x (countP l x - 1)) (countP l x - 1) e w') ∨
       (¬ (findE l x = 0 ∧ ∃ i, PlaceOf l x i ∧ hasAt l x i = true) ∧ ∃ er : Int, (er != 0) = true ∧ er = dropE l x ∧ e = .returned (.tuple #[.slice none 0 0, .int .i64 0, .int .i64 er]))) := by
  have hl : l.length = n := by have := hr.1; rw [runsC_length] at this; omega
  have HL := Lib.hid hl
  have H := Lib.hid (pfind_any A n c l x w hr hn)
  clear hl
  go_enter Tryz.func78, Tryz.ntmps78
  go_wp2_with fail
  refine H.out.mono ?_
  rintro e w1 ⟨hb1, ⟨hF, i, hi, rfl⟩ | ⟨hF, rfl⟩⟩
  · have hok := (findE_zero.1 hF).1
    have HF := Lib.hid hF
    have HI := Lib.hid hi
    have hn16 : n ≤ 16 := by have := hok.len; have := HL.out; omega
    cases hh : hasAt l x i
    · have HN : Hid (¬ (findE l x = 0 ∧ ∃ i, PlaceOf l x i ∧ hasAt l x i = true)) := by
        rintro ⟨-, j, hj, hj2⟩
        rw [hj.unique hi, hh] at hj2
        cases hj2
      clear hF hok hi hh
      go_wp2
      go_ret3
      exact ⟨hb1, .inr ⟨HN.out, 5, rfl, by unfold dropE; rw [if_neg (by simp [HF.out])], rfl⟩⟩
    · obtain ⟨y, hy, hyx⟩ := hasAt_some hh
      have HH := Lib.hid hh
      have hym := List.mem_of_getElem? hy
      have hyb := bad_no.1 (hok.ok y hym)
      have HV : Hid (countP l x = y.len) := by show _ = _; rw [← hyx]; exact countP_some hok hym
      have hin : i < n := by have := (List.getElem?_eq_some_iff.1 hy).1; have := HL.out; omega
      obtain ⟨ad, z, rfl, had, hz, c0, c1⟩ := (hr.below hb1).run hin
      obtain rfl : y = z := Option.some.inj (hy.symm.trans hz)
      obtain ⟨yl, yn⟩ := y
      dsimp only at c0 c1 HV hyx hyb
      subst hyx
      have HY := Lib.hid hy
      clear hF hok hi hh hy hz hym
      go_wp2_with fail
      refine (clone_pinT (some ad) n c _ (runsC l) _ (hr.below hb1) hb1.size (runsC_one l) (isI_runs l) (by omega)).mono ?_
      rintro e w2 ⟨A2, c2, rfl, hown2, hb2⟩
      obtain ⟨g, rfl⟩ : ∃ g, A2 = some ⟨g, 0, none⟩ := by
        rcases hown2.1.2 with ⟨h2, h3⟩ | ⟨g, cap, cur, hv, -⟩
        · injection h2 with _ h4; omega
        · injection hv with h1 h2 h3; exact ⟨g, h1⟩
      obtain ⟨ad2, z2, e3, had2, hz2, d0, d1⟩ := (Reads.of_own hown2.1).run hin
      injection e3 with e3
      subst e3
      obtain rfl : (⟨yl, yn⟩ : Rn) = z2 := Option.some.inj (HY.out.symm.trans hz2)
      rw [Addr.add_lit, Nat.zero_add] at d0 d1
      dsimp only at d0 d1
      obtain ⟨cur, -, hgh, -⟩ := own_open hown2.1
      have BG : Blk w2 g 57 cur.toArray := hgh
      have f1 := BG.frozen (i * 2 + 1)
      have hgb := (hown2.1.lt g rfl).1
      have hown5 := ownT_set1 hown2 (i * 2 + 1) (yn - 1)
      rw [runsC_set _ _ _ _ HY.out] at hown5
      dsimp only at hown5
      have hb02 := below_step hb1 hb2
      have hb12 := hb2.setCell (p := ⟨g, i * 2 + 1, none⟩) (by dsimp only; omega) (.int .i64 (yn - 1))
      have hb05 := hb02.setCell (p := ⟨g, i * 2 + 1, none⟩) (by dsimp only; have := hb1.size; omega) (.int .i64 (yn - 1))
      have p1 : (w2.setCell ⟨g, i * 2 + 1, none⟩ (.int .i64 (yn - 1))).cell? ⟨g, i * 2 + 1, none⟩ = some (.int .i64 (yn - 1)) := by
        have hB2 := BG.set_ (i * 2 + 1) (.int .i64 (yn - 1))
        have h2 := hB2.cell (i * 2 + 1)
        rw [h2]
        have h3 := BG.cell (i * 2 + 1)
        rw [d1] at h3
        have h4 := (Array.getElem?_eq_some_iff.1 h3.symm).1
        rw [Array.getElem?_setIfInBounds_self_of_lt h4]
      have w11 : IntKind.i64.wrap (yn - 1) = yn - 1 := IntWalk.i64_in _ (by omega)
      have hlen2 : (l.set i ⟨yl, yn - 1⟩).length = n := by rw [List.length_set]; exact HL.out
      by_cases h1 : yn = 1
      · have hless : lessP l i yl (countP l yl - 1) = (l.set i ⟨yl, yn - 1⟩).take i ++ (l.set i ⟨yl, yn - 1⟩).drop (i + 1) := by
          unfold lessP
          rw [HV.out, if_pos (by omega), List.take_set_of_le (Nat.le_refl _), List.drop_set_of_lt (by omega)]
        have HD := Lib.hid (delete_pinT w1.heap.size (some ⟨g, 0, none⟩) n c2 i (runsC (l.set i ⟨yl, yn - 1⟩)) _ hown5 hin (by omega) (runsC_one _))
        have HLs := Lib.hid hless
        have HV1 : Hid (countP l yl - 1 = 0) := by show _ = _; rw [HV.out]; omega
        have g1 : (yn - 1 == 0) = true := by simp; omega
        have wi : IntKind.i64.wrap ((i : Int) + 1) = ((i + 1 : Nat) : Int) := by rw [IntWalk.i64_in _ (by omega)]; omega
        have HLn : Hid (((l.set i ⟨yl, yn - 1⟩).take i ++ (l.set i ⟨yl, yn - 1⟩).drop (i + 1)).length = n - 1) := by
          show _ = _
          rw [List.length_append, List.length_take, List.length_drop, hlen2]
          omega
        have hyz : yn - 1 = 0 := by omega
        have HYZ := Lib.hid hyz
        have HW : Hid (((i + 1 : Nat) : Int) = (i : Int) + 1) := by show _ = _; omega
        rw [HW.out] at HD wi
        clear hown2 hown5 hgh BG hz2 hless hyz h1
        go_wp2_with fail
        refine HD.out.mono ?_
        rintro e w6 ⟨A6, c6, rfl, hown6, hb6⟩
        have hb06 := below_step hb1 (hb12.trans hb6)
        rw [runsC_take, runsC_drop, ← runsC_append] at hown6
        have HO := Lib.hid ((hown6.mono hb1.size))
        clear hown6
        go_wp2
        go_ret3
        refine ⟨hb06, .inl ⟨HF.out, i, HI.out, HH.out, A6, c6, ?_, ?_⟩⟩
        · rw [HLs.out, HLn.out, HV1.out]
          show _ = Ending.returned _
          rw [← HYZ.out]
          rfl
        · rw [HLs.out, HLn.out]; exact HO.out
      · have g1 : (yn - 1 == 0) = false := by simp; omega
        have hless : lessP l i yl (countP l yl - 1) = l.set i ⟨yl, yn - 1⟩ := by
          unfold lessP
          rw [HV.out, if_neg (by omega)]
        have HLs := Lib.hid hless
        have HL2 := Lib.hid hlen2
        have HO := Lib.hid ((hown5.mono hb1.size))
        clear hown2 hown5 hgh BG hz2 hless hlen2
        go_wp2
        go_ret3
        refine ⟨hb05, .inl ⟨HF.out, i, HI.out, HH.out, some ⟨g, 0, none⟩, c2, ?_, ?_⟩⟩
        · rw [HLs.out, HL2.out, HV.out]; rfl
        · rw [HLs.out, HL2.out]; exact HO.out
  · have HN : Hid (¬ (findE l x = 0 ∧ ∃ i, PlaceOf l x i ∧ hasAt l x i = true)) := fun h => by
      have h1 := h.1
      simp [h1] at hF
    have hF2 := hF
    go_wp2
    go_ret3
    exact ⟨hb1, .inr ⟨HN.out, findE l x, hF2, by unfold dropE; rw [if_pos (by simpa using hF2)], rfl⟩⟩
end Go.Proofs.YtbmkbnalembbjaaGreatDoor

namespace Go.Proofs.YtbmkbnalembbjaaGreatDoor
open Go.RowKit
def isS (j : Nat) (u : Value) : Prop := j = 0 → ∃ x, u = .int .i64 x
theorem isS_zero : ∀ j u, (Value.agg #[.int .i64 0, .bool false, .int .i64 0]).cells[j]? = some u → isS j u := by
  intro j u hu hj
  subst hj
  have hc : (Value.agg #[.int .i64 0, .bool false, .int .i64 0]).cells = #[.int .i64 0, .bool false, .int .i64 0] := by kernel_rfl
  rw [hc] at hu
  exact ⟨0, by simpa using hu.symm⟩
theorem isS_slots (l : List Slot) : ∀ j u, (slotsC l)[j]? = some u → isS (j % 3) u := by
  intro j u hu hj
  have hjl := (List.getElem?_eq_some_iff.1 hu).1
  rw [slotsC_length] at hjl
  have h1 := slotsC_at l (j / 3) 0 (by omega) (by omega)
  rw [show j / 3 * 3 + 0 = j by omega, hu] at h1
  exact ⟨_, by simpa [slotC] using h1⟩
theorem ownT_setAt {w : World} {base g n c k : Nat} {e : TypeId} {ok : Nat → Value → Prop} {xs : List Value} (h : OwnT w base e k ok (.slice (some ⟨g, 0, none⟩) n c) n xs) (j : Nat) (u : Value) (hu : ok (j % k) u) :
    OwnT (w.setCell ⟨g, j, none⟩ u) base e k ok (.slice (some ⟨g, 0, none⟩) n c) n (xs.set j u) := by
  obtain ⟨cur, hb, hg, hc, hm, hl, ht, hty⟩ := h.open
  have hB : Blk w g e cur.toArray := hg
  have hB2 := hB.set_ j u
  simp only [List.setIfInBounds_toArray] at hB2
  have := OwnT.close (size := k) (n := n) (c := c) (ok := ok) (cur.set j u) hb hB2 hc hm (by rw [List.length_set]; exact hl) (fun i v hv => by
    by_cases hij : j = i
    · subst hij
      by_cases hlt : j < cur.length
      · rw [List.getElem?_set_self hlt] at hv
        injection hv with hv
        rw [← hv]; exact hu
      · rw [List.set_eq_of_length_le (by omega)] at hv
        exact hty j v hv
    · rw [List.getElem?_set_ne hij] at hv
      exact hty i v hv)
  rw [List.take_set, ht] at this
  exact this
theorem ownT_setSlot {w : World} {base g n c : Nat} {e : TypeId} {l : List Slot} (j : Nat) (s : Slot) (h : OwnT w base e 3 isS (.slice (some ⟨g, 0, none⟩) n c) n (slotsC l)) :
    OwnT (((w.setCell ⟨g, j * 3, none⟩ (.int .i64 s.gen)).setCell ⟨g, j * 3 + 1, none⟩ (.bool s.opn)).setCell ⟨g, j * 3 + 2, none⟩ (.int .i64 s.loc)) base e 3 isS (.slice (some ⟨g, 0, none⟩) n c) n (slotsC (l.set j s)) := by
  rw [← slotsC_set]
  exact ownT_setAt (ownT_setAt (ownT_setAt h (j * 3) _ (fun _ => ⟨_, rfl⟩)) (j * 3 + 1) _ (fun h => by omega)) (j * 3 + 2) _ (fun h => by omega)
set_option maxRecDepth 100000 in
set_option maxHeartbeats 400000 in
theorem clone_slotsT (A : Option Addr) (n c B : Nat) (xs : List Value) (w : World) (hr : Reads w B 3 A n xs) (hB : B ≤ w.heap.size) (h1 : ∀ u ∈ xs, u.oneCell' = true) (hno : ∀ j u, xs[j]? = some u → isS (j % 3) u) (hn : n ≤ 1000000) :
    Calls Tryz.prog 18 #[.slice A n c] w fun e w' => ∃ A' c', e = .returned (.slice A' n c') ∧ OwnT w' w.heap.size 60 3 isS (.slice A' n c') n xs ∧ Below w.heap.size w w' := by
  obtain ⟨i0, hi, hz0, hz1, hz2⟩ := info_parts info_slot
  rcases A with _ | ad
  · have hm : n = 0 := by
      rcases Nat.eq_zero_or_pos n with h0 | h0
      · exact h0
      · obtain ⟨ad, h, _⟩ := hr.2 h0
        cases h
    subst hm
    have hx : xs = [] := List.eq_nil_of_length_eq_zero (by simpa using hr.1)
    subst hx
    have hnil := fun (w : World) => Lib.run_eql_slice_nil (P := Tryz.prog) w 26 60 none 0 c 0 0 Tryz.underlying26
    go_enter Tryz.func18, Tryz.ntmps18
    go_wp2
    go_ret
    exact ⟨none, 0, rfl, OwnT.nil _ _ _ _ _, Below.refl _ _⟩
  · have hnil := fun (w : World) => Lib.run_eql_slice_nil (P := Tryz.prog) w 26 60 (some ad) n c 0 0 Tryz.underlying26
    have hmade : OwnT (w.alloc (.cells #[] 60)) w.heap.size 60 3 isS (.slice (some ⟨w.heap.size, 0, none⟩) 0 0) 0 [] := OwnT.close (w := w.alloc (.cells #[] 60)) (n := 0) (c := 0) (size := 3) [] (Nat.le_refl _) (heap_alloc_new w _) (Nat.le_refl _) (by decide) rfl (by simp)
    go_enter Tryz.func18, Tryz.ntmps18
    go_wp2_with (at_builtin; refine wpList_append_T _ rfl (.tmp 5) (.tmp 6) 26 rfl w.heap.size 60 i0 (.agg #[.int .i64 0, .bool false, .int .i64 0]) 3 24 Tryz.underlying26 hi hz0 hz1 hz2 rfl (by decide) isS_zero (.slice (some ⟨w.heap.size, 0, none⟩) 0 0) 0 [] rfl hmade B (some ad) n c xs rfl (hr.alloc hB _) h1 hno (by simp [maxLen]; omega) (by omega) (by simp) ?_; rintro v' w1 hown hgr hbl -; obtain ⟨A', c', rfl⟩ := own_slice hown.1)
    go_ret
    exact ⟨A', c', rfl, by simpa using hown, ((Below.refl _ _).alloc (Nat.le_refl _) _).grown hgr (by simp) (by simp [Value.ownBlock])⟩
set_option maxHeartbeats 1000000 in
theorem openT_ok (A : Option Addr) (n c B : Nat) (l : List Slot) (loc : Int) (i : Nat) (s : Slot) (w : World) (hr : Reads w B 3 A n (slotsC l)) (hB : B ≤ w.heap.size) (hE : openE l loc = 0) (hi : freeIx l = i) (hs : l[i]? = some s) (hfr : slotFree s = true) :
    Calls Tryz.prog 80 #[.slice A n c, .int .i64 loc] w fun e w' => Below w.heap.size w w' ∧
      ∃ A' c', e = .returned (.tuple #[.slice A' n c', .int .u64 (i + (s.gen + 1) * 65536), .int .i64 0]) ∧ OwnT w' w.heap.size 60 3 isS (.slice A' n c') n (slotsC (l.set i ⟨s.gen + 1, true, loc⟩)) := by
  obtain ⟨hC, l0, l1, _⟩ := openE_ok hE
  have H := handCheck_any A n c B l w hr hB
  rw [hC] at H
  have HH := Lib.hid H
  obtain ⟨hlen, hall⟩ := handE_ok.1 hC
  have hll : l.length = n := by have := hr.1; rw [slotsC_length] at this; omega
  have hil : i < n := by have := (List.getElem?_eq_some_iff.1 hs).1; omega
  obtain ⟨g0, g1, _, _, _, _⟩ := slotE_ok.1 (hall s (List.mem_of_getElem? hs))
  have g2 : s.gen < 65535 := by simp [slotFree] at hfr; exact hfr.2
  have hr0 := hr
  obtain ⟨ad, s', rfl, had, hs', c0, c1, c2⟩ := hr.slot hil
  obtain rfl : s' = s := by rw [hs] at hs'; exact (Option.some.inj hs').symm
  have HC0 := Lib.hid c0
  have HS := Lib.hid hs
  have HI := Lib.hid hi
  have H2 : Hid (0 ≤ loc ∧ loc < 256) := ⟨l0, l1⟩
  have hn16 : n ≤ 16 := by omega
  clear H hE hC hi hs hs' c0 c1 c2 hr hll hall hfr hlen
  have hil2 : (i : Int) < n := by omega
  have hbl : (ad.add (i * 3)).block < w.heap.size := by rw [block_of_add]; omega
  obtain ⟨gen, opn, loc0⟩ := s'
  dsimp only at g0 g1 g2 HC0 ⊢
  go_enter Tryz.func80, Tryz.ntmps80
  go_wp2_with fail
  refine HH.out.mono ?_
  rintro e w1 ⟨rfl, hb1⟩
  go_wp2_with fail
  refine (handThere_yes _ _ H2.out).mono ?_
  rintro e w2 ⟨rfl, rfl⟩
  go_wp2_with fail
  refine (indexFree_any _ _ _ _ _ _ (hr0.below (hb1.mono hB)) (Nat.le_trans hB hb1.size) (by omega)).mono ?_
  rw [HI.out]
  rintro e w3 ⟨rfl, hb3⟩
  have hb03 := below_step hb1 hb3
  go_wp2_with fail
  refine (clone_slotsT _ _ _ _ _ _ (hr0.below (hb03.mono hB)) (Nat.le_trans hB hb03.size) (slotsC_one _) (isS_slots _) (by omega)).mono ?_
  rintro e w4 ⟨A', c', rfl, hown, hb4⟩
  have hb04 := below_step hb03 hb4
  have c0 := (hb04.cell (p := ad.add (i * 3)) hbl).trans HC0.out
  obtain ⟨g, cap, hv, hg, -⟩ := hown.1.form (by omega)
  obtain ⟨rfl, rfl⟩ : A' = some ⟨g, 0, none⟩ ∧ c' = cap := by simpa using hv
  clear hv hb4 hb3 hb1
  have f0 := hown.1.frozenAt (i * 3)
  have f1 := hown.1.frozenAt (i * 3 + 1)
  have f2 := hown.1.frozenAt (i * 3 + 2)
  obtain ⟨d0, d1, d2⟩ := own_slot hown.1 HS.out
  have HO := Lib.hid (ownT_setSlot i ⟨gen + 1, true, loc⟩ (OwnT.mono hown hb03.size))
  have hgs : w.heap.size ≤ g := Nat.le_trans hb03.size hg
  have HB5 := Lib.hid (below_set3 hb04 hgs (i * 3) (i * 3 + 1) (i * 3 + 2) (.int .i64 (gen + 1)) (.bool true) (.int .i64 loc))
  clear hown hr0 hb04
  go_wp2_with fail
  refine (handName_any _ _ _ _ _ (by omega) (by omega)).mono ?_
  rintro e w5 ⟨rfl, hb5⟩
  go_wp2
  go_ret3
  refine ⟨below_step HB5.out hb5, some ⟨g, 0, none⟩, c', rfl, ?_⟩
  exact OwnT.below HO.out hb5
set_option maxHeartbeats 1000000 in
theorem closeT_ok (A : Option Addr) (n c B : Nat) (l : List Slot) (v : Int) (i : Nat) (s : Slot) (w : World) (hr : Reads w B 3 A n (slotsC l)) (hB : B ≤ w.heap.size) (hE : handE l = 0) (v0 : 0 ≤ v) (v1 : v < 18446744073709551616) (hf : Found l v i s) :
    Calls Tryz.prog 83 #[.slice A n c, .int .u64 v] w fun e w' => Below w.heap.size w w' ∧
      ∃ A' c', e = .returned (.tuple #[.slice A' n c', .int .i64 0]) ∧ OwnT w' w.heap.size 60 3 isS (.slice A' n c') n (slotsC (l.set i ⟨s.gen, false, 0⟩)) := by
  have H := find_ok A n c B l v i s w hr hB hE v0 v1 hf
  have HH := Lib.hid H
  have hll : l.length = n := by have := hr.1; rw [slotsC_length] at this; omega
  have hs := hf.2.1
  have hil : i < n := by have := (List.getElem?_eq_some_iff.1 hs).1; omega
  have hn16 : n ≤ 16 := by have := (handE_ok.1 hE).1; omega
  have hr0 := hr
  obtain ⟨ad, s', rfl, had, hs', c0, c1, c2⟩ := hr.slot hil
  obtain rfl : s' = s := by rw [hs] at hs'; exact (Option.some.inj hs').symm
  have HC0 := Lib.hid c0
  have HS := Lib.hid hs
  clear H hE hf hs hs' c0 c1 c2 hr hll
  have hil2 : (i : Int) < n := by omega
  have hbl : (ad.add (i * 3)).block < w.heap.size := by rw [block_of_add]; omega
  go_enter Tryz.func83, Tryz.ntmps83
  go_wp2_with fail
  refine HH.out.mono ?_
  rintro e w1 ⟨rfl, hb1⟩
  go_wp2_with fail
  refine (clone_slotsT _ _ _ _ _ _ (hr0.below (hb1.mono hB)) (Nat.le_trans hB hb1.size) (slotsC_one _) (isS_slots _) (by omega)).mono ?_
  rintro e w2 ⟨A', c', rfl, hown, hb2⟩
  have hb02 := below_step hb1 hb2
  have c0 := (hb02.cell (p := ad.add (i * 3)) hbl).trans HC0.out
  obtain ⟨g, cap, hv, hg, -⟩ := hown.1.form (by omega)
  obtain ⟨rfl, rfl⟩ : A' = some ⟨g, 0, none⟩ ∧ c' = cap := by simpa using hv
  clear hv hb2
  obtain ⟨d0, d1, d2⟩ := own_slot hown.1 HS.out
  have f0 := hown.1.frozenAt (i * 3)
  have f1 := hown.1.frozenAt (i * 3 + 1)
  have f2 := hown.1.frozenAt (i * 3 + 2)
  have HO := Lib.hid (ownT_setSlot i ⟨s'.gen, false, 0⟩ (OwnT.mono hown hb1.size))
  have hgs : w.heap.size ≤ g := Nat.le_trans hb1.size hg
  clear hown hr0
  go_wp2
  go_ret2
  exact ⟨below_set3 hb02 hgs _ _ _ _ _ _, some ⟨g, 0, none⟩, c', rfl, HO.out⟩
end Go.Proofs.YtbmkbnalembbjaaGreatDoor
