/-
  package root: Swap.
-/
import Derived.Test.YthfjopnomkfegaaRootFn
namespace Go.Proofs.Ythfjopnomkfegaa
open Go.RowKit

def swapE (r : List Int) (n : Int) (t : List Int) : Int := if rootE r n ≠ 0 then rootE r n else if (t.length : Int) ≠ n then 3 else if t.any (fun v => !inR v n) = true then 4 else 0
def swapV (t : List Int) (v : Int) : Int := if 0 ≤ v then t.getD v.toNat 0 else v

theorem swapE_ok {r t : List Int} {n : Int} (h : swapE r n t = 0) : rootE r n = 0 ∧ (t.length : Int) = n ∧ ∀ v ∈ t, -1 ≤ v ∧ v < n := by
  unfold swapE at h
  split at h
  · rename_i h1; exact absurd h h1
  · rename_i h1
    split at h
    · cases h
    · rename_i h2
      split at h
      · cases h
      · rename_i h3
        refine ⟨by simpa using h1, by simpa using h2, fun v hv => ?_⟩
        have h4 : ¬ (!inR v n) = true := fun h5 => h3 (List.any_eq_true.2 ⟨v, hv, h5⟩)
        simp only [inR, Bool.not_eq_true', Bool.not_eq_false, Bool.and_eq_true, decide_eq_true_eq] at h4
        exact h4
theorem swapE_of {r t : List Int} {n : Int} (h : rootE r n = 0) (h1 : (t.length : Int) = n) (h2 : ∀ v ∈ t, -1 ≤ v ∧ v < n) : swapE r n t = 0 := by
  unfold swapE
  rw [if_neg (by simp [h]), if_neg (by simp [h1]), if_neg]
  intro h3
  obtain ⟨v, hv, h4⟩ := List.any_eq_true.1 h3
  have := h2 v hv
  simp only [inR, Bool.not_eq_true', Bool.and_eq_false_iff, decide_eq_false_iff_not] at h4
  omega

set_option maxHeartbeats 400000 in
theorem swapOut_any (v n : Int) (g : Nat) (w : World) (hc : w.cell? ⟨g, 0, none⟩ = some (.int .i64 n)) :
    Calls Try.prog 54 #[.int .i64 v, .pointer (some ⟨g, 0, none⟩)] w fun e w' => e = .returned (.bool (!inR v n)) ∧ Below w.heap.size w w' := by
  have H := Lib.hid (fun w => within_any v n w)
  generalize inR v n = b at *
  go_enter Try.func54, Try.ntmps54
  go_wp2_with (go_at_call 53; refine (H.out _).mono ?_; rintro e w' ⟨rfl, rfl⟩)
  go_ret
  exact ⟨rfl, Below.refl _ _⟩

set_option maxRecDepth 100000 in
set_option maxHeartbeats 1000000 in
theorem swap_bad (A A2 : Option Addr) (n c n2 c2 : Nat) (r t : List Int) (N : Int) (w : World) (hr : Reads w w.heap.size 1 A n (r.map (.int .i64))) (hn : n ≤ 9223372036854775807) (hr2 : Reads w w.heap.size 1 A2 n2 (t.map (.int .i64))) (hn2 : n2 ≤ 9223372036854775807) (hE : swapE r N t ≠ 0) :
    Calls Try.prog 18 #[.slice A n c, .int .i64 N, .slice A2 n2 c2] w fun e w' => e = .returned (.tuple #[.slice none 0 0, .int .i64 (swapE r N t)]) ∧ Below w.heap.size w w' := by
  have htl : t.length = n2 := by have := hr2.1; simpa using this
  have hb0 := below_new w (.cells #[.int .i64 N] 3)
  have B0 := Blk.new w 3 #[.int .i64 N]
  have H := rootCheck_any A n c r N _ ((hr.below hb0).more hb0.size) hn
  unfold swapE at hE ⊢
  rw [htl] at hE ⊢
  by_cases h0 : rootE r N = 0
  · rw [h0] at H
    rw [if_neg (by simp [h0])] at hE ⊢
    have hN := rootE_ok h0
    have H := Lib.hid H
    obtain ⟨K, rfl⟩ : ∃ K : Nat, N = K := ⟨N.toNat, by omega⟩
    by_cases h1 : n2 = K
    · rw [if_neg (by omega)] at hE ⊢
      subst h1
      by_cases h2 : t.any (fun v => !inR v n2) = true
      · rw [if_pos h2]
        have z1 : (n2 != n2) = false := by simp
        clear h0 hE
        go_enter Try.func18, Try.ntmps18
        go_wp2_with fail
        refine H.out.mono ?_
        rintro e w1 ⟨rfl, hb1⟩
        have hb01 := below_step hb0 hb1
        have B1 := B0.below hb1 B0.lt
        have HC := containsIntF_any 54 (.pointer (some ⟨w.heap.size, 0, none⟩)) A2 n2 c2 _ t (fun v => !inR v n2) _ (hr2.below hb01) hb01.size (by omega) (plain_of (fn := Try.f54) Try.func54 (by kernel_rfl) (by kernel_rfl)) (fun w' x hb' _ => swapOut_any x n2 w.heap.size w' ((B1.below hb' B1.lt).cell 0))
        rw [h2] at HC
        have HC := Lib.hid HC
        have k0 := B1.cell 0
        simp only [List.getElem?_toArray, List.getElem?_cons_zero, List.getElem?_cons_succ] at k0
        clear h2
        go_wp2_with fail
        refine HC.out.mono ?_
        rintro e w2 ⟨rfl, hb2⟩
        go_wp2
        go_ret2
        exact ⟨rfl, below_step hb01 hb2⟩
      · rw [if_neg h2] at hE
        exact absurd rfl hE
    · rw [if_pos (by omega)]
      have z1 : ((n2 : Int) != K) = true := by simp; omega
      have z2 : (n2 != K) = true := by simpa using h1
      clear h0 hE
      go_enter Try.func18, Try.ntmps18
      go_wp2_with fail
      refine H.out.mono ?_
      rintro e w1 ⟨rfl, hb1⟩
      have hb01 := below_step hb0 hb1
      have B1 := B0.below hb1 B0.lt
      have k0 := B1.cell 0
      simp only [List.getElem?_toArray, List.getElem?_cons_zero, List.getElem?_cons_succ] at k0
      go_wp2
      go_ret2
      exact ⟨rfl, hb01⟩
  · rw [if_pos h0]
    have hE1 : (rootE r N != 0) = true := by simpa using h0
    generalize rootE r N = E at *
    have H := Lib.hid H
    clear hE h0
    go_enter Try.func18, Try.ntmps18
    go_wp2_with fail
    refine H.out.mono ?_
    rintro e w1 ⟨rfl, hb1⟩
    go_wp2
    go_ret2
    exact ⟨rfl, below_step hb0 hb1⟩

theorem swap_step {r t : List Int} {j : Nat} (h : j < r.length) : ((r.take j).map (swapV t) ++ r.drop j).set j (swapV t r[j]) = (r.take (j + 1)).map (swapV t) ++ r.drop (j + 1) := by
  have hl : ((r.take j).map (swapV t)).length = j := by rw [List.length_map, List.length_take]; omega
  rw [List.drop_eq_getElem_cons h, List.set_append_right _ _ (by omega), hl, Nat.sub_self, List.set_cons_zero, List.take_succ_eq_append_getElem h, List.map_append, List.append_assoc]
  rfl
theorem swap_at {r t : List Int} {j : Nat} (h : j < r.length) : ((r.take j).map (swapV t) ++ r.drop j)[j]? = some r[j] := by
  have hl : ((r.take j).map (swapV t)).length = j := by rw [List.length_map, List.length_take]; omega
  rw [List.getElem?_append_right (by omega), hl, Nat.sub_self, List.drop_eq_getElem_cons h]
  rfl
theorem swap_skip {r t : List Int} {j : Nat} (h : j < r.length) (h0 : r[j] < 0) : (r.take j).map (swapV t) ++ r.drop j = (r.take (j + 1)).map (swapV t) ++ r.drop (j + 1) := by
  rw [← swap_step h]
  have : swapV t r[j] = r[j] := by unfold swapV; rw [if_neg (by omega)]
  rw [this]
  obtain ⟨q1, q2⟩ := List.getElem?_eq_some_iff.1 (swap_at (t := t) h)
  have h1 := List.set_getElem_self q1
  rw [q2] at h1
  exact h1.symm

set_option maxRecDepth 100000 in
set_option maxHeartbeats 1000000 in
theorem swap_ok (A A2 : Option Addr) (n c N c2 : Nat) (r t : List Int) (w : World) (hr : Reads w w.heap.size 1 A n (r.map (.int .i64))) (hr2 : Reads w w.heap.size 1 A2 N (t.map (.int .i64))) (hE : swapE r N t = 0) :
    Calls Try.prog 18 #[.slice A n c, .int .i64 N, .slice A2 N c2] w fun e w' => ∃ A' c', e = .returned (.tuple #[.slice A' n c', .int .i64 0]) ∧ w'.ownsRow w.heap.size 3 1 (.slice A' n c') n ((r.map (swapV t)).map (.int .i64)) ∧ Below w.heap.size w w' := by
  have hrl : r.length = n := by have := hr.1; simpa using this
  have htl : t.length = N := by have := hr2.1; simpa using this
  obtain ⟨h0, -, h2⟩ := swapE_ok hE
  obtain ⟨r1, r2, r3, r4⟩ := rootE_ok h0
  have hn : n ≤ 32 := by omega
  have hb0 := below_new w (.cells #[.int .i64 N] 3)
  have B0 := Blk.new w 3 #[.int .i64 N]
  have H := rootCheck_any A n c r N _ ((hr.below hb0).more hb0.size) (by omega)
  rw [h0] at H
  have H := Lib.hid H
  have HF : Hid (t.any (fun v => !inR v N) = false) := by
    show _ = _
    rw [List.any_eq_false]
    intro v hv
    have := h2 v hv
    simp only [inR, Bool.not_eq_true', Bool.not_eq_false, Bool.and_eq_true, decide_eq_true_eq]
    exact this
  have HR := Lib.hid hrl
  have HR4 := Lib.hid r4
  have HT := Lib.hid htl
  have hN : N ≤ 256 := by omega
  have z1 : (N != N) = false := by simp
  clear h0 h2 hE hrl r1 r2 r3 r4 htl
  go_enter Try.func18, Try.ntmps18
  go_wp2_with fail
  refine H.out.mono ?_
  rintro e w1 ⟨rfl, hb1⟩
  have hb01 := below_step hb0 hb1
  have B1 := B0.below hb1 B0.lt
  have HC := containsIntF_any 54 (.pointer (some ⟨w.heap.size, 0, none⟩)) A2 N c2 _ t (fun v => !inR v N) _ (hr2.below hb01) hb01.size (by omega) (plain_of (fn := Try.f54) Try.func54 (by kernel_rfl) (by kernel_rfl)) (fun w' x hb' _ => swapOut_any x N w.heap.size w' ((B1.below hb' B1.lt).cell 0))
  rw [HF.out] at HC
  have HC := Lib.hid HC
  have k0 := B1.cell 0
  simp only [List.getElem?_toArray, List.getElem?_cons_zero, List.getElem?_cons_succ] at k0
  go_wp2_with fail
  refine HC.out.mono ?_
  rintro e w2 ⟨rfl, hb2⟩
  have hb02 := below_step hb01 hb2
  clear k0 HC hb1 hb2 B0 B1 hb0
  go_wp2_with fail
  refine (clone_int A n c _ (r.map (.int .i64)) _ (hr.below hb02) hb02.size (ints_one r) (by omega)).mono ?_
  rintro e w3 ⟨A3, c3, rfl, hown, hb3⟩
  have hb03 := below_step hb02 hb3
  have hown := own_mono hown hb02.size
  have hr3 := (hr2.below hb03)
  clear hb3 hb01 hb02
  go_wp2
  go_loopw [32] (fun i wr => ∃ j : Nat, j ≤ n ∧ i = .int .i64 j ∧ Hid (wr.ownsRow w.heap.size 3 1 (.slice A3 n c3) n (((r.take j).map (swapV t) ++ r.drop j).map (.int .i64))) ∧ Below w.heap.size w wr) (fun i _ => n - (intOf i).toNat)
  case atStart => exact ⟨0, Nat.zero_le _, rfl, Lib.hid (by simpa using hown), hb03⟩
  case round =>
    obtain ⟨j, hj, rfl, HO, hb⟩ := hrel
    by_cases hlt : j < n
    · have hjl : j < r.length := by rw [HR.out]; exact hlt
      have hown := HO.out
      obtain ⟨g, cap, hv, hg, -⟩ := hown.form (by omega)
      obtain ⟨rfl, rfl⟩ : A3 = some ⟨g, 0, none⟩ ∧ c3 = cap := by simpa using hv
      have hF0 := hown.frozenAt j
      have hc0 := hown.cellAt j (by have := hown.1; omega)
      rw [List.getElem?_map, swap_at hjl] at hc0
      have hc1 : wr.cell? ⟨g, j, none⟩ = some (.int .i64 (r[j]'hjl)) := hc0
      have hm := HR4.out _ (List.getElem_mem hjl)
      have HSt := Lib.hid (swap_step (t := t) hjl)
      have HSk := Lib.hid (swap_skip (t := t) hjl)
      generalize r[j]'hjl = v at *
      have hj1 : j + 1 ≤ n := hlt
      by_cases h0 : 0 ≤ v
      · have g0 : decide (0 ≤ v) = true := decide_eq_true h0
        obtain ⟨V, rfl⟩ : ∃ V : Nat, v = V := ⟨v.toNat, by omega⟩
        have hV : V < N := by omega
        obtain ⟨ad, x, rfl, had, hx, cx⟩ := ((hr2.below hb)).num (k := V) hV
        have hxv : swapV t V = x := by unfold swapV; rw [if_pos (by omega), Int.toNat_natCast, List.getD_eq_getElem?_getD, hx]; rfl
        have hst := (hown.stored j (.int .i64 x)).1
        rw [← List.map_set, ← hxv, HSt.out, hxv] at hst
        have HN := Lib.hid hst
        have hbx := hb.setCell (p := ⟨g, j, none⟩) hg (.int .i64 x)
        clear hst hxv hx hown hv hc0 HSt HSk hm
        go_wp2
        go_roundw
        case rel => exact ⟨j + 1, hj1, by go_num, HN, hbx⟩
        case measure => simp [intOf]; omega
      · have g0 : decide (0 ≤ v) = false := decide_eq_false h0
        have HN : Hid (wr.ownsRow w.heap.size 3 1 (.slice (some ⟨g, 0, none⟩) n c3) n (((r.take (j + 1)).map (swapV t) ++ r.drop (j + 1)).map (.int .i64))) := by
          rw [← HSk.out (by omega)]
          exact HO
        clear hown hv hc0 HSt HSk hm HO
        go_wp2
        go_roundw
        case rel => exact ⟨j + 1, hj1, by go_num, HN, hb⟩
        case measure => simp [intOf]; omega
    · have hjn : j = n := by omega
      have HN : Hid (wr.ownsRow w.heap.size 3 1 (.slice A3 n c3) n ((r.map (swapV t)).map (.int .i64))) := by
        have := HO.out
        rw [hjn, List.take_of_length_le (by rw [HR.out]; exact Nat.le_refl _), List.drop_of_length_le (by rw [HR.out]; exact Nat.le_refl _), List.append_nil] at this
        exact this
      have g0 : decide (j < n) = false := decide_eq_false hlt
      clear hjn HO
      go_wp2
      go_ret2
      exact ⟨_, _, rfl, HN.out, hb⟩
end Go.Proofs.Ythfjopnomkfegaa
