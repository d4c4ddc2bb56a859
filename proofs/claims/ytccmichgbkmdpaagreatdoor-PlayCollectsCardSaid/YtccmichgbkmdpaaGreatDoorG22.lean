/-
  Texts joined: SameSt RowK SlicesOp DeleteOp DeleteTold.
-/
import Derived.Test.YtccmichgbkmdpaaGreatDoorRows
import Derived.StillTailTactics
import Derived.Deep.RegionHeld3
import Derived.Test.YtccmichgbkmdpaaGreatDoorG0
import Derived.Test.YtccmichgbkmdpaaGreatDoorG10
import Derived.Test.YtccmichgbkmdpaaGreatDoorG12
import Derived.Test.YtccmichgbkmdpaaGreatDoorG17
import Derived.Test.YtccmichgbkmdpaaGreatDoorG21
namespace Go.Proofs.YtccmichgbkmdpaaGreatDoor
open Go.RowKit
set_option maxHeartbeats 400000 in
theorem equal_slotS (A A2 : Option Addr) (n c c2 B B2 : Nat) (l : List Slot) (w : World) (hr : Reads w B 3 A n (slotsC l)) (hr2 : Reads w B2 3 A2 n (slotsC l)) (hn : n ≤ 1000000000000000000) :
    Calls Tryz.prog 28 #[.slice A n c, .slice A2 n c2] w fun e w' => e = .returned (.bool true) ∧ ∃ q, w' = w.drewN q := by
  go_enter Tryz.func28, Tryz.ntmps28
  go_wp2
  go_loopw [13] (fun i wr => ∃ j : Nat, j ≤ n ∧ i = .int .i64 j ∧ ∃ q, wr = w.drewN q) (fun i _ => n - (intOf i).toNat)
  case atStart => exact ⟨0, Nat.zero_le _, rfl, 0, rfl⟩
  case round =>
    obtain ⟨j, hj, rfl, q, rfl⟩ := hrel
    by_cases hlt : j < n
    · obtain ⟨ad, r, rfl, _, hs, c0, c1, cu⟩ := hr.slot hlt
      obtain ⟨ad2, r2, rfl, _, hs2, d0, d1, du⟩ := hr2.slot hlt
      obtain rfl : r = r2 := Option.some.inj (hs.symm.trans hs2)
      obtain ⟨x, y, z⟩ := r
      dsimp only at *
      have hlt' : (j : Int) < n := by omega
      clear hs hs2
      go_wp2
      go_quiet (fail)
      go_wp2
      go_roundw
      case rel => exact ⟨j + 1, by omega, by go_num, _, rfl⟩
      case measure => simp [intOf]; omega
    · go_wp2
      go_ret
      exact ⟨rfl, _, rfl⟩
theorem eq_trueS {α : Type} [DecidableEq α] (a : α) : decide (a = a) = true := decide_eq_true rfl
set_option maxRecDepth 100000 in
set_option maxHeartbeats 2000000 in
theorem sameSt_true (A : Option Addr) (n c : Nat) (RA : Option Addr) (rn rc : Nat) (PA : Option Addr) (pn pc : Nat) (HA : Option Addr) (hn hc : Nat) (A' : Option Addr) (c' : Nat) (RA' : Option Addr) (rc' : Nat) (PA' : Option Addr) (pc' : Nat) (HA' : Option Addr) (hc' : Nat) (S : St) (w : World)
    (hR : StR w w.heap.size A n RA rn PA pn HA hn S) (hR' : StR w w.heap.size A' n RA' rn PA' pn HA' hn S) (h1 : n ≤ 1000000000000000000) (h2 : rn ≤ 1000000000000000000) (h3 : pn ≤ 1000000000000000000) (h4 : hn ≤ 1000000000000000000) :
    Calls Tryz.prog 10 #[.agg #[.slice A n c, .slice RA rn rc, .slice PA pn pc, .slice HA hn hc], .agg #[.slice A' n c', .slice RA' rn rc', .slice PA' pn pc', .slice HA' hn hc']] w fun e w' => e = .returned (.bool true) ∧ Below w.heap.size w w' := by
  have hb1 := below_new w (.cells #[.slice A n c, .slice RA rn rc, .slice PA pn pc, .slice HA hn hc] 28)
  have DS := (Blk.new w 28 #[.slice A n c, .slice RA rn rc, .slice PA pn pc, .slice HA hn hc]).alloc (.cells #[.slice A' n c', .slice RA' rn rc', .slice PA' pn pc', .slice HA' hn hc'] 28)
  have DT := Blk.new (w.alloc (.cells #[.slice A n c, .slice RA rn rc, .slice PA pn pc, .slice HA hn hc] 28)) 28 #[.slice A' n c', .slice RA' rn rc', .slice PA' pn pc', .slice HA' hn hc']
  have hb2 := hb1.alloc hb1.size (.cells #[.slice A' n c', .slice RA' rn rc', .slice PA' pn pc', .slice HA' hn hc'] 28)
  rw [World.size_alloc] at DT
  have R1 := hR.below hb2
  have R2 := hR'.below hb2
  have E1 := Lib.hid (fun W r r' => equal_u64 A A' n c n c' w.heap.size w.heap.size S.a S.a W r r' h1 h1)
  have E2 := Lib.hid (fun W r r' => equal_int RA RA' rn rc rn rc' w.heap.size w.heap.size S.r S.r W r r' h2 h2)
  have E3 := Lib.hid (fun W r r' => equal_pin PA PA' pn pc pc' w.heap.size w.heap.size S.p W r r' h3)
  have E4 := Lib.hid (fun W r r' => equal_slotS HA HA' hn hc hc' w.heap.size w.heap.size S.l W r r' h4)
  simp only [eq_trueS] at E1 E2
  obtain ⟨s0, s1, s2, s3⟩ := DS.four
  obtain ⟨t0, t1, t2, t3⟩ := DT.four
  clear hR hR'
  go_enter Tryz.func10, Tryz.ntmps10
  go_wp2_with fail
  refine Calls.mono (E1.out _ (by exact R1.a) (by exact R2.a)) ?_
  rintro e w1 ⟨rfl, q1, rfl⟩
  go_wp2_with fail
  refine Calls.mono (E2.out _ (by exact R1.r) (by exact R2.r)) ?_
  rintro e w2 ⟨rfl, q2, rfl⟩
  go_wp2_with fail
  refine Calls.mono (E3.out _ (by exact R1.p) (by exact R2.p)) ?_
  rintro e w3 ⟨rfl, q3, rfl⟩
  go_wp2_with fail
  refine Calls.mono (E4.out _ (by exact R1.l) (by exact R2.l)) ?_
  rintro e w4 ⟨rfl, q4, rfl⟩
  go_wp2_with fail
  go_ret
  exact ⟨by first | rfl | simp, by first | exact below_drewN hb2 _ | exact below_drewN (below_drewN (below_drewN (below_drewN hb2 _) _) _) _⟩
end Go.Proofs.YtccmichgbkmdpaaGreatDoor

namespace Go.Proofs.YtccmichgbkmdpaaGreatDoor
open Go.RowKit
theorem take_preK {α : Type} (Z : List α) (I : Nat) (vs : List α) (h : I ≤ Z.length) : (splice Z I vs).take (I + vs.length) = Z.take I ++ vs := by
  unfold splice
  rw [← List.append_assoc, List.take_append_of_le_length (by simp; omega), List.take_of_length_le (by simp; omega)]
theorem spliceAK {α : Type} (Z : List α) (I : Nat) (vs T : List α) (h : I + vs.length + T.length ≤ Z.length) :
    (splice (splice Z I vs) (I + vs.length) T).take (I + vs.length + T.length) = Z.take I ++ (vs ++ T) := by
  rw [take_preK _ _ _ (by rw [length_splice _ _ _ (by omega)]; omega), take_preK _ _ _ (by omega), List.append_assoc]
theorem spliceBK {α : Type} (Z : List α) (I : Nat) (vs T : List α) (h : I + vs.length + T.length ≤ Z.length) :
    (splice (splice Z (I + vs.length) T) I vs).take (I + vs.length + T.length) = Z.take I ++ (vs ++ T) := by
  have h1 : (splice Z (I + vs.length) T).take I = Z.take I := by
    unfold splice
    rw [List.take_append_of_le_length (by simp; omega), List.take_take, Nat.min_eq_left (by omega)]
  have h2 : ((splice Z (I + vs.length) T).drop (I + vs.length)).take T.length = T := by
    unfold splice
    rw [List.drop_append_of_le_length (by simp; omega), List.drop_of_length_le (by simp; omega), List.nil_append, List.take_left]
  unfold splice at h1 h2 ⊢
  rw [h1, ← List.append_assoc, List.take_append, List.take_of_length_le (by simp; omega)]
  rw [show I + vs.length + T.length - (Z.take I ++ vs).length = T.length by simp; omega, h2, List.append_assoc]
theorem splice_lenK {α : Type} (Z : List α) (I : Nat) (cs : List α) (h : I + cs.length ≤ Z.length) : (splice Z I cs).length = Z.length := length_splice Z I cs h
theorem grownBy_setRowK {w : World} {g : Nat} {cs : Array Value} : w.grownBy (w.setRow g cs) (some g) := by
  refine ⟨rfl, rfl, rfl, by simp [World.setRow], fun b hb hne => ?_⟩
  exact setRow_other _ _ _ _ (fun e => hne (by rw [e]))
end Go.Proofs.YtccmichgbkmdpaaGreatDoor

namespace Go.Proofs.YtccmichgbkmdpaaGreatDoor
open Go.RowKit
theorem info_op : (Tryz.prog.info? 41).map (fun i => (i.zero, i.size, i.bytes)) = some (some (.agg #[.int .i64 0, .int .i64 0, .int .i64 0, .int .i64 0, .int .u64 0]), 5, 40) := by kernel_rfl
set_option maxHeartbeats 400000 in
theorem clone_op (A : Option Addr) (n c B : Nat) (xs : List Value) (w : World) (hr : Reads w B 5 A n xs) (hB : B ≤ w.heap.size) (h1 : ∀ u ∈ xs, u.oneCell' = true) (hn : n ≤ 1000000) :
    Calls Tryz.prog 9 #[.slice A n c] w fun e w' => ∃ A' c', e = .returned (.slice A' n c') ∧ w'.ownsRow w.heap.size 41 5 (.slice A' n c') n xs ∧ Below w.heap.size w w' := by
  obtain ⟨i0, hi, hz0, hz1, hz2⟩ := info_parts info_op
  rcases A with _ | ad
  · have hm : n = 0 := by
      rcases Nat.eq_zero_or_pos n with h0 | h0
      · exact h0
      · obtain ⟨ad, h, _⟩ := hr.2 h0
        cases h
    subst hm
    have hx : xs = [] := List.eq_nil_of_length_eq_zero (by simpa using hr.1)
    subst hx
    have hnil := fun (w : World) => Lib.run_eql_slice_nil (P := Tryz.prog) w 29 41 none 0 c 0 0 Tryz.underlying29
    go_enter Tryz.func9, Tryz.ntmps9
    go_wp2
    go_ret
    exact ⟨none, 0, rfl, World.ownsRow_nil _ _ _ _, Below.refl _ _⟩
  · have hnil := fun (w : World) => Lib.run_eql_slice_nil (P := Tryz.prog) w 29 41 (some ad) n c 0 0 Tryz.underlying29
    have hmade := World.ownsRow_made (e := 41) (size := 5) w #[] 0 (Nat.le_refl w.heap.size) (Nat.zero_le _) rfl
    go_enter Tryz.func9, Tryz.ntmps9
    go_wp2_with (at_builtin; refine wpList_append_any _ rfl (.tmp 5) (.tmp 6) 29 rfl w.heap.size 41 i0 _ 5 40 Tryz.underlying29 hi hz0 hz1 hz2 rfl (by decide) (.slice (some ⟨w.heap.size, 0, none⟩) 0 0) 0 [] rfl hmade B (some ad) n c xs rfl (hr.alloc hB _) h1 (by simp [maxLen]; omega) (by omega) (by simp) ?_; rintro v' w1 hown hgr hbl -; obtain ⟨A', c', rfl⟩ := own_slice hown)
    go_ret
    exact ⟨A', c', rfl, by simpa using hown, ((Below.refl _ _).alloc (Nat.le_refl _) _).grown hgr (by simp) (by simp [Value.ownBlock])⟩
end Go.Proofs.YtccmichgbkmdpaaGreatDoor

namespace Go.Proofs.YtccmichgbkmdpaaGreatDoor
open Go.RowKit
theorem k_size_op : (Tryz.prog.info? 41).map (·.size) = some 5 := by kernel_rfl
theorem k_zero_op : (Tryz.prog.info? 41).map (·.zero) = some (some (.agg #[.int .i64 0, .int .i64 0, .int .i64 0, .int .i64 0, .int .u64 0])) := by kernel_rfl
theorem zero_op1 : (Builtin.zeroCells (Value.agg #[.int .i64 0, .int .i64 0, .int .i64 0, .int .i64 0, .int .u64 0]).cells 1).toList = [.int .i64 0, .int .i64 0, .int .i64 0, .int .i64 0, .int .u64 0] := by kernel_rfl
set_option maxRecDepth 100000 in
set_option maxHeartbeats 1000000 in
theorem delete_op (base : Nat) (A : Option Addr) (n c i : Nat) (xs : List Value) (w : World)
    (hown : w.ownsRow base 41 5 (.slice A n c) n xs) (hi : i < n) (hn : n ≤ 1000) (o1 : ∀ u ∈ xs, u.oneCell' = true) :
    Calls Tryz.prog 8 #[.slice A n c, .int .i64 i, .int .i64 ((i + 1 : Nat) : Int)] w fun e w' => ∃ A' c', e = .returned (.slice A' (n - 1) c') ∧ w'.ownsRow base 41 5 (.slice A' (n - 1) c') (n - 1) (xs.take (i * 5) ++ xs.drop ((i + 1) * 5)) ∧ Below base w w' ∧ w.drew.grownBy w' (Value.slice A n c).ownBlock := by
  obtain ⟨g, rfl⟩ : ∃ g, A = some ⟨g, 0, none⟩ := by
    rcases hown.2 with ⟨h2, h3⟩ | ⟨g, cap, cur, hv, -⟩
    · omega
    · injection hv with h1 h2 h3; exact ⟨g, h1⟩
  obtain ⟨cur, hbg, hg, hnc, hcm, hcl, htk⟩ := own_open hown
  have hxl : xs.length = n * 5 := hown.1
  obtain ⟨i1, hi1⟩ : ∃ i1, i1 = i + 1 := ⟨_, rfl⟩
  obtain ⟨n1, hn1⟩ : ∃ n1, n1 = n - 1 := ⟨_, rfl⟩
  obtain ⟨m, hm⟩ : ∃ m, m = n - i1 := ⟨_, rfl⟩
  obtain ⟨T, hT⟩ : ∃ T, T = xs.drop (i1 * 5) := ⟨_, rfl⟩
  have hTl : T.length = m * 5 := by rw [hT, List.length_drop, hxl]; omega
  have oT : ∀ u ∈ T, u.oneCell' = true := fun u hu => o1 u (by rw [hT] at hu; exact List.mem_of_mem_drop hu)
  have hTc : ∀ j v, T[j]? = some v → cur[i1 * 5 + j]? = some v := by
    intro j v hj
    rw [hT, List.getElem?_drop, ← htk, List.getElem?_take] at hj
    split at hj
    · exact hj
    · cases hj
  obtain ⟨Y1, hY1⟩ : ∃ Y1, Y1 = splice cur (i * 5) T := ⟨_, rfl⟩
  obtain ⟨Y2, hY2⟩ : ∃ Y2 : List Value, Y2 = splice Y1 (n1 * 5) [.int .i64 0, .int .i64 0, .int .i64 0, .int .i64 0, .int .u64 0] := ⟨_, rfl⟩
  have hY1l : Y1.length = c * 5 := by rw [hY1, splice_lenK _ _ _ (by omega), hcl]
  have hY2l : Y2.length = c * 5 := by rw [hY2, splice_lenK _ _ _ (by simp; omega), hY1l]
  have hfin : Y2.take (n1 * 5) = xs.take (i * 5) ++ T := by
    have h1 : Y2.take (n1 * 5) = Y1.take (n1 * 5) := by
      rw [hY2]
      unfold splice
      rw [List.take_append_of_le_length (by simp; omega), List.take_take, Nat.min_self]
    have h2 := take_preK cur (i * 5) T (by omega)
    rw [hTl, show i * 5 + m * 5 = n1 * 5 by omega, ← hY1] at h2
    rw [h1, h2, ← htk, List.take_take, Nat.min_eq_left (by omega)]
  rw [← hi1, ← hT, ← hfin]
  obtain ⟨W1, hW1⟩ : ∃ W1, W1 = w.drew.setRow g Y1.toArray := ⟨_, rfl⟩
  have hg1 : W1.heap[g]? = some (.cells Y1.toArray 41 (0, 0)) := by rw [hW1]; exact setRow_heap w.drew g _ _ _ _ hg
  have hap : ∀ ty ad sc, (m = 0 ∨ ad = ⟨g, i1 * 5, none⟩) → (Builtin.append_ #[29, 29] ty #[.slice (some ⟨g, 0, none⟩) i c, .slice (some ad) (n - i1) sc]).run Tryz.prog w.drew = .ok (.slice (some ⟨g, 0, none⟩) n1 c) W1 := fun ty ad sc had => by
    rw [hW1, hY1, ← hm]
    have := run_appendK (P := Tryz.prog) w.drew 29 ty 41 5 g i c ad m sc cur 41 T Tryz.underlying29 k_size_op hg hTl
      (fun j v hj => by
        rcases had with h0 | rfl
        · have := (List.getElem?_eq_some_iff.1 hj).1
          omega
        · rw [Addr.add_lit, cell_of_row w.drew _ _ _ _ _ hg]; simpa using hTc j v hj) (by omega) (by omega) oT
    rw [show n1 = i + m by omega]
    exact this
  obtain ⟨W2, hW2⟩ : ∃ W2, W2 = W1.setRow g Y2.toArray := ⟨_, rfl⟩
  have hg2 : W2.heap[g]? = some (.cells Y2.toArray 41 (0, 0)) := by rw [hW2]; exact setRow_heap W1 g _ _ _ _ hg1
  have hcp2 : ∀ ty dc, (Builtin.clear_ #[29] ty #[.slice (some ⟨g, n1 * 5, none⟩) (n - n1) dc]).run Tryz.prog W1 = .ok (.tuple #[]) W2 := fun ty dc => by
    rw [hW2, hY2]
    exact run_clearK (P := Tryz.prog) W1 29 ty 41 5 g (n1 * 5) (n - n1) dc Y1 41 _ _ Tryz.underlying29 k_zero_op (by rw [show n - n1 = 1 by omega]; exact zero_op1) hg1 (by omega) (by simp; omega) (by decide)
  have hb2 : Below base w W2 := by
    rw [hW2, hW1]
    exact below_setRow (below_setRow (Below.refl base w).drew hbg _) hbg _
  have hown2 : W2.ownsRow base 41 5 (.slice (some ⟨g, 0, none⟩) n1 c) n1 (Y2.take (n1 * 5)) := own_close Y2 hbg hg2 (by omega) hcm hY2l
  have q1 : ((i : Int) == i1) = false := by simp; omega
  have q11 : (i == i1) = false := by simp; omega
  have q2 : i ≤ n := by omega
  have q3 : ¬ c = i := by omega
  have q4 : i1 ≤ n := by omega
  have q5 : i ≤ i1 := by omega
  have q6 : ¬ c = n1 := by omega
  have q7 : n1 ≤ n := by omega
  have q8 : i ≤ c := by omega
  have q9 : n ≤ c := by omega
  have q10 : i1 ≤ c := by omega
  have q12 : ¬ n = i := by omega
  rw [← hn1]
  have HO := Lib.hid hown2
  have HB := Lib.hid hb2
  have HGr : Hid (w.drew.grownBy W2 (some g)) := by
    show World.grownBy _ _ _
    rw [hW2, hW1]
    exact grownBy_setRowK.trans grownBy_setRowK
  have HAp := Lib.hid hap
  have HC2 := Lib.hid hcp2
  by_cases hci : c = i1
  · have hcn : n = i1 := by omega
    have hm0 : m = 0 := by omega
    clear hi1 hn1 hown2 hb2 hcp2 hap hfin hY2 hY1 hTc hTl hT htk hg1 hg2 hW1 hW2 hm hg hown
    subst hcn
    obtain rfl : c = n := hci
    have ha0 := Lib.hid (fun ty => HAp.out ty ⟨g, 0, none⟩ (c - c) (.inl hm0))
    rw [Nat.sub_self] at ha0
    go_enter Tryz.func8, Tryz.ntmps8
    go_wp2
    go_region_law (refine step_append_run rfl (.tmp 22) (.tmp 25) 29 29 rfl (.slice (some ⟨g, 0, none⟩) i c) (.slice (some ⟨g, 0, none⟩) 0 0) (by simp [Act.eval, Act.put]) (by simp [Act.eval, Act.put]) (ha0.out _) ?_)
    all_goals
      go_wp2_with (refine wpList_clear_run _ rfl (.tmp 31) 29 rfl (.slice (some ⟨g, n1 * 5, none⟩) (c - n1) (c - n1)) rfl (HC2.out _ _) ?_)
      go_ret
      exact ⟨_, _, rfl, HO.out, HB.out, HGr.out⟩
  · clear hi1 hn1 hown2 hb2 hcp2 hap hfin hY2 hY1 hTc hTl hT htk hg1 hg2 hW1 hW2 hm hg hown
    go_enter Tryz.func8, Tryz.ntmps8
    go_wp2
    go_region_law (refine step_append_run rfl (.tmp 22) (.tmp 25) 29 29 rfl (.slice (some ⟨g, 0, none⟩) i c) (.slice (some ⟨g, i1 * 5, none⟩) (n - i1) (c - i1)) (by simp [Act.eval, Act.put]) (by simp [Act.eval, Act.put]) (HAp.out _ _ _ (.inr rfl)) ?_)
    all_goals
      go_wp2_with (refine wpList_clear_run _ rfl (.tmp 31) 29 rfl (.slice (some ⟨g, n1 * 5, none⟩) (n - n1) (c - n1)) rfl (HC2.out _ _) ?_)
      go_ret
      exact ⟨_, _, rfl, HO.out, HB.out, HGr.out⟩
end Go.Proofs.YtccmichgbkmdpaaGreatDoor

namespace Go.Proofs.YtccmichgbkmdpaaGreatDoor
open Go.RowKit
theorem k_size_told : (Tryz.prog.info? 38).map (·.size) = some 2 := by kernel_rfl
theorem k_zero_told : (Tryz.prog.info? 38).map (·.zero) = some (some (.agg #[.int .i64 0, .int .u64 0])) := by kernel_rfl
theorem zero_told1 : (Builtin.zeroCells (Value.agg #[.int .i64 0, .int .u64 0]).cells 1).toList = [.int .i64 0, .int .u64 0] := by kernel_rfl
set_option maxRecDepth 100000 in
set_option maxHeartbeats 1000000 in
theorem delete_told (base : Nat) (A : Option Addr) (n c i : Nat) (xs : List Value) (w : World)
    (hown : w.ownsRow base 38 2 (.slice A n c) n xs) (hi : i < n) (hn : n ≤ 1000) (o1 : ∀ u ∈ xs, u.oneCell' = true) :
    Calls Tryz.prog 12 #[.slice A n c, .int .i64 i, .int .i64 ((i + 1 : Nat) : Int)] w fun e w' => ∃ A' c', e = .returned (.slice A' (n - 1) c') ∧ w'.ownsRow base 38 2 (.slice A' (n - 1) c') (n - 1) (xs.take (i * 2) ++ xs.drop ((i + 1) * 2)) ∧ Below base w w' ∧ w.drew.grownBy w' (Value.slice A n c).ownBlock := by
  obtain ⟨g, rfl⟩ : ∃ g, A = some ⟨g, 0, none⟩ := by
    rcases hown.2 with ⟨h2, h3⟩ | ⟨g, cap, cur, hv, -⟩
    · omega
    · injection hv with h1 h2 h3; exact ⟨g, h1⟩
  obtain ⟨cur, hbg, hg, hnc, hcm, hcl, htk⟩ := own_open hown
  have hxl : xs.length = n * 2 := hown.1
  obtain ⟨i1, hi1⟩ : ∃ i1, i1 = i + 1 := ⟨_, rfl⟩
  obtain ⟨n1, hn1⟩ : ∃ n1, n1 = n - 1 := ⟨_, rfl⟩
  obtain ⟨m, hm⟩ : ∃ m, m = n - i1 := ⟨_, rfl⟩
  obtain ⟨T, hT⟩ : ∃ T, T = xs.drop (i1 * 2) := ⟨_, rfl⟩
  have hTl : T.length = m * 2 := by rw [hT, List.length_drop, hxl]; omega
  have oT : ∀ u ∈ T, u.oneCell' = true := fun u hu => o1 u (by rw [hT] at hu; exact List.mem_of_mem_drop hu)
  have hTc : ∀ j v, T[j]? = some v → cur[i1 * 2 + j]? = some v := by
    intro j v hj
    rw [hT, List.getElem?_drop, ← htk, List.getElem?_take] at hj
    split at hj
    · exact hj
    · cases hj
  obtain ⟨Y1, hY1⟩ : ∃ Y1, Y1 = splice cur (i * 2) T := ⟨_, rfl⟩
  obtain ⟨Y2, hY2⟩ : ∃ Y2 : List Value, Y2 = splice Y1 (n1 * 2) [.int .i64 0, .int .u64 0] := ⟨_, rfl⟩
  have hY1l : Y1.length = c * 2 := by rw [hY1, splice_lenK _ _ _ (by omega), hcl]
  have hY2l : Y2.length = c * 2 := by rw [hY2, splice_lenK _ _ _ (by simp; omega), hY1l]
  have hfin : Y2.take (n1 * 2) = xs.take (i * 2) ++ T := by
    have h1 : Y2.take (n1 * 2) = Y1.take (n1 * 2) := by
      rw [hY2]
      unfold splice
      rw [List.take_append_of_le_length (by simp; omega), List.take_take, Nat.min_self]
    have h2 := take_preK cur (i * 2) T (by omega)
    rw [hTl, show i * 2 + m * 2 = n1 * 2 by omega, ← hY1] at h2
    rw [h1, h2, ← htk, List.take_take, Nat.min_eq_left (by omega)]
  rw [← hi1, ← hT, ← hfin]
  obtain ⟨W1, hW1⟩ : ∃ W1, W1 = w.drew.setRow g Y1.toArray := ⟨_, rfl⟩
  have hg1 : W1.heap[g]? = some (.cells Y1.toArray 38 (0, 0)) := by rw [hW1]; exact setRow_heap w.drew g _ _ _ _ hg
  have hap : ∀ ty ad sc, (m = 0 ∨ ad = ⟨g, i1 * 2, none⟩) → (Builtin.append_ #[31, 31] ty #[.slice (some ⟨g, 0, none⟩) i c, .slice (some ad) (n - i1) sc]).run Tryz.prog w.drew = .ok (.slice (some ⟨g, 0, none⟩) n1 c) W1 := fun ty ad sc had => by
    rw [hW1, hY1, ← hm]
    have := run_appendK (P := Tryz.prog) w.drew 31 ty 38 2 g i c ad m sc cur 38 T Tryz.underlying31 k_size_told hg hTl
      (fun j v hj => by
        rcases had with h0 | rfl
        · have := (List.getElem?_eq_some_iff.1 hj).1
          omega
        · rw [Addr.add_lit, cell_of_row w.drew _ _ _ _ _ hg]; simpa using hTc j v hj) (by omega) (by omega) oT
    rw [show n1 = i + m by omega]
    exact this
  obtain ⟨W2, hW2⟩ : ∃ W2, W2 = W1.setRow g Y2.toArray := ⟨_, rfl⟩
  have hg2 : W2.heap[g]? = some (.cells Y2.toArray 38 (0, 0)) := by rw [hW2]; exact setRow_heap W1 g _ _ _ _ hg1
  have hcp2 : ∀ ty dc, (Builtin.clear_ #[31] ty #[.slice (some ⟨g, n1 * 2, none⟩) (n - n1) dc]).run Tryz.prog W1 = .ok (.tuple #[]) W2 := fun ty dc => by
    rw [hW2, hY2]
    exact run_clearK (P := Tryz.prog) W1 31 ty 38 2 g (n1 * 2) (n - n1) dc Y1 38 _ _ Tryz.underlying31 k_zero_told (by rw [show n - n1 = 1 by omega]; exact zero_told1) hg1 (by omega) (by simp; omega) (by decide)
  have hb2 : Below base w W2 := by
    rw [hW2, hW1]
    exact below_setRow (below_setRow (Below.refl base w).drew hbg _) hbg _
  have hown2 : W2.ownsRow base 38 2 (.slice (some ⟨g, 0, none⟩) n1 c) n1 (Y2.take (n1 * 2)) := own_close Y2 hbg hg2 (by omega) hcm hY2l
  have q1 : ((i : Int) == i1) = false := by simp; omega
  have q11 : (i == i1) = false := by simp; omega
  have q2 : i ≤ n := by omega
  have q3 : ¬ c = i := by omega
  have q4 : i1 ≤ n := by omega
  have q5 : i ≤ i1 := by omega
  have q6 : ¬ c = n1 := by omega
  have q7 : n1 ≤ n := by omega
  have q8 : i ≤ c := by omega
  have q9 : n ≤ c := by omega
  have q10 : i1 ≤ c := by omega
  have q12 : ¬ n = i := by omega
  rw [← hn1]
  have HO := Lib.hid hown2
  have HB := Lib.hid hb2
  have HGr : Hid (w.drew.grownBy W2 (some g)) := by
    show World.grownBy _ _ _
    rw [hW2, hW1]
    exact grownBy_setRowK.trans grownBy_setRowK
  have HAp := Lib.hid hap
  have HC2 := Lib.hid hcp2
  by_cases hci : c = i1
  · have hcn : n = i1 := by omega
    have hm0 : m = 0 := by omega
    clear hi1 hn1 hown2 hb2 hcp2 hap hfin hY2 hY1 hTc hTl hT htk hg1 hg2 hW1 hW2 hm hg hown
    subst hcn
    obtain rfl : c = n := hci
    have ha0 := Lib.hid (fun ty => HAp.out ty ⟨g, 0, none⟩ (c - c) (.inl hm0))
    rw [Nat.sub_self] at ha0
    go_enter Tryz.func12, Tryz.ntmps12
    go_wp2
    go_region_law (refine step_append_run rfl (.tmp 22) (.tmp 25) 31 31 rfl (.slice (some ⟨g, 0, none⟩) i c) (.slice (some ⟨g, 0, none⟩) 0 0) (by simp [Act.eval, Act.put]) (by simp [Act.eval, Act.put]) (ha0.out _) ?_)
    all_goals
      go_wp2_with (refine wpList_clear_run _ rfl (.tmp 31) 31 rfl (.slice (some ⟨g, n1 * 2, none⟩) (c - n1) (c - n1)) rfl (HC2.out _ _) ?_)
      go_ret
      exact ⟨_, _, rfl, HO.out, HB.out, HGr.out⟩
  · clear hi1 hn1 hown2 hb2 hcp2 hap hfin hY2 hY1 hTc hTl hT htk hg1 hg2 hW1 hW2 hm hg hown
    go_enter Tryz.func12, Tryz.ntmps12
    go_wp2
    go_region_law (refine step_append_run rfl (.tmp 22) (.tmp 25) 31 31 rfl (.slice (some ⟨g, 0, none⟩) i c) (.slice (some ⟨g, i1 * 2, none⟩) (n - i1) (c - i1)) (by simp [Act.eval, Act.put]) (by simp [Act.eval, Act.put]) (HAp.out _ _ _ (.inr rfl)) ?_)
    all_goals
      go_wp2_with (refine wpList_clear_run _ rfl (.tmp 31) 31 rfl (.slice (some ⟨g, n1 * 2, none⟩) (n - n1) (c - n1)) rfl (HC2.out _ _) ?_)
      go_ret
      exact ⟨_, _, rfl, HO.out, HB.out, HGr.out⟩
end Go.Proofs.YtccmichgbkmdpaaGreatDoor
