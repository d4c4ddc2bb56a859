/-
  Texts joined: ConcatTold SlicesTold SameSt.
-/
import Derived.Test.YtjdpcmmmdaffdabGreatDoorRows
import Derived.Lib.AppendZeros
import Derived.Deep.RegionHeld3
import Derived.StillTailTactics
import Derived.Test.YtjdpcmmmdaffdabGreatDoorG0
import Derived.Test.YtjdpcmmmdaffdabGreatDoorG10
import Derived.Test.YtjdpcmmmdaffdabGreatDoorG12
import Derived.Test.YtjdpcmmmdaffdabGreatDoorG17
import Derived.Test.YtjdpcmmmdaffdabGreatDoorG21
/-
  slices.Grow of the nil slice, slices.Concat of two slices, at []api.Told.
-/
namespace Go.Proofs.YtjdpcmmmdaffdabGreatDoor
open Go.RowKit


set_option maxRecDepth 100000 in
set_option maxHeartbeats 400000 in
theorem growTold_nil (n : Nat) (w : World) (hn : n ≤ 1000000) :
    Calls Tryz.prog 34 #[.slice none 0 0, .int .i64 n] w fun e w' => ∃ A' c', e = .returned (.slice A' 0 c') ∧ w'.ownsRow w.heap.size 38 2 (.slice A' 0 c') 0 [] ∧ Below w.heap.size w w' := by
  obtain ⟨i0, hi, hz0, hz1, hz2⟩ := info_parts info_told
  by_cases h0 : n = 0
  · subst h0
    go_enter Tryz.func34, Tryz.ntmps34
    go_wp2
    go_ret
    exact ⟨none, 0, rfl, World.ownsRow_nil _ _ _ _, Below.refl _ _⟩
  · have hw : IntKind.i64.wrap (n : Int) = n := IntWalk.i64_in _ (by omega)
    have g1 : decide (0 < n) = true := decide_eq_true (by omega)
    have hrun := fun ty => Lib.run_append_nil_zeros (P := Tryz.prog) w 31 3 ty 38 i0 _ .i64 .i64 Tryz.underlying31 Tryz.underlying3 hi hz0 n (by omega) (by rw [hz1]; decide) (by omega) (by rw [hz2]; omega)
    obtain ⟨cap, hcap, hc1, hc2⟩ : ∃ cap, cap = grownCap w n 0 38 ∧ n ≤ cap ∧ cap ≤ maxLen := ⟨_, rfl, grownCap_ge .., grownCap_le_maxLen _ _ _ _ (by unfold maxLen; omega)⟩
    rw [← hcap] at hrun
    have hsz : (Builtin.zeroCells (Value.agg #[.int .i64 0, .int .u64 0]).cells n ++ Builtin.zeroCells (Value.agg #[.int .i64 0, .int .u64 0]).cells (cap - n)).size = cap * 2 := by
      rw [Array.size_append, size_zeroCells, size_zeroCells]
      have : (Value.agg #[.int .i64 0, .int .u64 0]).cells.size = 2 := rfl
      rw [this]; omega
    generalize hcs : Builtin.zeroCells (Value.agg #[.int .i64 0, .int .u64 0]).cells n ++ Builtin.zeroCells (Value.agg #[.int .i64 0, .int .u64 0]).cells (cap - n) = cs at *
    have hfin : (w.drew.alloc (.cells cs 38)).ownsRow w.heap.size 38 2 (.slice (some ⟨w.heap.size, 0, none⟩) 0 cap) 0 [] := by
      have := own_close (w := w.drew.alloc (.cells cs 38)) (base := w.heap.size) (e := 38) (size := 2) (n := 0) (c := cap) (g := w.heap.size) cs.toList (Nat.le_refl _) (by simpa using heap_alloc_new w.drew _) (Nat.zero_le _) hc2 (by simpa using hsz)
      simpa using this
    have HF := Lib.hid hfin
    clear hfin hsz hcs hcap
    go_enter Tryz.func34, Tryz.ntmps34
    go_wp2_with (at_builtin; refine Lib.wpList_append_run _ rfl _ _ _ _ rfl _ _ rfl rfl _ _ (hrun _) ?_)
    go_ret
    exact ⟨_, _, rfl, HF.out, (Below.refl _ _).drew.alloc (Nat.le_refl _) _⟩

theorem Reads.twoT {w : World} {B : Nat} {A : Option Addr} {x y : Value} (h : Reads w B 1 A 2 [x, y]) : ∃ ad, A = some ad ∧ ad.block < B ∧ w.cell? ad = some x ∧ w.cell? ⟨ad.block, ad.off + 1, none⟩ = some y := by
  obtain ⟨ad, u, e, hb, hu, hc⟩ := h.at_ (k := 0) (by decide)
  obtain ⟨ad', u', e', hb', hu', hc'⟩ := h.at_ (k := 1) (by decide)
  obtain rfl : ad' = ad := by rw [e] at e'; injection e' with e'; exact e'.symm
  simp at hu hu'
  subst hu
  subst hu'
  exact ⟨ad', e, hb, by simpa [Addr.add] using hc, by rw [addr_add_pos _ _ (by decide)] at hc'; exact hc'⟩

set_option maxRecDepth 100000 in
set_option maxHeartbeats 1000000 in
theorem concat2_told (A1 : Option Addr) (q1 c1 : Nat) (xs1 : List Value) (A2 : Option Addr) (q2 c2 : Nat) (xs2 : List Value) (Av : Option Addr) (cv : Nat) (w : World)
    (hv : Reads w w.heap.size 1 Av 2 [.slice A1 q1 c1, .slice A2 q2 c2]) (h1 : Reads w w.heap.size 2 A1 q1 xs1) (h2 : Reads w w.heap.size 2 A2 q2 xs2)
    (o1 : ∀ u ∈ xs1, u.oneCell' = true) (o2 : ∀ u ∈ xs2, u.oneCell' = true) (hq1 : q1 ≤ 400) (hq2 : q2 ≤ 400) :
    Calls Tryz.prog 16 #[.slice Av 2 cv] w fun e w' => ∃ A' c', e = .returned (.slice A' (q1 + q2) c') ∧ w'.ownsRow w.heap.size 38 2 (.slice A' (q1 + q2) c') (q1 + q2) (xs1 ++ xs2) ∧ Below w.heap.size w w' := by
  obtain ⟨i0, hi, hz0, hz1, hz2⟩ := info_parts info_told
  obtain ⟨ad, rfl, hbl, k0, k1⟩ := hv.twoT
  obtain ⟨S, hS⟩ : ∃ S, S = q1 + q2 := ⟨_, rfl⟩
  have wS : IntKind.i64.wrap ((q1 : Int) + q2) = (S : Int) := by rw [IntWalk.i64_in _ (by omega)]; omega
  have wQ : IntKind.i64.wrap (q1 : Int) = (q1 : Int) := IntWalk.i64_in _ (by omega)
  have HG := Lib.hid (fun w => growTold_nil S w (by omega))
  have HS := Lib.hid hS
  rw [← hS]
  clear hS hv
  go_enter Tryz.func16, Tryz.ntmps16
  go_wp2_with fail
  go_loop [3, 5, 11] (fun sz _ i => (i = .int .i64 0 ∧ sz = .int .i64 0) ∨ (i = .int .i64 1 ∧ sz = .int .i64 q1) ∨ (i = .int .i64 2 ∧ sz = .int .i64 S)) (fun _ _ i => 2 - (intOf i).toNat)
  case atStart => exact .inl ⟨rfl, rfl⟩
  case round =>
    rcases hrel with ⟨rfl, rfl⟩ | ⟨rfl, rfl⟩ | ⟨rfl, rfl⟩
    · go_wp2_with fail
      go_round
      case rel => exact .inr (.inl ⟨rfl, rfl⟩)
      case measure => simp [intOf]
    · go_wp2_with fail
      go_round
      case rel => exact .inr (.inr ⟨rfl, rfl⟩)
      case measure => simp [intOf]
    · go_wp2_with fail
      refine (HG.out _).mono ?_
      rintro e w1 ⟨A', c', rfl, hown, hb⟩
      go_wp2
      go_loopw [6, 8, 27] (fun ns _ i wr => Below w.heap.size w wr ∧ ((∃ A' c', i = .int .i64 0 ∧ ns = .slice A' 0 c' ∧ wr.ownsRow w.heap.size 38 2 (.slice A' 0 c') 0 []) ∨
        (∃ A' c', i = .int .i64 1 ∧ ns = .slice A' q1 c' ∧ wr.ownsRow w.heap.size 38 2 (.slice A' q1 c') q1 xs1) ∨
        (∃ A' c', i = .int .i64 2 ∧ ns = .slice A' S c' ∧ wr.ownsRow w.heap.size 38 2 (.slice A' S c') S (xs1 ++ xs2)))) (fun _ _ i _ => 2 - (intOf i).toNat)
      case atStart => exact ⟨hb, .inl ⟨_, _, rfl, rfl, hown⟩⟩
      case round =>
        obtain ⟨hb, ⟨A', c', rfl, rfl, hown⟩ | ⟨A', c', rfl, rfl, hown⟩ | ⟨A', c', rfl, rfl, hown⟩⟩ := hrel
        · have m0 := (hb.cell (p := ad) hbl).trans k0
          go_wp2_with (at_builtin; refine wpList_append_any _ rfl (.tmp 31) (.tmp 32) 31 rfl w.heap.size 38 i0 _ 2 16 Tryz.underlying31 hi hz0 hz1 hz2 rfl (by decide) (.slice A' 0 c') 0 [] rfl hown w.heap.size A1 q1 c1 xs1 rfl (h1.below hb) o1 (by simp [maxLen]; omega) (by omega) hb.size ?_; rintro v' w2 hown2 hgr hbl2 -; obtain ⟨A2', c2', rfl⟩ := own_slice hown2)
          have hb2 : Below w.heap.size w w2 := hb.grown hgr hb.size (fun g hg => (hown.lt g hg).1)
          rw [Nat.zero_add, List.nil_append] at hown2
          go_roundw
          case rel => exact ⟨hb2, .inr (.inl ⟨_, _, rfl, rfl, hown2⟩)⟩
          case measure => simp [intOf]
        · have m0 := (hb.cell (p := ⟨ad.block, ad.off + 1, none⟩) hbl).trans k1
          go_wp2_with (at_builtin; refine wpList_append_any _ rfl (.tmp 31) (.tmp 32) 31 rfl w.heap.size 38 i0 _ 2 16 Tryz.underlying31 hi hz0 hz1 hz2 rfl (by decide) (.slice A' q1 c') q1 xs1 rfl hown w.heap.size A2 q2 c2 xs2 rfl (h2.below hb) o2 (by simp [maxLen]; omega) (by omega) hb.size ?_; rintro v' w2 hown2 hgr hbl2 -; obtain ⟨A2', c2', rfl⟩ := own_slice hown2)
          have hb2 : Below w.heap.size w w2 := hb.grown hgr hb.size (fun g hg => (hown.lt g hg).1)
          rw [← HS.out] at hown2
          go_roundw
          case rel => exact ⟨hb2, .inr (.inr ⟨_, _, rfl, by rw [HS.out], hown2⟩)⟩
          case measure => simp [intOf]
        · go_wp2
          go_ret
          exact ⟨A', c', rfl, hown, hb⟩
end Go.Proofs.YtjdpcmmmdaffdabGreatDoor

/-
  slices.Equal, Clone at []api.Told.
-/
namespace Go.Proofs.YtjdpcmmmdaffdabGreatDoor
open Go.RowKit

set_option maxHeartbeats 400000 in
theorem equal_told (A A2 : Option Addr) (n c c2 B B2 : Nat) (l : List ToldV) (w : World) (hr : Reads w B 2 A n (toldsC l)) (hr2 : Reads w B2 2 A2 n (toldsC l)) (hn : n ≤ 1000000000000000000) :
    Calls Tryz.prog 12 #[.slice A n c, .slice A2 n c2] w fun e w' => e = .returned (.bool true) ∧ ∃ q, w' = w.drewN q := by
  go_enter Tryz.func12, Tryz.ntmps12
  go_wp2
  go_loopw [13] (fun i wr => ∃ j : Nat, j ≤ n ∧ i = .int .i64 j ∧ ∃ q, wr = w.drewN q) (fun i _ => n - (intOf i).toNat)
  case atStart => exact ⟨0, Nat.zero_le _, rfl, 0, rfl⟩
  case round =>
    obtain ⟨j, hj, rfl, q, rfl⟩ := hrel
    by_cases hlt : j < n
    · obtain ⟨ad, r, rfl, _, hs, c0, c1⟩ := hr.told hlt
      obtain ⟨ad2, r2, rfl, _, hs2, d0, d1⟩ := hr2.told hlt
      obtain rfl : r = r2 := Option.some.inj (hs.symm.trans hs2)
      obtain ⟨x, y⟩ := r
      dsimp only at *
      have hlt' : (j : Int) < n := by omega
      clear hs hs2
      go_wp2
      go_quiet (fail)
      go_wp2
      go_roundw
      case rel => exact ⟨j + 1, by omega, by go_num, _, rfl⟩
      case measure => simp [intOf]; omega
    · go_wp2
      go_ret
      exact ⟨rfl, _, rfl⟩

set_option maxHeartbeats 400000 in
theorem clone_told (A : Option Addr) (n c B : Nat) (xs : List Value) (w : World) (hr : Reads w B 2 A n xs) (hB : B ≤ w.heap.size) (h1 : ∀ u ∈ xs, u.oneCell' = true) (hn : n ≤ 1000000) :
    Calls Tryz.prog 14 #[.slice A n c] w fun e w' => ∃ A' c', e = .returned (.slice A' n c') ∧ w'.ownsRow w.heap.size 38 2 (.slice A' n c') n xs ∧ Below w.heap.size w w' := by
  obtain ⟨i0, hi, hz0, hz1, hz2⟩ := info_parts info_told
  rcases A with _ | ad
  · have hm : n = 0 := by
      rcases Nat.eq_zero_or_pos n with h0 | h0
      · exact h0
      · obtain ⟨ad, h, _⟩ := hr.2 h0
        cases h
    subst hm
    have hx : xs = [] := List.eq_nil_of_length_eq_zero (by simpa using hr.1)
    subst hx
    have hnil := fun (w : World) => Lib.run_eql_slice_nil (P := Tryz.prog) w 31 38 none 0 c 0 0 Tryz.underlying31
    go_enter Tryz.func14, Tryz.ntmps14
    go_wp2
    go_ret
    exact ⟨none, 0, rfl, World.ownsRow_nil _ _ _ _, Below.refl _ _⟩
  · have hnil := fun (w : World) => Lib.run_eql_slice_nil (P := Tryz.prog) w 31 38 (some ad) n c 0 0 Tryz.underlying31
    have hmade := World.ownsRow_made (e := 38) (size := 2) w #[] 0 (Nat.le_refl w.heap.size) (Nat.zero_le _) rfl
    go_enter Tryz.func14, Tryz.ntmps14
    go_wp2_with (at_builtin; refine wpList_append_any _ rfl (.tmp 5) (.tmp 6) 31 rfl w.heap.size 38 i0 _ 2 16 Tryz.underlying31 hi hz0 hz1 hz2 rfl (by decide) (.slice (some ⟨w.heap.size, 0, none⟩) 0 0) 0 [] rfl hmade B (some ad) n c xs rfl (hr.alloc hB _) h1 (by simp [maxLen]; omega) (by omega) (by simp) ?_; rintro v' w1 hown hgr hbl -; obtain ⟨A', c', rfl⟩ := own_slice hown)
    go_ret
    exact ⟨A', c', rfl, by simpa using hown, ((Below.refl _ _).alloc (Nat.le_refl _) _).grown hgr (by simp) (by simp [Value.ownBlock])⟩

end Go.Proofs.YtjdpcmmmdaffdabGreatDoor

/-
  keep.sameStore, where both are the same.
-/
namespace Go.Proofs.YtjdpcmmmdaffdabGreatDoor
open Go.RowKit

set_option maxHeartbeats 400000 in
theorem equal_slotS (A A2 : Option Addr) (n c c2 B B2 : Nat) (l : List Slot) (w : World) (hr : Reads w B 3 A n (slotsC l)) (hr2 : Reads w B2 3 A2 n (slotsC l)) (hn : n ≤ 1000000000000000000) :
    Calls Tryz.prog 31 #[.slice A n c, .slice A2 n c2] w fun e w' => e = .returned (.bool true) ∧ ∃ q, w' = w.drewN q := by
  go_enter Tryz.func31, Tryz.ntmps31
  go_wp2
  go_loopw [13] (fun i wr => ∃ j : Nat, j ≤ n ∧ i = .int .i64 j ∧ ∃ q, wr = w.drewN q) (fun i _ => n - (intOf i).toNat)
  case atStart => exact ⟨0, Nat.zero_le _, rfl, 0, rfl⟩
  case round =>
    obtain ⟨j, hj, rfl, q, rfl⟩ := hrel
    by_cases hlt : j < n
    · obtain ⟨ad, r, rfl, _, hs, c0, c1, cu⟩ := hr.slot hlt
      obtain ⟨ad2, r2, rfl, _, hs2, d0, d1, du⟩ := hr2.slot hlt
      obtain rfl : r = r2 := Option.some.inj (hs.symm.trans hs2)
      obtain ⟨x, y, z⟩ := r
      dsimp only at *
      have hlt' : (j : Int) < n := by omega
      clear hs hs2
      go_wp2
      go_quiet (fail)
      go_wp2
      go_roundw
      case rel => exact ⟨j + 1, by omega, by go_num, _, rfl⟩
      case measure => simp [intOf]; omega
    · go_wp2
      go_ret
      exact ⟨rfl, _, rfl⟩


theorem eq_trueS {α : Type} [DecidableEq α] (a : α) : decide (a = a) = true := decide_eq_true rfl
set_option maxRecDepth 100000 in
set_option maxHeartbeats 2000000 in
theorem sameSt_true (A : Option Addr) (n c : Nat) (RA : Option Addr) (rn rc : Nat) (PA : Option Addr) (pn pc : Nat) (HA : Option Addr) (hn hc : Nat) (A' : Option Addr) (c' : Nat) (RA' : Option Addr) (rc' : Nat) (PA' : Option Addr) (pc' : Nat) (HA' : Option Addr) (hc' : Nat) (S : St) (w : World)
    (hR : StR w w.heap.size A n RA rn PA pn HA hn S) (hR' : StR w w.heap.size A' n RA' rn PA' pn HA' hn S) (h1 : n ≤ 1000000000000000000) (h2 : rn ≤ 1000000000000000000) (h3 : pn ≤ 1000000000000000000) (h4 : hn ≤ 1000000000000000000) :
    Calls Tryz.prog 11 #[.agg #[.slice A n c, .slice RA rn rc, .slice PA pn pc, .slice HA hn hc], .agg #[.slice A' n c', .slice RA' rn rc', .slice PA' pn pc', .slice HA' hn hc']] w fun e w' => e = .returned (.bool true) ∧ Below w.heap.size w w' := by
  have hb1 := below_new w (.cells #[.slice A n c, .slice RA rn rc, .slice PA pn pc, .slice HA hn hc] 28)
  have DS := (Blk.new w 28 #[.slice A n c, .slice RA rn rc, .slice PA pn pc, .slice HA hn hc]).alloc (.cells #[.slice A' n c', .slice RA' rn rc', .slice PA' pn pc', .slice HA' hn hc'] 28)
  have DT := Blk.new (w.alloc (.cells #[.slice A n c, .slice RA rn rc, .slice PA pn pc, .slice HA hn hc] 28)) 28 #[.slice A' n c', .slice RA' rn rc', .slice PA' pn pc', .slice HA' hn hc']
  have hb2 := hb1.alloc hb1.size (.cells #[.slice A' n c', .slice RA' rn rc', .slice PA' pn pc', .slice HA' hn hc'] 28)
  rw [World.size_alloc] at DT
  have R1 := hR.below hb2
  have R2 := hR'.below hb2
  have E1 := Lib.hid (fun W r r' => equal_u64 A A' n c n c' w.heap.size w.heap.size S.a S.a W r r' h1 h1)
  have E2 := Lib.hid (fun W r r' => equal_int RA RA' rn rc rn rc' w.heap.size w.heap.size S.r S.r W r r' h2 h2)
  have E3 := Lib.hid (fun W r r' => equal_pin PA PA' pn pc pc' w.heap.size w.heap.size S.p W r r' h3)
  have E4 := Lib.hid (fun W r r' => equal_slotS HA HA' hn hc hc' w.heap.size w.heap.size S.l W r r' h4)
  simp only [eq_trueS] at E1 E2
  obtain ⟨s0, s1, s2, s3⟩ := DS.four
  obtain ⟨t0, t1, t2, t3⟩ := DT.four
  clear hR hR'
  go_enter Tryz.func11, Tryz.ntmps11
  go_wp2_with fail
  refine Calls.mono (E1.out _ (by exact R1.a) (by exact R2.a)) ?_
  rintro e w1 ⟨rfl, q1, rfl⟩
  go_wp2_with fail
  refine Calls.mono (E2.out _ (by exact R1.r) (by exact R2.r)) ?_
  rintro e w2 ⟨rfl, q2, rfl⟩
  go_wp2_with fail
  refine Calls.mono (E3.out _ (by exact R1.p) (by exact R2.p)) ?_
  rintro e w3 ⟨rfl, q3, rfl⟩
  go_wp2_with fail
  refine Calls.mono (E4.out _ (by exact R1.l) (by exact R2.l)) ?_
  rintro e w4 ⟨rfl, q4, rfl⟩
  go_wp2_with fail
  go_ret
  exact ⟨by first | rfl | simp, by first | exact below_drewN hb2 _ | exact below_drewN (below_drewN (below_drewN (below_drewN hb2 _) _) _) _⟩

end Go.Proofs.YtjdpcmmmdaffdabGreatDoor
