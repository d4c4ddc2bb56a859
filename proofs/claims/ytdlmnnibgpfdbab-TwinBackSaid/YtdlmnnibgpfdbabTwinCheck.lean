/-
  package twin: Check, gaps$1.
-/
import Derived.Test.YtdlmnnibgpfdbabRows
import Derived.Test.YtdlmnnibgpfdbabTwinOnes
import Derived.Deep.RegionHeld3
import Derived.StillTailTactics
import Derived.IntWalk
namespace Go.Proofs.Ytdlmnnibgpfdbab
open Go.RowKit

theorem roomsE_step {all : Nat} {l : List Rm} {e : Int} {j : Nat} {r : Rm} (hj : l[j]? = some r) : roomsE all (l.drop j) e = if pieceB r all = true ∧ e ≤ r.loc then roomsE all (l.drop (j + 1)) (r.loc + r.len) else 3 := by
  obtain ⟨h1, h2⟩ := List.getElem?_eq_some_iff.1 hj
  rw [List.drop_eq_getElem_cons h1, h2]
  rfl

set_option maxRecDepth 100000 in
set_option maxHeartbeats 1000000 in
theorem twinCheck_any (o : Int) (A : Option Addr) (n c : Nat) (l : List Rm) (w : World) (hr : Reads w w.heap.size 3 A n (roomsC l)) (hn : n ≤ 9223372036854775807) :
    Calls Try.prog 13 #[.agg #[.int .i64 o, .slice A n c]] w fun e w' => e = .returned (.int .i64 (twinE o l)) ∧ Below w.heap.size w w' := by
  have H := fun w => twinNew_any o w
  have B0 := Blk.new w 24 #[.int .i64 o, .slice A n c]
  have hb0 := below_new w (.cells #[.int .i64 o, .slice A n c] 24)
  have hll : l.length = n := by have := hr.1; rw [roomsC_length] at this; omega
  have HL := Lib.hid hll
  clear hll
  unfold newE newO at H
  by_cases ho : 0 ≤ o ∧ o ≤ 8
  · rw [if_pos ho] at H
    rw [if_pos ho] at H
    have hE : twinE o l = roomsE (2 ^ o.toNat) l 0 := by unfold twinE; rw [if_pos ho]
    rw [hE]
    clear hE
    obtain ⟨K, rfl⟩ : ∃ K : Nat, o = K := ⟨o.toNat, by omega⟩
    have hK : K ≤ 8 := by omega
    rw [Int.toNat_natCast]
    clear ho
    have H := Lib.hid H
    have HP := Lib.hid (fun r w => piece_any r K w hK)
    obtain ⟨all, ha, ha1, ha2⟩ : ∃ all : Nat, all = 2 ^ K ∧ 1 ≤ all ∧ all ≤ 256 := ⟨2 ^ K, rfl, Nat.pos_of_ne_zero (by simp), Nat.pow_le_pow_right (by decide) hK⟩
    rw [← ha] at HP
    rw [← ha]
    have hp2 : ((2 : Int) ^ K) = (all : Int) := by rw [ha]; simp
    have wa : IntKind.i64.wrap ((2 : Int) ^ K) = (all : Int) := by rw [hp2]; exact IntWalk.i64_in _ (by omega)
    clear hp2
    have HA := Lib.hid ha
    clear ha
    go_enter Try.func13, Try.ntmps13
    go_wp2_with fail
    refine (H.out _).mono ?_
    rintro e w1 ⟨rfl, hb1⟩
    have B1 := B0.below hb1 B0.lt
    have hb01 := below_step hb0 hb1
    have hr1 := (hr.below hb01).more hb01.size
    have k0 := B1.cell 0
    have k1 := B1.cell 1
    simp only [List.getElem?_toArray, List.getElem?_cons_zero, List.getElem?_cons_succ] at k0 k1
    have hb2 := below_step hb01 (below_new w1 (.cells #[.int .i64 K, .slice none 0 0] 24))
    have hr2 := (hr1.alloc (Nat.le_refl _) (.cells #[.int .i64 K, .slice none 0 0] 24)).more (B' := (w1.alloc (.cells #[.int .i64 K, .slice none 0 0] 24)).heap.size) (by simp)
    have B2 := B1.alloc (.cells #[.int .i64 K, .slice none 0 0] 24)
    have m0 := B2.cell 0
    have m1 := B2.cell 1
    simp only [List.getElem?_toArray, List.getElem?_cons_zero, List.getElem?_cons_succ] at m0 m1
    clear hb0 B0 hb1 hb01
    go_wp2
    clear k0 k1 m0 m1
    generalize w1.alloc (.cells #[.int .i64 K, .slice none 0 0] 24) = w2 at hb2 hr2 B2 ⊢
    go_loopw [5, 20] (fun en i wr => ∃ (j E : Nat), j ≤ n ∧ i = .int .i64 j ∧ en = .int .i64 E ∧ E ≤ 256 ∧ Below w2.heap.size w2 wr ∧ Hid (roomsE all l 0 = roomsE all (l.drop j) E)) (fun _ i _ => n - (intOf i).toNat)
    case atStart => exact ⟨0, 0, Nat.zero_le _, rfl, rfl, by omega, Below.refl _ _, rfl⟩
    case round =>
      obtain ⟨j, E, hj, rfl, rfl, hE, hb, HD⟩ := hrel
      have B3 := B2.below hb B2.lt
      have k0 := B3.cell 0
      have k1 := B3.cell 1
      simp only [List.getElem?_toArray, List.getElem?_cons_zero, List.getElem?_cons_succ] at k0 k1
      by_cases hlt : j < n
      · obtain ⟨ad, r, rfl, had, hx, cx0, cx1, cx2⟩ := (hr2.below hb).room hlt
        have HS := Lib.hid (roomsE_step (all := all) (e := E) hx)
        obtain ⟨a, d, u⟩ := r
        dsimp only at *
        have C := Blk.new wr 33 #[.int .i64 a, .int .i64 d, .int .i64 u]
        have b0 := C.cell 0
        have b1 := C.cell 1
        have b2 := C.cell 2
        simp only [List.getElem?_toArray, List.getElem?_cons_zero, List.getElem?_cons_succ] at b0 b1 b2
        have HPr := HP.out ⟨a, d, u⟩
        dsimp only at HPr
        by_cases hp : pieceB ⟨a, d, u⟩ all = true
        · obtain ⟨k, a', u', hk, hre, hk2, -, hk3, -⟩ := (pieceB_iff hK).1 (by rw [← HA.out]; exact hp)
          obtain ⟨rfl, rfl, rfl⟩ := Rm.mk.inj hre
          rw [← HA.out] at hk2
          obtain ⟨d, hd⟩ : ∃ d, d = 2 ^ k := ⟨_, rfl⟩
          rw [← hd] at hk2 HPr hp HS b1 C cx1
          rw [hp] at HPr
          rw [hp] at HS
          clear hk hd hk3 hre hx hp
          by_cases hEa : E ≤ a'
          · have w2 : IntKind.i64.wrap ((a' : Int) + d) = ((a' + d : Nat) : Int) := by rw [IntWalk.i64_in _ (by omega)]; omega
            obtain ⟨S, hS⟩ : ∃ S, a' + d = S := ⟨_, rfl⟩
            rw [hS] at w2 hk2
            have HS2 : Hid (roomsE all l 0 = roomsE all (l.drop (j + 1)) S) := by
              show _ = _
              rw [HD.out, HS.out, if_pos ⟨rfl, by omega⟩, ← hS]
              simp
            have g1 : decide (a' < E) = false := decide_eq_false (by omega)
            have B4 := B3.alloc (.cells #[.int .i64 a', .int .i64 d, .int .i64 u'] 33)
            have hb4 := hb.alloc hb.size (.cells #[.int .i64 a', .int .i64 d, .int .i64 u'] 33)
            have o0 := B4.cell 0
            simp only [List.getElem?_toArray, List.getElem?_cons_zero, List.getElem?_cons_succ] at o0
            clear hS hEa hE HS
            go_wp2
            go_region_held3 (fun w' => w'.cell? ⟨w.heap.size, 0, none⟩ = some (.int .i64 K) ∧ w'.cell? ⟨wr.heap.size, 0, none⟩ = some (.int .i64 a') ∧ w'.cell? ⟨wr.heap.size, 1, none⟩ = some (.int .i64 d) ∧ w'.cell? ⟨wr.heap.size, 2, none⟩ = some (.int .i64 u')) (go_keep)
              (first
                | (go_at_call 33; refine (HPr _).mono ?_; rintro e w3 ⟨rfl, hb3⟩; have D := B4.drew.below hb3 B4.lt; have q0 := D.cell 0; have C := C.drew.below hb3 C.lt; have b0 := C.cell 0; have b1 := C.cell 1; have b2 := C.cell 2; simp only [List.getElem?_toArray, List.getElem?_cons_zero, List.getElem?_cons_succ] at q0 b0 b1 b2; have HB3 := Lib.hid hb3))
            all_goals
              have hbx := (hb4.drew).trans (HB3.out.mono hb4.size)
              go_wp2
              go_roundw
              case rel => exact ⟨j + 1, S, by omega, by go_num, rfl, Nat.le_trans hk2 ha2, hbx, HS2⟩
              case measure => simp [intOf]; omega
          · have g1 : decide (a' < E) = true := decide_eq_true (by omega)
            have HS2 : Hid (roomsE all l 0 = 3) := by
              show _ = _
              rw [HD.out, HS.out, if_neg (fun h => hEa (by have := h.2; omega))]
            have B4 := B3.alloc (.cells #[.int .i64 a', .int .i64 d, .int .i64 u'] 33)
            have hb4 := hb.alloc hb.size (.cells #[.int .i64 a', .int .i64 d, .int .i64 u'] 33)
            have o0 := B4.cell 0
            simp only [List.getElem?_toArray, List.getElem?_cons_zero, List.getElem?_cons_succ] at o0
            clear hEa hE HS
            go_wp2
            go_region_held3 (fun w' => w'.cell? ⟨w.heap.size, 0, none⟩ = some (.int .i64 K) ∧ w'.cell? ⟨wr.heap.size, 0, none⟩ = some (.int .i64 a') ∧ w'.cell? ⟨wr.heap.size, 1, none⟩ = some (.int .i64 d) ∧ w'.cell? ⟨wr.heap.size, 2, none⟩ = some (.int .i64 u')) (go_keep)
              (first
                | (go_at_call 33; refine (HPr _).mono ?_; rintro e w3 ⟨rfl, hb3⟩; have D := B4.drew.below hb3 B4.lt; have q0 := D.cell 0; have C := C.drew.below hb3 C.lt; have b0 := C.cell 0; have b1 := C.cell 1; have b2 := C.cell 2; simp only [List.getElem?_toArray, List.getElem?_cons_zero, List.getElem?_cons_succ] at q0 b0 b1 b2; have HB3 := Lib.hid hb3))
            all_goals
              have hbx := (hb4.drew).trans (HB3.out.mono hb4.size)
              go_wp2
              go_ret
              exact ⟨ret_int HS2.out.symm, hb2.trans (hbx.mono hb2.size)⟩
        · rw [Bool.not_eq_true] at hp
          rw [hp] at HPr
          have HS2 : Hid (roomsE all l 0 = 3) := by
            show _ = _
            rw [HD.out, HS.out, if_neg (fun h => by rw [hp] at h; cases h.1)]
          have B4 := B3.alloc (.cells #[.int .i64 a, .int .i64 d, .int .i64 u] 33)
          have hb4 := hb.alloc hb.size (.cells #[.int .i64 a, .int .i64 d, .int .i64 u] 33)
          have o0 := B4.cell 0
          simp only [List.getElem?_toArray, List.getElem?_cons_zero, List.getElem?_cons_succ] at o0
          clear hp hE HS hx
          go_wp2
          refine wp_region_held_drew (S := fun w' => w'.cell? ⟨w.heap.size, 0, none⟩ = some (.int .i64 K) ∧ w'.cell? ⟨wr.heap.size, 0, none⟩ = some (.int .i64 a) ∧ w'.cell? ⟨wr.heap.size, 1, none⟩ = some (.int .i64 d) ∧ w'.cell? ⟨wr.heap.size, 2, none⟩ = some (.int .i64 u)) (by kernel_rfl) ⟨o0, b0, b1, b2⟩ (fun hHeld => ?_)
          refine wpAnyH_take (i := 0) (v := .agg #[.int .i64 a, .int .i64 d, .int .i64 u]) (List.getElem?_toArray.trans rfl) (by kernel_rfl) (by kernel_rfl) (by kernel_rfl) (fun _ _ _ h => h) (Or.inl ⟨by rfl, fun w _ => by go_simp⟩) hHeld ?_
          try simp only [Act.put, List.setIfInBounds_toArray, List.set_cons_zero, List.set_cons_succ]
          refine wpAnyH_take (i := 1) (v := .pointer (some ⟨w.heap.size, 0, none⟩)) (List.getElem?_toArray.trans rfl) (by kernel_rfl) (by kernel_rfl) (by kernel_rfl) (fun _ _ _ h => h) (Or.inl ⟨by rfl, fun w _ => by go_simp⟩) hHeld ?_
          try simp only [Act.put, List.setIfInBounds_toArray, List.set_cons_zero, List.set_cons_succ]
          refine wpAnyH_take (i := 2) (v := .int .i64 K) (List.getElem?_toArray.trans rfl) (by kernel_rfl) (by kernel_rfl) (by kernel_rfl) (fun _ _ _ h => h) (Or.inl ⟨by rfl, fun w _ => by go_simp⟩) hHeld ?_
          try simp only [Act.put, List.setIfInBounds_toArray, List.set_cons_zero, List.set_cons_succ]
          refine wpAnyH_take (i := 3) (v := .int .i64 all) (List.getElem?_toArray.trans rfl) (by kernel_rfl) (by kernel_rfl) (by kernel_rfl) (fun _ _ _ h => h) (Or.inl ⟨by rfl, fun w _ => by go_simp⟩) hHeld ?_
          try simp only [Act.put, List.setIfInBounds_toArray, List.set_cons_zero, List.set_cons_succ]
          refine wpAnyH_ready (rs := [4]) (by kernel_rfl) (by simp) (AllReadyH.cons (List.getElem?_toArray.trans rfl) (fun K hK => ?_) AllReadyH.nil)
          go_simp
          go_at_call 33
          refine (HPr _).mono ?_
          rintro e w3 ⟨rfl, hb3⟩
          have D := B4.drew.below hb3 B4.lt
          have q0 := D.cell 0
          have C := C.drew.below hb3 C.lt
          have b0 := C.cell 0
          have b1 := C.cell 1
          have b2 := C.cell 2
          simp only [List.getElem?_toArray, List.getElem?_cons_zero, List.getElem?_cons_succ] at q0 b0 b1 b2
          have HB3 := Lib.hid hb3
          refine hK.out _ _ ⟨q0, b0, b1, b2⟩ (fun hHeld => ?_)
          clear hK
          try simp only [Act.put, List.setIfInBounds_toArray, List.set_cons_zero, List.set_cons_succ]
          refine wpAnyH_take (i := 5) (v := .bool true) (List.getElem?_toArray.trans rfl) (by kernel_rfl) (by kernel_rfl) (by kernel_rfl) (fun _ _ _ h => h) (Or.inl ⟨by rfl, fun w _ => by go_simp⟩) hHeld ?_
          try simp only [Act.put, List.setIfInBounds_toArray, List.set_cons_zero, List.set_cons_succ]
          refine wpAnyH_take (i := 6) (v := .bool true) (List.getElem?_toArray.trans rfl) (by kernel_rfl) (by kernel_rfl) (by kernel_rfl) (fun _ _ _ h => h) (Or.inl ⟨by rfl, fun w _ => by go_simp⟩) hHeld ?_
          try simp only [Act.put, List.setIfInBounds_toArray, List.set_cons_zero, List.set_cons_succ]
          refine wpAnyH_take (i := 7) (v := undef) (List.getElem?_toArray.trans rfl) (by kernel_rfl) (by kernel_rfl) (by kernel_rfl) (fun _ _ _ h => h) (Or.inr ⟨by rfl, rfl⟩) hHeld ?_
          try simp only [Act.put, List.setIfInBounds_toArray, List.set_cons_zero, List.set_cons_succ]
          refine wpAnyH_take (i := 8) (v := undef) (List.getElem?_toArray.trans rfl) (by kernel_rfl) (by kernel_rfl) (by kernel_rfl) (fun _ _ _ h => h) (Or.inr ⟨by rfl, rfl⟩) hHeld ?_
          try simp only [Act.put, List.setIfInBounds_toArray, List.set_cons_zero, List.set_cons_succ]
          refine wpAnyH_take (i := 9) (v := undef) (List.getElem?_toArray.trans rfl) (by kernel_rfl) (by kernel_rfl) (by kernel_rfl) (fun _ _ _ h => h) (Or.inr ⟨by rfl, rfl⟩) hHeld ?_
          try simp only [Act.put, List.setIfInBounds_toArray, List.set_cons_zero, List.set_cons_succ]
          refine wpAnyH_take (i := 10) (v := undef) (List.getElem?_toArray.trans rfl) (by kernel_rfl) (by kernel_rfl) (by kernel_rfl) (fun _ _ _ h => h) (Or.inr ⟨by rfl, rfl⟩) hHeld ?_
          try simp only [Act.put, List.setIfInBounds_toArray, List.set_cons_zero, List.set_cons_succ]
          refine wpAnyH_take (i := 11) (v := .bool true) (List.getElem?_toArray.trans rfl) (by kernel_rfl) (by kernel_rfl) (by kernel_rfl) (fun _ _ _ h => h) (Or.inl ⟨by rfl, fun w _ => by go_simp⟩) hHeld ?_
          try simp only [Act.put, List.setIfInBounds_toArray, List.set_cons_zero, List.set_cons_succ]
          refine wpAnyH_done (by kernel_rfl) ?_ _
          all_goals
            have hbx := (hb4.drew).trans (HB3.out.mono hb4.size)
            go_wp2
            go_ret
            exact ⟨ret_int HS2.out.symm, hb2.trans (hbx.mono hb2.size)⟩
      · have hD2 : Hid (roomsE all l 0 = 0) := by
          show _ = _
          rw [HD.out, List.drop_of_length_le (by rw [HL.out]; omega)]
          rfl
        go_wp2
        go_ret
        exact ⟨ret_int hD2.out.symm, hb2.trans (hb.mono hb2.size)⟩
  · rw [if_neg ho] at H
    rw [if_neg ho] at H
    have hE : twinE o l = 4 := by unfold twinE; rw [if_neg ho]
    rw [hE]
    clear hE
    have H := Lib.hid H
    go_enter Try.func13, Try.ntmps13
    go_wp2_with fail
    refine (H.out _).mono ?_
    rintro e w1 ⟨rfl, hb1⟩
    go_wp2
    go_ret
    exact ⟨rfl, below_step (below_step hb0 hb1) (below_new _ _)⟩
end Go.Proofs.Ytdlmnnibgpfdbab
