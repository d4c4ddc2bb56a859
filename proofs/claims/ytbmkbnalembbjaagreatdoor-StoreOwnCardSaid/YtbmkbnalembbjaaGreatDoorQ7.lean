/-
  Texts joined: Gaps GapFirst WalksTrue PlanGapsFn.
-/
import Derived.Deep.RegionHeld3
import Derived.IntWalk
import Derived.Test.YtbmkbnalembbjaaGreatDoorQ0
import Derived.Test.YtbmkbnalembbjaaGreatDoorQ2
import Derived.Test.YtbmkbnalembbjaaGreatDoorQ3
import Derived.Test.YtbmkbnalembbjaaGreatDoorQ6
namespace Go.Proofs.YtbmkbnalembbjaaGreatDoor
open Go.RowKit
def gspotsL (a : List Int) : List Spot := if checkE a = 0 then spotsL a else []
set_option maxHeartbeats 400000 in
theorem gspots_any (A : Option Addr) (n c : Nat) (a : List Int) (w : World) (hr : Reads w w.heap.size 1 A n (a.map (.int .u64))) (hnc : n ≤ c) (ha : ∀ x ∈ a, (Lit.int .u64 x).wf = true) :
    Calls Tryz.prog 98 #[.slice A n c] w fun e w' => Below w.heap.size w w' ∧ ∃ A' c', e = .returned (.tuple #[.slice A' (gspotsL a).length c', .int .i64 (checkE a)]) ∧ w'.ownsRow w.heap.size 165 5 (.slice A' (gspotsL a).length c') (gspotsL a).length (spotsC (gspotsL a)) := by
  have H1 := Lib.hid (fun w hr => checkFn_any A n c a w hr hnc ha)
  by_cases hE : checkE a = 0
  · have H2 := fun w hr => spots_any A n c a w hr ha
    rw [(checkE_ok.1 hE).1] at H2
    have H2 := Lib.hid H2
    rw [show gspotsL a = spotsL a by unfold gspotsL; rw [if_pos hE]]
    rw [hE] at H1 ⊢
    clear hE
    go_enter Tryz.func98, Tryz.ntmps98
    go_wp2_with fail
    refine (H1.out _ hr).mono ?_
    rintro e w1 ⟨rfl, hb1⟩
    go_wp2_with fail
    refine (H2.out _ ((hr.below hb1).more hb1.size)).mono ?_
    rintro e w2 ⟨hb2, A', c', rfl, hown⟩
    go_wp2
    go_ret2
    exact ⟨below_step hb1 hb2, A', c', rfl, own_mono hown hb1.size⟩
  · rw [show gspotsL a = [] by unfold gspotsL; rw [if_neg hE]]
    generalize checkE a = E at *
    have hE1 : (E != 0) = true := by simpa using hE
    clear hE
    go_enter Tryz.func98, Tryz.ntmps98
    go_wp2_with fail
    refine (H1.out _ hr).mono ?_
    rintro e w1 ⟨rfl, hb1⟩
    go_wp2
    go_ret2
    exact ⟨hb1, none, 0, rfl, World.ownsRow_nil _ _ _ _⟩
set_option maxHeartbeats 400000 in
theorem glong_ok (r b t : Int) (f : Bool) (w : World) (hE : headE r b t f = 0) :
    Calls Tryz.prog 103 #[.agg #[.int .i64 r, .int .i64 b, .int .i64 t, .bool f]] w fun e w' => e = .returned (.int .i64 (1 + r + b)) ∧ Below w.heap.size w w' := by
  have H := Lib.hid (fun w => hlongc_ok r b t f w hE)
  clear hE
  go_enter Tryz.func103, Tryz.ntmps103
  go_wp2_with fail
  refine (H.out _).mono ?_
  rintro e w1 ⟨rfl, hb1⟩
  go_wp2
  go_ret
  exact ⟨rfl, below_step (below_new _ _) hb1⟩
theorem info_run : (Tryz.prog.info? 133).map (fun i => (i.zero, i.size, i.bytes)) = some (some (.agg #[.int .i64 0, .int .i64 0]), 2, 16) := by kernel_rfl
set_option maxRecDepth 100000 in
set_option maxHeartbeats 1000000 in
theorem ggaps_any (A : Option Addr) (n c : Nat) (l : List Spot) (w : World) (hr : Reads w w.heap.size 5 A n (spotsC l)) (hn : n ≤ 256) (hl : ∀ s ∈ l, headE s.r s.b s.t s.f = 0) :
    Calls Tryz.prog 99 #[.slice A n c] w fun e w' => Below w.heap.size w w' ∧ ∃ A' c', e = .returned (.slice A' (gapsL l).length c') ∧ w'.ownsRow w.heap.size 133 2 (.slice A' (gapsL l).length c') (gapsL l).length (runsC (gapsL l)) := by
  have hll : l.length = n := by have := hr.1; rw [spotsC_length] at this; omega
  have HL := Lib.hid hll
  have HH := Lib.hid hl
  obtain ⟨i0, hi, hz0, hz1, hz2⟩ := info_parts info_run
  clear hll hl
  go_enter Tryz.func99, Tryz.ntmps99
  go_wp2
  go_loopw [3, 4, 5, 8] (fun o _ _ i wr => ∃ (j : Nat) (A' : Option Addr) (k c' : Nat) (acc : List Rn) (prev : Bool), j ≤ n ∧ i = .int .i64 j ∧ o = .slice A' k c' ∧ k ≤ j ∧ Hid (k = acc.length) ∧ Hid (gapsL l = gapsA acc prev (l.drop j)) ∧ Hid (∀ s, 0 < j → l[j - 1]? = some s → s.f = prev) ∧ Hid (j = 0 → prev = false) ∧ Hid (prev = true → 0 < k) ∧ Hid (∀ r ∈ acc, 0 ≤ r.len ∧ r.len ≤ 256 * j) ∧
    wr.ownsRow w.heap.size 133 2 (.slice A' k c') k (runsC acc) ∧ Below w.heap.size w wr) (fun _ _ _ i _ => n - (intOf i).toNat)
  case atStart => exact ⟨0, none, 0, 0, [], false, Nat.zero_le _, rfl, rfl, Nat.le_refl _, rfl, rfl, fun s h => absurd h (by omega), fun _ => rfl, (fun h => by cases h), (fun r h => by cases h), World.ownsRow_nil _ _ _ _, Below.refl _ _⟩
  case round =>
    obtain ⟨j, A', k, c', acc, prev, hj, rfl, rfl, hkj, hk, hG, hpv, hp0, hpk, hacc, hown, hb⟩ := hrel
    by_cases hlt : j < n
    · obtain ⟨ad, s, rfl, had, hs, c0, c1, c2, c3, c4⟩ := (hr.below hb).spot hlt
      have HD := Lib.hid (drop_of_get hs)
      have HSM : Hid (s ∈ l) := List.mem_of_getElem? hs
      have HS := Lib.hid hs
      have hE := headE_ok.1 (HH.out s HSM.out)
      have HG := Lib.hid (fun w => glong_ok s.r s.b s.t s.f w (HH.out s HSM.out))
      obtain ⟨r0, r1, b0, b1, t0, t1, l1, -⟩ := hE
      clear hs
      have HNP : Hid (∀ s', 0 < j + 1 → l[j + 1 - 1]? = some s' → s'.f = s.f) := by
        intro s' _ h
        rw [Nat.add_sub_cancel, HS.out] at h
        rw [← Option.some.inj h]
      obtain ⟨loc, r, b, t, f⟩ := s
      dsimp only at *
      have hown0 := hown.alloc (.cells #[.int .i64 loc, .int .i64 r, .int .i64 b, .int .i64 t, .bool f] 165)
      have hb0 := hb.alloc hb.size (.cells #[.int .i64 loc, .int .i64 r, .int .i64 b, .int .i64 t, .bool f] 165)
      have B0 := Blk.new wr 165 #[.int .i64 loc, .int .i64 r, .int .i64 b, .int .i64 t, .bool f]
      cases f
      · have HG2 : Hid (gapsL l = gapsA acc false (l.drop (j + 1))) := by
          show _ = _
          rw [hG.out, HD.out]
          simp only [gapsA]
          rfl
        clear B0
        go_wp2
        go_roundw
        case rel => exact ⟨j + 1, A', k, c', acc, false, by omega, by go_num, rfl, by omega, hk, HG2, HNP, fun _ => rfl, (fun h => by cases h), fun r hr => by have := hacc.out r hr; omega, hown0, hb0⟩
        case measure => simp [intOf]; omega
      · cases prev
        · have HG2 : Hid (gapsL l = gapsA (acc ++ [⟨loc, 1 + r + b⟩]) true (l.drop (j + 1))) := by
            show _ = _
            rw [hG.out, HD.out]
            simp only [gapsA]
            rfl
          have k0 := B0.cell 0
          have k1 := B0.cell 1
          have k2 := B0.cell 2
          have k3 := B0.cell 3
          have k4 := B0.cell 4
          simp only [List.getElem?_toArray, List.getElem?_cons_zero, List.getElem?_cons_succ] at k0 k1 k2 k3 k4
          by_cases hj0 : j = 0
          · have h0 : ¬ (0 < (j : Int)) := by omega
            have h0' : decide (0 < j) = false := by simp [hj0]
            clear hj0
            go_wp2
            go_region_held3 (fun w' => w'.cell? ⟨wr.heap.size, 0, none⟩ = some (.int .i64 loc) ∧ w'.cell? ⟨wr.heap.size, 1, none⟩ = some (.int .i64 r) ∧ w'.cell? ⟨wr.heap.size, 2, none⟩ = some (.int .i64 b) ∧ w'.cell? ⟨wr.heap.size, 3, none⟩ = some (.int .i64 t) ∧ w'.cell? ⟨wr.heap.size, 4, none⟩ = some (.bool true)) (go_keep)
              (first
                | (go_at_call 103; refine (HG.out _).mono ?_; rintro e w2 ⟨rfl, hb2⟩; have q0 := (hb2.cell (p := ⟨wr.heap.size, 0, none⟩) (by simp)).trans k0; have q1 := (hb2.cell (p := ⟨wr.heap.size, 1, none⟩) (by simp)).trans k1; have q2 := (hb2.cell (p := ⟨wr.heap.size, 2, none⟩) (by simp)).trans k2; have q3 := (hb2.cell (p := ⟨wr.heap.size, 3, none⟩) (by simp)).trans k3; have q4 := (hb2.cell (p := ⟨wr.heap.size, 4, none⟩) (by simp)).trans k4;
                   have D2 := B0.drew.below hb2 (by simp); have hown2 := (own_below hown0.drew hb2).alloc (.cells #[.int .i64 loc, .int .i64 (1 + r + b)] 133); have hb02 := hb0.drew.trans (hb2.mono hb0.size); have hb03 := hb02.alloc hb02.size (.cells #[.int .i64 loc, .int .i64 (1 + r + b)] 133); have D3 := D2.alloc (.cells #[.int .i64 loc, .int .i64 (1 + r + b)] 133); have hnew := reads_new w2 (runC ⟨loc, 1 + r + b⟩) 133 1 2 rfl)
                | (refine step_append_any _ (by rfl) (.tmp 13) (.tmp 20) 126 (by rfl) w.heap.size 133 i0 _ 2 16 Tryz.underlying126 hi hz0 hz1 hz2 rfl (by omega) (.slice A' k c') k _ (by rfl) hown2 (w2.heap.size + 1) (some ⟨w2.heap.size, 0, none⟩) 1 1 (runC ⟨loc, 1 + r + b⟩) (by rfl) hnew (by simp [runC, Value.oneCell']) (by simp [maxLen]; omega) (by omega) (by have := hb03.size; exact this) ?_; rintro v' w3 hown3 hgr hbl -; obtain ⟨A'', c'', rfl⟩ := own_slice hown3;
                   have D4 := D3.grown hgr (fun e => own_blk_ne hown2 D3 (by decide) e.symm); have s0 := D4.cell 0; have s1 := D4.cell 1; have s2 := D4.cell 2; have s3 := D4.cell 3; have s4 := D4.cell 4; simp only [List.getElem?_toArray, List.getElem?_cons_zero, List.getElem?_cons_succ] at s0 s1 s2 s3 s4))
            go_wp2
            have hb4 : Below w.heap.size w w3 := hb03.grown hgr hb03.size (fun g hg => (hown2.lt g hg).1)
            go_roundw
            case rel => exact ⟨j + 1, A'', k + 1, c'', acc ++ [⟨loc, 1 + r + b⟩], true, by omega, by go_num, rfl, by omega, by show _ = _; rw [List.length_append, ← hk.out]; rfl, HG2, HNP, (fun h => absurd h (by omega)), (fun _ => Nat.succ_pos _), (fun x hx => by
              rcases List.mem_append.1 hx with hx | hx
              · have := hacc.out x hx; omega
              · obtain rfl := List.mem_singleton.1 hx
                dsimp only
                omega), by rw [runsC_snoc]; exact hown3, hb4⟩
            case measure => simp [intOf]; omega
          · obtain ⟨p, rfl⟩ : ∃ p, j = p + 1 := ⟨j - 1, by omega⟩
            obtain ⟨ad', s', e', had', hs', -, -, -, -, d4⟩ := (hr.below hb).spot (j := p) (by omega)
            obtain rfl : ad' = ad := by injection e' with e'; exact e'.symm
            rw [hpv.out s' (by omega) (by simpa using hs')] at d4
            have hp1 : ((p + 1 : Nat) : Int) - 1 = p := by omega
            have h0 : 0 < ((p + 1 : Nat) : Int) := by omega
            clear hs' hj0
            have d4' : ∀ o, (wr.alloc o).cell? ⟨(ad'.add (p * 5)).block, (ad'.add (p * 5)).off + 1 + 3, none⟩ = some (.bool false) := fun o => by
              rw [World.cell?_alloc_lt _ _ _ (by dsimp only; rw [block_of_add]; have := hb.size; omega)]
              exact d4
            clear d4
            go_wp2
            go_region_held3 (fun w' => w'.cell? ⟨wr.heap.size, 0, none⟩ = some (.int .i64 loc) ∧ w'.cell? ⟨wr.heap.size, 1, none⟩ = some (.int .i64 r) ∧ w'.cell? ⟨wr.heap.size, 2, none⟩ = some (.int .i64 b) ∧ w'.cell? ⟨wr.heap.size, 3, none⟩ = some (.int .i64 t) ∧ w'.cell? ⟨wr.heap.size, 4, none⟩ = some (.bool true)) (go_keep)
              (first
                | (go_at_call 103; refine (HG.out _).mono ?_; rintro e w2 ⟨rfl, hb2⟩; have q0 := (hb2.cell (p := ⟨wr.heap.size, 0, none⟩) (by simp)).trans k0; have q1 := (hb2.cell (p := ⟨wr.heap.size, 1, none⟩) (by simp)).trans k1; have q2 := (hb2.cell (p := ⟨wr.heap.size, 2, none⟩) (by simp)).trans k2; have q3 := (hb2.cell (p := ⟨wr.heap.size, 3, none⟩) (by simp)).trans k3; have q4 := (hb2.cell (p := ⟨wr.heap.size, 4, none⟩) (by simp)).trans k4;
                   have D2 := B0.drew.below hb2 (by simp); have hown2 := (own_below hown0.drew hb2).alloc (.cells #[.int .i64 loc, .int .i64 (1 + r + b)] 133); have hb02 := hb0.drew.trans (hb2.mono hb0.size); have hb03 := hb02.alloc hb02.size (.cells #[.int .i64 loc, .int .i64 (1 + r + b)] 133); have D3 := D2.alloc (.cells #[.int .i64 loc, .int .i64 (1 + r + b)] 133); have hnew := reads_new w2 (runC ⟨loc, 1 + r + b⟩) 133 1 2 rfl)
                | (refine step_append_any _ (by rfl) (.tmp 13) (.tmp 20) 126 (by rfl) w.heap.size 133 i0 _ 2 16 Tryz.underlying126 hi hz0 hz1 hz2 rfl (by omega) (.slice A' k c') k _ (by rfl) hown2 (w2.heap.size + 1) (some ⟨w2.heap.size, 0, none⟩) 1 1 (runC ⟨loc, 1 + r + b⟩) (by rfl) hnew (by simp [runC, Value.oneCell']) (by simp [maxLen]; omega) (by omega) (by have := hb03.size; exact this) ?_; rintro v' w3 hown3 hgr hbl -; obtain ⟨A'', c'', rfl⟩ := own_slice hown3;
                   have D4 := D3.grown hgr (fun e => own_blk_ne hown2 D3 (by decide) e.symm); have s0 := D4.cell 0; have s1 := D4.cell 1; have s2 := D4.cell 2; have s3 := D4.cell 3; have s4 := D4.cell 4; simp only [List.getElem?_toArray, List.getElem?_cons_zero, List.getElem?_cons_succ] at s0 s1 s2 s3 s4))
            go_wp2
            have hb4 : Below w.heap.size w w3 := hb03.grown hgr hb03.size (fun g hg => (hown2.lt g hg).1)
            go_roundw
            case rel => exact ⟨p + 1 + 1, A'', k + 1, c'', acc ++ [⟨loc, 1 + r + b⟩], true, by omega, by go_num, rfl, by omega, by show _ = _; rw [List.length_append, ← hk.out]; rfl, HG2, HNP, (fun h => absurd h (by omega)), (fun _ => Nat.succ_pos _), (fun x hx => by
              rcases List.mem_append.1 hx with hx | hx
              · have := hacc.out x hx; omega
              · obtain rfl := List.mem_singleton.1 hx
                dsimp only
                omega), by rw [runsC_snoc]; exact hown3, hb4⟩
            case measure => simp [intOf]; omega
        · have hj0 : 0 < j := by
            rcases Nat.eq_zero_or_pos j with h | h
            · have := hp0.out h; cases this
            · exact h
          obtain ⟨p, rfl⟩ : ∃ p, j = p + 1 := ⟨j - 1, by omega⟩
          obtain ⟨ad', s', e', had', hs', -, -, -, -, d4⟩ := (hr.below hb).spot (j := p) (by omega)
          obtain rfl : ad' = ad := by injection e' with e'; exact e'.symm
          rw [hpv.out s' (by omega) (by simpa using hs')] at d4
          have hp1 : ((p + 1 : Nat) : Int) - 1 = p := by omega
          have h0 : 0 < ((p + 1 : Nat) : Int) := by omega
          have d4' : ∀ o, (wr.alloc o).cell? ⟨(ad'.add (p * 5)).block, (ad'.add (p * 5)).off + 1 + 3, none⟩ = some (.bool true) := fun o => by
            rw [World.cell?_alloc_lt _ _ _ (by dsimp only; rw [block_of_add]; have := hb.size; omega)]
            exact d4
          have hk0 := hpk.out rfl
          obtain ⟨q, hkq⟩ : ∃ q, k = q + 1 := ⟨k - 1, by omega⟩
          obtain ⟨acc', r0, rfl⟩ : ∃ acc' r0, acc = acc' ++ [r0] := by
            rcases List.eq_nil_or_concat acc with h | ⟨l, r, h⟩
            · have := hk.out; rw [h] at this; simp at this; omega
            · exact ⟨l, r, by rw [h, List.concat_eq_append]⟩
          obtain ⟨l0, n0⟩ := r0
          have hq : acc'.length = q := by have := hk.out; simp at this; omega
          have HQ := Lib.hid hq
          have hn0 := hacc.out ⟨l0, n0⟩ (List.mem_append_right _ (List.mem_singleton.2 rfl))
          obtain ⟨n1, n2⟩ := hn0
          dsimp only at n1 n2
          obtain ⟨g, cap, hv, hgb, -⟩ := hown.form (by omega)
          obtain ⟨rfl, rfl⟩ : A' = some ⟨g, 0, none⟩ ∧ c' = cap := by simpa using hv
          have hgl := (hown.lt g rfl).2
          have e0 := hown0.cellAt (q * 2 + 1) (by omega)
          rw [← hq, runsC_last, hq] at e0
          have f0 := hown0.frozenAt (q * 2 + 1)
          have HG2 : Hid (gapsL l = gapsA (acc' ++ [⟨l0, n0 + (1 + r + b)⟩]) true (l.drop (p + 1 + 1))) := by
            show _ = _
            rw [hG.out, HD.out]
            simp only [gapsA, bump_snoc]
            rfl
          have k0 := B0.cell 0
          have k1 := B0.cell 1
          have k2 := B0.cell 2
          have k3 := B0.cell 3
          have k4 := B0.cell 4
          simp only [List.getElem?_toArray, List.getElem?_cons_zero, List.getElem?_cons_succ] at k0 k1 k2 k3 k4
          have HOW := Lib.hid hown0
          have HBB := Lib.hid hb0
          have w2 : IntKind.i64.wrap ((k : Int) - 1) = (k : Int) - 1 := IntWalk.i64_in _ (by omega)
          have w3 : ((k : Int) - 1).toNat = q := by omega
          have w4 : (k : Int) - 1 < k := by omega
          have w5 : (0 : Int) ≤ (k : Int) - 1 := by omega
          have w6 : (1 : Int) ≤ (k : Int) := by omega
          have w1 : IntKind.i64.wrap (n0 + (1 + r + b)) = n0 + (1 + r + b) := IntWalk.i64_in _ (by omega)
          have HKQ := Lib.hid hkq
          clear hs' hj0 d4 hv hown hown0 hq hkq
          go_wp2
          go_region_with (go_at_call 103; refine (HG.out _).mono ?_; rintro e w2 ⟨rfl, hb2⟩; have q0 := (hb2.cell (p := ⟨wr.heap.size, 0, none⟩) (by simp)).trans k0; have q1 := (hb2.cell (p := ⟨wr.heap.size, 1, none⟩) (by simp)).trans k1; have q2 := (hb2.cell (p := ⟨wr.heap.size, 2, none⟩) (by simp)).trans k2; have q3 := (hb2.cell (p := ⟨wr.heap.size, 3, none⟩) (by simp)).trans k3; have q4 := (hb2.cell (p := ⟨wr.heap.size, 4, none⟩) (by simp)).trans k4; have e1 := (hb2.cell (p := ⟨g, q * 2 + 1, none⟩) (by simp; omega)).trans e0; have f1 := (hb2.frozen (p := ⟨g, q * 2 + 1, none⟩) (by simp; omega)).trans f0; have HB2 := Lib.hid hb2)
          all_goals
            have hown5 := own_below HOW.out.drew HB2.out
            have hown6 := (hown5.stored (q * 2 + 1) (.int .i64 (n0 + (1 + r + b)))).1
            have hq := HQ.out
            rw [← hq, runsC_bump, hq] at hown6
            have hb6 := HBB.out.drew.trans (HB2.out.mono HBB.out.size)
            have hb7 := hb6.setCell (p := ⟨g, q * 2 + 1, none⟩) hgb (.int .i64 (n0 + (1 + r + b)))
            go_wp2
            go_roundw
            case rel => exact ⟨p + 1 + 1, some ⟨g, 0, none⟩, k, c', acc' ++ [⟨l0, n0 + (1 + r + b)⟩], true, by omega, by go_num, rfl, by omega, by show _ = _; rw [List.length_append, HQ.out, HKQ.out]; rfl, HG2, HNP, (fun h => absurd h (by omega)), (fun _ => hk0), (fun x hx => by
              rcases List.mem_append.1 hx with hx | hx
              · have := hacc.out x (List.mem_append_left _ hx); omega
              · obtain rfl := List.mem_singleton.1 hx
                dsimp only
                omega), hown6, hb7⟩
            case measure => simp [intOf]; omega
    · have hjn : j = n := by omega
      subst hjn
      rw [List.drop_of_length_le (by rw [HL.out]; exact Nat.le_refl _)] at hG
      have hG : Hid (gapsL l = acc) := hG
      go_wp2
      go_ret
      rw [hG.out, ← hk.out]
      exact ⟨hb, A', c', rfl, hown⟩
end Go.Proofs.YtbmkbnalembbjaaGreatDoor

namespace Go.Proofs.YtbmkbnalembbjaaGreatDoor
open Go.RowKit
def firstV (l : List Rn) (n : Int) : Int := (fitsL l n).headD 0
def lenAt (l : List Rn) (i : Int) : Int := match l[i.toNat]? with | some r => r.len | none => 0
def bestGo (l : List Rn) (b : Int) : List Int → Int
  | [] => b
  | i :: t => bestGo l (if lenAt l i < lenAt l b then i else b) t
def bestV (l : List Rn) (n : Int) : Int := bestGo l (firstV l n) (fitsL l n)
theorem fitsL_mem {l : List Rn} {n x : Int} (h : x ∈ fitsL l n) : ∃ (j : Nat) (r : Rn), l[j]? = some r ∧ n ≤ r.len ∧ x = (j : Int) := by
  unfold fitsL at h
  split at h
  · obtain ⟨j, r, h1, h2, h3⟩ := fitIx_mem.1 h
    exact ⟨j, r, h1, h2, by simpa using h3⟩
  · cases h
theorem fitsL_bad {l : List Rn} {n : Int} (h : fitsE l n ≠ 0) : fitsL l n = [] := by unfold fitsL; rw [if_neg h]
theorem fitsL_ok {l : List Rn} {n : Int} (h : fitsE l n = 0) : fitsL l n = fitIx n 0 l ∧ fitIx n 0 l ≠ [] := by
  refine ⟨by unfold fitsL; rw [if_pos h], (fitsE_ok.1 h).2.2⟩
set_option maxHeartbeats 400000 in
theorem first_any (A : Option Addr) (m c : Nat) (l : List Rn) (n : Int) (w : World) (hr : Reads w w.heap.size 2 A m (runsC l)) (hm : m * 16 ≤ 140737488351232) :
    Calls Tryz.prog 67 #[.slice A m c, .int .i64 n] w fun e w' => e = .returned (.tuple #[.int .i64 (firstV l n), .int .i64 (fitsE l n)]) ∧ Below w.heap.size w w' := by
  have H := Lib.hid (fun w hr => fits_any A m c l n w hr hm)
  by_cases hE : fitsE l n = 0
  · obtain ⟨h1, h2⟩ := fitsL_ok hE
    rw [hE] at H ⊢
    unfold firstV
    generalize fitsL l n = L at *
    subst h1
    obtain ⟨x, t, hx⟩ := List.exists_cons_of_ne_nil h2
    rw [hx] at H ⊢
    clear hE h2 hx
    go_enter Tryz.func67, Tryz.ntmps67
    go_wp2_with fail
    refine (H.out _ hr).mono ?_
    rintro e w1 ⟨hb1, A', c', rfl, hown⟩
    obtain ⟨ad, x', rfl, -, hx', hc⟩ := (Reads.of_own hown).num (k := 0) (by simp)
    obtain rfl : x = x' := by simpa using hx'
    have hk0 : 0 < (x :: t).length := by simp
    generalize (x :: t).length = k at *
    have hc0 : w1.cell? ad = some (.int .i64 x) := by simpa [Addr.add] using hc
    clear hown hx'
    go_wp2
    go_ret2
    exact ⟨rfl, hb1⟩
  · have hl := fitsL_bad hE
    have hf : firstV l n = 0 := by unfold firstV; rw [hl]; rfl
    rw [hf]
    clear hf
    rw [hl] at H
    generalize fitsE l n = E at *
    have hE1 : (E != 0) = true := by simpa using hE
    clear hE hl
    go_enter Tryz.func67, Tryz.ntmps67
    go_wp2_with fail
    refine (H.out _ hr).mono ?_
    rintro e w1 ⟨hb1, A', c', rfl, -⟩
    go_wp2
    go_ret2
    exact ⟨rfl, hb1⟩
def ggL (a : List Int) : List Rn := if checkE a = 0 then gapsL (spotsL a) else []
theorem gspots_small (a : List Int) : (gspotsL a).length ≤ 256 ∧ (∀ s ∈ gspotsL a, headE s.r s.b s.t s.f = 0) ∧ (checkE a ≠ 0 → gspotsL a = []) ∧ gapsL (gspotsL a) = ggL a := by
  unfold gspotsL ggL
  by_cases h : checkE a = 0
  · rw [if_pos h, if_pos h]
    refine ⟨spotsL_length a, fun s hs => ((parse_mem (parse_ok (checkE_ok.1 h).1).2) s hs).1.head, fun h2 => absurd h h2, rfl⟩
  · rw [if_neg h, if_neg h]
    exact ⟨by simp, by simp, fun _ => rfl, rfl⟩
set_option maxHeartbeats 400000 in
theorem ggapsE_any (A : Option Addr) (n c : Nat) (a : List Int) (w : World) (hr : Reads w w.heap.size 1 A n (a.map (.int .u64))) (hnc : n ≤ c) (ha : ∀ x ∈ a, (Lit.int .u64 x).wf = true) :
    Calls Tryz.prog 66 #[.slice A n c] w fun e w' => Below w.heap.size w w' ∧ ∃ A' c', e = .returned (.tuple #[.slice A' (ggL a).length c', .int .i64 (checkE a)]) ∧ w'.ownsRow w.heap.size 133 2 (.slice A' (ggL a).length c') (ggL a).length (runsC (ggL a)) := by
  have H1 := Lib.hid (fun w hr => gspots_any A n c a w hr hnc ha)
  obtain ⟨s1, s2, s3, s4⟩ := gspots_small a
  have H2 := Lib.hid (fun A' c' w hr => ggaps_any A' (gspotsL a).length c' (gspotsL a) w hr s1 s2)
  rw [s4] at H2
  have hg : checkE a ≠ 0 → ggL a = [] := fun h => by unfold ggL; rw [if_neg h]
  generalize checkE a = E at *
  generalize gspotsL a = L at *
  generalize ggL a = G at *
  clear s1 s2 s4
  by_cases hE : E = 0
  · subst hE
    clear hg s3
    go_enter Tryz.func66, Tryz.ntmps66
    go_wp2_with fail
    refine (H1.out _ hr).mono ?_
    rintro e w1 ⟨hb1, A', c', rfl, hown⟩
    have hrl := Reads.of_own hown
    clear hown
    go_wp2_with fail
    refine (H2.out _ _ _ hrl).mono ?_
    rintro e w2 ⟨hb2, A2, c2, rfl, hown2⟩
    go_wp2
    go_ret2
    exact ⟨below_step hb1 hb2, A2, c2, rfl, own_mono hown2 hb1.size⟩
  · have hE1 : (E != 0) = true := by simpa using hE
    obtain rfl := hg hE
    clear hg hE s3
    go_enter Tryz.func66, Tryz.ntmps66
    go_wp2_with fail
    refine (H1.out _ hr).mono ?_
    rintro e w1 ⟨hb1, A', c', rfl, hown⟩
    clear hown
    go_wp2
    go_ret2
    exact ⟨hb1, none, 0, rfl, World.ownsRow_nil _ _ _ _⟩
end Go.Proofs.YtbmkbnalembbjaaGreatDoor

namespace Go.Proofs.YtbmkbnalembbjaaGreatDoor
open Go.RowKit
end Go.Proofs.YtbmkbnalembbjaaGreatDoor

namespace Go.Proofs.YtbmkbnalembbjaaGreatDoor
open Go.RowKit
set_option maxHeartbeats 400000 in
theorem planTo_any (A A2 A3 : Option Addr) (n c n2 c2 m c3 : Nat) (a keep pinned : List Int) (w : World) (hr : Reads w w.heap.size 1 A n (a.map (.int .u64))) (hnc : n ≤ c) (ha : ∀ x ∈ a, (Lit.int .u64 x).wf = true)
    (hr2 : Reads w w.heap.size 1 A2 n2 (keep.map (.int .i64))) (hr3 : Reads w w.heap.size 1 A3 m (pinned.map (.int .i64))) (hn2 : n2 * 8 ≤ 140737488351232) (hm : m ≤ 1000000000000000000) (hE : longsE a keep pinned = 0) :
    Calls Tryz.prog 133 #[.slice A n c, .slice A2 n2 c2, .slice A3 m c3] w fun e w' => Below w.heap.size w w' ∧ ∃ A' c', e = .returned (.tuple #[.slice A' n2 c', .int .i64 0]) ∧
      w'.ownsRow w.heap.size 3 1 (.slice A' n2 c') n2 ((slidGo pinned 0 keep (longsV a keep pinned)).map (.int .i64)) := by
  have H1 := fun w hr hr2 hr3 => longs_any A A2 A3 n c n2 c2 m c3 a keep pinned w hr hnc ha hr2 hr3 hn2 hm
  obtain ⟨hK, hN⟩ := kept_of hE
  have hk2 : keep.length = n2 := by have := hr2.1; simpa using this
  have hl2 : (longsV a keep pinned).length = n2 := by rw [hK.same, hk2]
  have H2 := Lib.hid (fun w A' c' hr hr2 hr3 => slid_any A2 A' A3 n2 c2 c' m c3 0 a.length keep (longsV a keep pinned) pinned w hr hr2 hr3 hn2 hm hK ⟨by omega, hN⟩)
  rw [hE, hl2] at H1
  generalize longsV a keep pinned = L at *
  have H1 := Lib.hid H1
  clear hK hE hk2 hl2
  go_enter Tryz.func133, Tryz.ntmps133
  go_wp2_with fail
  refine (H1.out _ hr hr2 hr3).mono ?_
  rintro e w1 ⟨hb1, A', c', rfl, hown⟩
  have hrl := Reads.of_own hown
  clear hown
  go_wp2_with fail
  refine (H2.out _ _ _ ((hr2.below hb1).more hb1.size) hrl ((hr3.below hb1).more hb1.size)).mono ?_
  rintro e w2 ⟨hb2, A2', c2', rfl, hown2⟩
  go_wp2
  go_ret2
  exact ⟨below_step hb1 hb2, A2', c2', rfl, own_mono hown2 hb1.size⟩
set_option maxHeartbeats 400000 in
theorem planTo_bad (A A2 A3 : Option Addr) (n c n2 c2 m c3 : Nat) (a keep pinned : List Int) (w : World) (hr : Reads w w.heap.size 1 A n (a.map (.int .u64))) (hnc : n ≤ c) (ha : ∀ x ∈ a, (Lit.int .u64 x).wf = true)
    (hr2 : Reads w w.heap.size 1 A2 n2 (keep.map (.int .i64))) (hr3 : Reads w w.heap.size 1 A3 m (pinned.map (.int .i64))) (hn2 : n2 * 8 ≤ 140737488351232) (hm : m ≤ 1000000000000000000) (hE : longsE a keep pinned ≠ 0) :
    Calls Tryz.prog 133 #[.slice A n c, .slice A2 n2 c2, .slice A3 m c3] w fun e w' => e = .returned (.tuple #[.slice none 0 0, .int .i64 (longsE a keep pinned)]) ∧ Below w.heap.size w w' := by
  have H1 := fun w hr hr2 hr3 => longs_any A A2 A3 n c n2 c2 m c3 a keep pinned w hr hnc ha hr2 hr3 hn2 hm
  generalize longsV a keep pinned = L at *
  generalize longsE a keep pinned = E at *
  have hE1 : (E != 0) = true := by simpa using hE
  have H1 := Lib.hid H1
  clear hE
  go_enter Tryz.func133, Tryz.ntmps133
  go_wp2_with fail
  refine (H1.out _ hr hr2 hr3).mono ?_
  rintro e w1 ⟨hb1, A', c', rfl, hown⟩
  clear hown
  go_wp2
  go_ret2
  exact ⟨rfl, hb1⟩
def Else (w w' : World) (g : Nat) (row : Option Nat) : Prop := w.heap.size ≤ w'.heap.size ∧ ∀ k, k < w.heap.size → k ≠ g → row ≠ some k → w'.heap[k]? = w.heap[k]?
theorem own_else {w w' : World} {g : Nat} {row : Option Nat} {base : Nat} {e : TypeId} {size n : Nat} {v : Value} {xs : List Value} (h : w.ownsRow base e size v n xs) (hE : Else w w' g row) (h1 : ∀ k, v.ownBlock = some k → k ≠ g ∧ row ≠ some k) : w'.ownsRow base e size v n xs := by
  refine ⟨h.1, ?_⟩
  rcases h.2 with h2 | ⟨g', cap, cur, hv, hb, hh, rest⟩
  · exact .inl h2
  · refine .inr ⟨g', cap, cur, hv, hb, ?_, rest⟩
    obtain ⟨a1, a2⟩ := h1 g' (by subst hv; rfl)
    rw [hE.2 g' (Array.getElem?_eq_some_iff.1 hh).1 a1 a2]
    exact hh
def addG (acc : List Rn) (e x : Int) : List Rn := if e < x then acc ++ [⟨e, x - e⟩] else acc
set_option maxRecDepth 100000 in
set_option maxHeartbeats 1000000 in
theorem addG_any (g1 g2 base : Nat) (x e : Int) (A : Option Addr) (k c : Nat) (acc : List Rn) (w : World) (h1 : Blk w g1 3 #[.int .i64 e]) (h2 : Blk w g2 126 #[.slice A k c])
    (hown : w.ownsRow base 133 2 (.slice A k c) k (runsC acc)) (hb1 : base ≤ g1) (hb2 : base ≤ g2) (hk : k ≤ 1000000) (hk2 : k = acc.length) (hx : 0 ≤ x ∧ x ≤ 256) (he : 0 ≤ e ∧ e ≤ 256) :
    Calls Tryz.prog 154 #[.int .i64 x, .pointer (some ⟨g1, 0, none⟩), .pointer (some ⟨g2, 0, none⟩)] w fun ex w' => ex = .returned (.tuple #[]) ∧ Below base w w' ∧ Else w w' g2 (Value.slice A k c).ownBlock ∧ Blk w' g1 3 #[.int .i64 e] ∧
      ∃ A' c', Blk w' g2 126 #[.slice A' (addG acc e x).length c'] ∧ w'.ownsRow base 133 2 (.slice A' (addG acc e x).length c') (addG acc e x).length (runsC (addG acc e x)) := by
  have c1 := h1.cell 0
  have c2 := h2.cell 0
  have f2 := h2.frozen 0
  simp only [List.getElem?_toArray, List.getElem?_cons_zero] at c1 c2
  have hlt1 := h1.lt
  have hlt2 := h2.lt
  obtain ⟨i0, hi, hz0, hz1, hz2⟩ := info_parts info_run
  by_cases hlt : e < x
  · have hL : addG acc e x = acc ++ [⟨e, x - e⟩] := by unfold addG; rw [if_pos hlt]
    rw [hL, List.length_append, ← hk2, List.length_singleton]
    have hw : IntKind.i64.wrap (x - e) = x - e := IntWalk.i64_in _ (by omega)
    have hownA := hown.alloc (.cells #[.int .i64 e, .int .i64 (x - e)] 133)
    have hnew := reads_new w (runC ⟨e, x - e⟩) 133 1 2 rfl
    have hbsz : base ≤ w.heap.size := by omega
    have HO := Lib.hid hown
    have H1 := Lib.hid h1
    have H2 := Lib.hid h2
    have HK2 := Lib.hid hk2
    clear hL hown h1 h2 hk2
    go_enter Tryz.func154, Tryz.ntmps154
    go_wp2_with (at_builtin; refine wpList_append_any _ rfl (.tmp 7) (.tmp 13) 126 rfl base 133 i0 _ 2 16 Tryz.underlying126 hi hz0 hz1 hz2 rfl (by decide) (.slice A k c) k _ rfl hownA (w.heap.size + 1) (some ⟨w.heap.size, 0, none⟩) 1 1 (runC ⟨e, x - e⟩) rfl hnew (by simp [runC, Value.oneCell']) (by simp [maxLen]; omega) (by omega) (by simp; omega) ?_; rintro v' w3 hown3 hgr hbl -; obtain ⟨A'', c'', rfl⟩ := own_slice hown3; have D2 := (H2.out.alloc (.cells #[.int .i64 e, .int .i64 (x - e)] 133)).grown hgr (fun e => own_blk_ne hownA (H2.out.alloc _) (by decide) e.symm); have f3 := D2.frozen 0; have c3 := D2.cell 0; simp only [List.getElem?_toArray, List.getElem?_cons_zero] at c3)
    have hne : g1 ≠ g2 := Blk.ne_ H1.out H2.out (by decide)
    have D1 := (H1.out.alloc (.cells #[.int .i64 e, .int .i64 (x - e)] 133)).grown hgr (fun e => own_blk_ne hownA (H1.out.alloc _) (by decide) e.symm)
    have hbA := (Below.refl base w).alloc hbsz (.cells #[.int .i64 e, .int .i64 (x - e)] 133)
    have hbB : Below base w w3 := hbA.grown hgr (by have := hbA.size; omega) (fun g hg => (hownA.lt g hg).1)
    have hbC := hbB.setCell (p := ⟨g2, 0, none⟩) hb2 (.slice A'' (k + 1) c'')
    go_end0
    refine ⟨rfl, hbC, ⟨?_, fun k' hk' h1 h2 => ?_⟩, D1.far (p := ⟨g2, 0, none⟩) hne _, A'', c'', ?_, ?_⟩
    · have := hgr.size
      simp only [World.size_alloc] at this
      rw [World.size_setCell]
      omega
    · rw [Below.heap_setCell w3 ⟨g2, 0, none⟩ _ k' h1, hgr.block k' (by simp; omega) (fun e => h2 e.symm), Below.heap_alloc w _ k' hk']
    · have := D2.set_ 0 (.slice A'' (k + 1) c'')
      simpa using this
    · rw [runsC_snoc]
      exact own_apart hown3 (own_blk_ne hown3 D2 (by decide)) _
  · have hL : addG acc e x = acc := by unfold addG; rw [if_neg hlt]
    rw [hL, ← hk2]
    clear hL
    have HO := Lib.hid hown
    have HK2 := Lib.hid hk2
    have H1 := Lib.hid h1
    have H2 := Lib.hid h2
    clear hown hk2 h1 h2
    go_enter Tryz.func154, Tryz.ntmps154
    go_wp2
    go_end0
    exact ⟨rfl, Below.refl _ _, ⟨Nat.le_refl _, fun _ _ _ _ => rfl⟩, H1.out, A, c, H2.out, HO.out⟩
theorem own_types2 {w : World} {base base' size size' n n' : Nat} {e e' : TypeId} {v v' : Value} {xs xs' : List Value} (h : w.ownsRow base e size v n xs) (h' : w.ownsRow base' e' size' v' n' xs') (hne : e ≠ e') {g : Nat} (hg : v.ownBlock = some g) : v'.ownBlock ≠ some g := by
  intro hg'
  rcases h.2 with ⟨rfl, _⟩ | ⟨g1, cap, cur, rfl, _, hh, _⟩
  · cases hg
  · rcases h'.2 with ⟨rfl, _⟩ | ⟨g2, cap2, cur2, rfl, _, hh2, _⟩
    · cases hg'
    · simp only [Value.ownBlock, Option.some.injEq] at hg hg'
      subst hg hg'
      rw [hh] at hh2
      injection hh2 with hh2
      injection hh2 with _ ht
      exact hne ht
theorem addL_eq (acc : List Rn) (e x : Int) : addG acc e x = acc ++ (if e < x then [⟨e, x - e⟩] else []) := by
  unfold addG
  split <;> simp
theorem addL_length (acc : List Rn) (e x : Int) : (addG acc e x).length ≤ acc.length + 1 := by
  unfold addG
  split <;> simp
set_option maxRecDepth 100000 in
set_option maxHeartbeats 1000000 in
theorem planGapsFn_any (A A2 A3 : Option Addr) (n c n2 c2 m c3 : Nat) (a keep pinned : List Int) (w : World) (hr : Reads w w.heap.size 1 A n (a.map (.int .u64))) (hnc : n ≤ c) (ha : ∀ x ∈ a, (Lit.int .u64 x).wf = true)
    (hr2 : Reads w w.heap.size 1 A2 n2 (keep.map (.int .i64))) (hr3 : Reads w w.heap.size 1 A3 m (pinned.map (.int .i64))) (hn2 : n2 * 8 ≤ 140737488351232) (hm : m ≤ 1000000000000000000) (hE : longsE a keep pinned = 0)
    (hY : ∀ (j : Nat) (y k : Int), (slidGo pinned 0 keep (longsV a keep pinned))[j]? = some y → (longsV a keep pinned)[j]? = some k → 0 ≤ y ∧ 1 ≤ k ∧ y + k ≤ 256) (hYl : (slidGo pinned 0 keep (longsV a keep pinned)).length = n2) (hn256 : n2 ≤ 256) :
    Calls Tryz.prog 134 #[.slice A n c, .slice A2 n2 c2, .slice A3 m c3] w fun e w' => Below w.heap.size w w' ∧ ∃ A' c', e = .returned (.tuple #[.slice A' (pgaps n 0 (slidGo pinned 0 keep (longsV a keep pinned)) (longsV a keep pinned)).length c', .int .i64 0]) ∧
      w'.ownsRow w.heap.size 133 2 (.slice A' (pgaps n 0 (slidGo pinned 0 keep (longsV a keep pinned)) (longsV a keep pinned)).length c') (pgaps n 0 (slidGo pinned 0 keep (longsV a keep pinned)) (longsV a keep pinned)).length (runsC (pgaps n 0 (slidGo pinned 0 keep (longsV a keep pinned)) (longsV a keep pinned))) := by
  have H1 := fun w hr hr2 hr3 => longs_any A A2 A3 n c n2 c2 m c3 a keep pinned w hr hnc ha hr2 hr3 hn2 hm
  obtain ⟨hK, hN⟩ := kept_of hE
  have hal : a.length = n := by have := hr.1; simpa using this
  have hk2 : keep.length = n2 := by have := hr2.1; simpa using this
  have hl2 : (longsV a keep pinned).length = n2 := by rw [hK.same, hk2]
  have H2 := Lib.hid (fun w A' c' hr hr2 hr3 => slid_any A2 A' A3 n2 c2 c' m c3 0 a.length keep (longsV a keep pinned) pinned w hr hr2 hr3 hn2 hm hK ⟨by omega, hN⟩)
  rw [hE, hl2] at H1
  rw [hal] at hN
  generalize hLL : longsV a keep pinned = L at *
  generalize hYY : slidGo pinned 0 keep L = Y at *
  have H1 := Lib.hid H1
  have HY := Lib.hid hY
  have HYL := Lib.hid hYl
  have HL2 := Lib.hid hl2
  have HAD := Lib.hid (fun g1 g2 base x e A k c acc w h1 h2 hown hb1 hb2 hk hk2 hx he => addG_any g1 g2 base x e A k c acc w h1 h2 hown hb1 hb2 hk hk2 hx he)
  clear hK hE hk2 hl2 hal hY hYl hLL hYY
  go_enter Tryz.func134, Tryz.ntmps134
  go_wp2_with fail
  refine (H1.out _ hr hr2 hr3).mono ?_
  rintro e w1 ⟨hb1, A', c', rfl, hownL⟩
  have hrl := Reads.of_own hownL
  have hr2a := (hr2.below hb1).more hb1.size
  have hr3a := (hr3.below hb1).more hb1.size
  have hbo1 := hb1.alloc hb1.size (.cells #[.slice none 0 0] 126)
  have hbo2 := hbo1.alloc hbo1.size (.cells #[.int .i64 0] 3)
  have hbn := ((Below.refl w1.heap.size w1).alloc (Nat.le_refl _) (.cells #[.slice none 0 0] 126)).alloc (by simp) (.cells #[.int .i64 0] 3)
  have BG := (Blk.new w1 126 #[.slice none 0 0]).alloc (.cells #[.int .i64 0] 3)
  have BE := Blk.new (w1.alloc (.cells #[.slice none 0 0] 126)) 3 #[.int .i64 0]
  clear hownL
  go_wp2_with fail
  refine (H2.out _ _ _ ((hr2a.below hbn).more hbn.size) ((hrl.below hbn).more hbn.size) ((hr3a.below hbn).more hbn.size)).mono ?_
  rintro e w2 ⟨hb2, AY, cY, rfl, hownY⟩
  have BG2 := BG.below hb2 BG.lt
  have BE2 := BE.below hb2 BE.lt
  have hb02 := hbo2.trans (hb2.mono hbo2.size)
  have hb12 := hbn.trans (hb2.mono hbn.size)
  have hgs : w.heap.size ≤ w1.heap.size := hb1.size
  have hrL := hrl.below hb12
  simp only [World.size_alloc] at BG2 BE2 hownY
  clear BG BE hbn hb2 hrl hr2a hr3a hbo1 hbo2 hb1 hb12
  go_wp2
  go_loopw [13, 14, 31] (fun _ _ i wr => ∃ (j : Nat) (e : Int) (A4 : Option Addr) (k4 c4 : Nat) (acc : List Rn), j ≤ n2 ∧ i = .int .i64 j ∧ 0 ≤ e ∧ e ≤ 256 ∧ k4 ≤ j ∧ Hid (k4 = acc.length) ∧ Hid (pgaps n 0 Y L = acc ++ pgaps n e (Y.drop j) (L.drop j)) ∧
    Hid (Blk wr (w1.heap.size + 1) 3 #[.int .i64 e]) ∧ Hid (Blk wr w1.heap.size 126 #[.slice A4 k4 c4]) ∧ Hid (wr.ownsRow w1.heap.size 133 2 (.slice A4 k4 c4) k4 (runsC acc)) ∧ Hid (wr.ownsRow (w1.heap.size + 1 + 1) 3 1 (.slice AY n2 cY) n2 (Y.map (.int .i64))) ∧ Below w1.heap.size w2 wr) (fun _ _ i _ => n2 - (intOf i).toNat)
  case atStart => exact ⟨0, 0, none, 0, 0, [], Nat.zero_le _, rfl, by omega, by omega, Nat.le_refl _, rfl, rfl, BE2, BG2, World.ownsRow_nil _ _ _ _, hownY, Below.refl _ _⟩
  case round =>
    obtain ⟨j, e, A4, k4, c4, acc, hj, rfl, he0, he1, hkj, hk, hG, hBE, hBG, hown, hoY, hb⟩ := hrel
    by_cases hlt : j < n2
    · obtain ⟨ad, y, rfl, had, hy, cy⟩ := (Reads.of_own hoY.out).num hlt
      obtain ⟨ad2, k, rfl, had2, hkk, ck⟩ := (hrL.below hb).num hlt
      obtain ⟨y0, k0, yk⟩ := HY.out j y k hy hkk
      have hw : IntKind.i64.wrap (y + k) = y + k := IntWalk.i64_in _ (by omega)
      have HA := Lib.hid (HAD.out (w1.heap.size + 1) w1.heap.size w1.heap.size y e A4 k4 c4 acc wr hBE.out hBG.out hown.out (by omega) (Nat.le_refl _) (by omega) hk.out ⟨y0, by omega⟩ ⟨he0, he1⟩)
      have HG2 : Hid (pgaps n 0 Y L = addG acc e y ++ pgaps n (y + k) (Y.drop (j + 1)) (L.drop (j + 1))) := by
        show _ = _
        rw [hG.out, drop_of_get hy, drop_of_get hkk, addL_eq]
        simp only [pgaps]
        rw [List.append_assoc]
      have hlt2 : (j : Int) < n2 := by omega
      have HLn := Lib.hid (addL_length acc e y)
      clear hy hkk
      go_wp2_with fail
      refine HA.out.mono ?_
      rintro ex w3 ⟨rfl, hb3, hElse, hBE3, A5, c5, hBG3, hown3⟩
      have hoY3 := own_else hoY.out hElse (fun g hg => ⟨fun h => own_blk_ne hoY.out hBG.out (by decide) (h ▸ hg), own_types2 hoY.out hown.out (by decide) hg⟩)
      have e0 := hBE3.cell 0
      have f0 := hBE3.frozen 0
      simp only [List.getElem?_toArray, List.getElem?_cons_zero] at e0
      have ck3 := (hb3.cell (p := ad2.add j) (by rw [block_of_add]; exact had2)).trans ck
      have hbx := (hb.trans hb3).setCell (p := ⟨w1.heap.size + 1, 0, none⟩) (by dsimp only; omega) (.int .i64 (y + k))
      have hBE4 : Blk (w3.setCell ⟨w1.heap.size + 1, 0, none⟩ (.int .i64 (y + k))) (w1.heap.size + 1) 3 #[.int .i64 (y + k)] := by simpa using hBE3.set_ 0 (.int .i64 (y + k))
      have hBG4 := hBG3.far (p := ⟨w1.heap.size + 1, 0, none⟩) (by dsimp only; omega) (.int .i64 (y + k))
      have hown4 := own_apart hown3 (p := ⟨w1.heap.size + 1, 0, none⟩) (own_blk_ne hown3 hBE3 (by decide)) (.int .i64 (y + k))
      have hoY4 := own_far hoY3 (p := ⟨w1.heap.size + 1, 0, none⟩) (by dsimp only; omega) (.int .i64 (y + k))
      obtain ⟨k5, hk5⟩ : ∃ k5, k5 = (addG acc e y).length := ⟨_, rfl⟩
      rw [← hk5] at hBG4 hown4
      have HK5 := Lib.hid hk5
      have hk55 : k5 ≤ j + 1 := by have := HLn.out; rw [← hk.out] at this; omega
      have h1 := Lib.hid hBE4
      have h2 := Lib.hid hBG4
      have h3 := Lib.hid hown4
      have h4 := Lib.hid hoY4
      clear hb3 hElse hBE3 hBG3 hown3 hoY3 hBE4 hBG4 hown4 hoY4 hk5
      go_wp2
      go_roundw
      case rel => exact ⟨j + 1, y + k, A5, k5, c5, addG acc e y, by omega, by go_num, by omega, by omega, hk55, HK5, HG2, h1, h2, h3, h4, hbx⟩
      case measure => simp [intOf]; omega
    · have hjn : j = n2 := by omega
      subst hjn
      have HA := Lib.hid (HAD.out (w1.heap.size + 1) w1.heap.size w1.heap.size n e A4 k4 c4 acc wr hBE.out hBG.out hown.out (by omega) (Nat.le_refl _) (by omega) hk.out ⟨by omega, by omega⟩ ⟨he0, he1⟩)
      have HG2 : Hid (pgaps n 0 Y L = addG acc e n) := by
        show _ = _
        rw [hG.out, List.drop_of_length_le (by rw [HYL.out]; exact Nat.le_refl _), addL_eq]
        simp only [pgaps]
      go_wp2_with fail
      refine HA.out.mono ?_
      rintro ex w3 ⟨rfl, hb3, hElse, hBE3, A5, c5, hBG3, hown3⟩
      have g0 := hBG3.cell 0
      simp only [List.getElem?_toArray, List.getElem?_cons_zero] at g0
      obtain ⟨k5, hk5⟩ : ∃ k5, k5 = (addG acc e n).length := ⟨_, rfl⟩
      rw [← hk5] at g0 hown3
      have HK5 := Lib.hid hk5
      clear hElse hBE3 hBG3 hk5
      go_wp2
      go_ret2
      rw [HG2.out, ← HK5.out]
      exact ⟨hb02.trans ((hb.trans hb3).mono hgs), A5, c5, rfl, own_mono hown3 hgs⟩
end Go.Proofs.YtbmkbnalembbjaaGreatDoor
