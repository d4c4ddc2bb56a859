/-
  package gap: spots, long, gaps, Gaps.
-/
import Derived.Test.YtammailnbgojgaaCheck
import Derived.Test.YtammailnbgojgaaGapDefs
import Derived.Test.YtammailnbgojgaaBase2
import Derived.Deep.RegionHeld3
import Derived.IntWalk
namespace Go.Proofs.Ytammailnbgojgaa
open Go.RowKit

def gspotsL (a : List Int) : List Spot := if checkE a = 0 then spotsL a else []

set_option maxHeartbeats 400000 in
theorem gspots_any (A : Option Addr) (n c : Nat) (a : List Int) (w : World) (hr : Reads w w.heap.size 1 A n (a.map (.int .u64))) (hnc : n ≤ c) (ha : ∀ x ∈ a, (Lit.int .u64 x).wf = true) :
    Calls Try.prog 34 #[.slice A n c] w fun e w' => Below w.heap.size w w' ∧ ∃ A' c', e = .returned (.tuple #[.slice A' (gspotsL a).length c', .int .i64 (checkE a)]) ∧ w'.ownsRow w.heap.size 101 5 (.slice A' (gspotsL a).length c') (gspotsL a).length (spotsC (gspotsL a)) := by
  have H1 := Lib.hid (fun w hr => checkFn_any A n c a w hr hnc ha)
  by_cases hE : checkE a = 0
  · have H2 := fun w hr => spots_any A n c a w hr ha
    rw [(checkE_ok.1 hE).1] at H2
    have H2 := Lib.hid H2
    rw [show gspotsL a = spotsL a by unfold gspotsL; rw [if_pos hE]]
    rw [hE] at H1 ⊢
    clear hE
    go_enter Try.func34, Try.ntmps34
    go_wp2_with fail
    refine (H1.out _ hr).mono ?_
    rintro e w1 ⟨rfl, hb1⟩
    go_wp2_with fail
    refine (H2.out _ ((hr.below hb1).more hb1.size)).mono ?_
    rintro e w2 ⟨hb2, A', c', rfl, hown⟩
    go_wp2
    go_ret2
    exact ⟨below_step hb1 hb2, A', c', rfl, own_mono hown hb1.size⟩
  · rw [show gspotsL a = [] by unfold gspotsL; rw [if_neg hE]]
    generalize checkE a = E at *
    have hE1 : (E != 0) = true := by simpa using hE
    clear hE
    go_enter Try.func34, Try.ntmps34
    go_wp2_with fail
    refine (H1.out _ hr).mono ?_
    rintro e w1 ⟨rfl, hb1⟩
    go_wp2
    go_ret2
    exact ⟨hb1, none, 0, rfl, World.ownsRow_nil _ _ _ _⟩

set_option maxHeartbeats 400000 in
theorem glong_ok (r b t : Int) (f : Bool) (w : World) (hE : headE r b t f = 0) :
    Calls Try.prog 50 #[.agg #[.int .i64 r, .int .i64 b, .int .i64 t, .bool f]] w fun e w' => e = .returned (.int .i64 (1 + r + b)) ∧ Below w.heap.size w w' := by
  have H := Lib.hid (fun w => hlongc_ok r b t f w hE)
  clear hE
  go_enter Try.func50, Try.ntmps50
  go_wp2_with fail
  refine (H.out _).mono ?_
  rintro e w1 ⟨rfl, hb1⟩
  go_wp2
  go_ret
  exact ⟨rfl, below_step (below_new _ _) hb1⟩

theorem info_run : (Try.prog.info? 38).map (fun i => (i.zero, i.size, i.bytes)) = some (some (.agg #[.int .i64 0, .int .i64 0]), 2, 16) := by kernel_rfl

set_option maxRecDepth 100000 in
set_option maxHeartbeats 1000000 in
theorem ggaps_any (A : Option Addr) (n c : Nat) (l : List Spot) (w : World) (hr : Reads w w.heap.size 5 A n (spotsC l)) (hn : n ≤ 256) (hl : ∀ s ∈ l, headE s.r s.b s.t s.f = 0) :
    Calls Try.prog 35 #[.slice A n c] w fun e w' => Below w.heap.size w w' ∧ ∃ A' c', e = .returned (.slice A' (gapsL l).length c') ∧ w'.ownsRow w.heap.size 38 2 (.slice A' (gapsL l).length c') (gapsL l).length (runsC (gapsL l)) := by
  have hll : l.length = n := by have := hr.1; rw [spotsC_length] at this; omega
  have HL := Lib.hid hll
  have HH := Lib.hid hl
  obtain ⟨i0, hi, hz0, hz1, hz2⟩ := info_parts info_run
  clear hll hl
  go_enter Try.func35, Try.ntmps35
  go_wp2
  go_loopw [3, 4, 5, 8] (fun o _ _ i wr => ∃ (j : Nat) (A' : Option Addr) (k c' : Nat) (acc : List Rn) (prev : Bool), j ≤ n ∧ i = .int .i64 j ∧ o = .slice A' k c' ∧ k ≤ j ∧ Hid (k = acc.length) ∧ Hid (gapsL l = gapsA acc prev (l.drop j)) ∧ Hid (∀ s, 0 < j → l[j - 1]? = some s → s.f = prev) ∧ Hid (j = 0 → prev = false) ∧ Hid (prev = true → 0 < k) ∧ Hid (∀ r ∈ acc, 0 ≤ r.len ∧ r.len ≤ 256 * j) ∧
    wr.ownsRow w.heap.size 38 2 (.slice A' k c') k (runsC acc) ∧ Below w.heap.size w wr) (fun _ _ _ i _ => n - (intOf i).toNat)
  case atStart => exact ⟨0, none, 0, 0, [], false, Nat.zero_le _, rfl, rfl, Nat.le_refl _, rfl, rfl, fun s h => absurd h (by omega), fun _ => rfl, (fun h => by cases h), (fun r h => by cases h), World.ownsRow_nil _ _ _ _, Below.refl _ _⟩
  case round =>
    obtain ⟨j, A', k, c', acc, prev, hj, rfl, rfl, hkj, hk, hG, hpv, hp0, hpk, hacc, hown, hb⟩ := hrel
    by_cases hlt : j < n
    · obtain ⟨ad, s, rfl, had, hs, c0, c1, c2, c3, c4⟩ := (hr.below hb).spot hlt
      have HD := Lib.hid (drop_of_get hs)
      have HSM : Hid (s ∈ l) := List.mem_of_getElem? hs
      have HS := Lib.hid hs
      have hE := headE_ok.1 (HH.out s HSM.out)
      have HG := Lib.hid (fun w => glong_ok s.r s.b s.t s.f w (HH.out s HSM.out))
      obtain ⟨r0, r1, b0, b1, t0, t1, l1, -⟩ := hE
      clear hs
      have HNP : Hid (∀ s', 0 < j + 1 → l[j + 1 - 1]? = some s' → s'.f = s.f) := by
        intro s' _ h
        rw [Nat.add_sub_cancel, HS.out] at h
        rw [← Option.some.inj h]
      obtain ⟨loc, r, b, t, f⟩ := s
      dsimp only at *
      have hown0 := hown.alloc (.cells #[.int .i64 loc, .int .i64 r, .int .i64 b, .int .i64 t, .bool f] 101)
      have hb0 := hb.alloc hb.size (.cells #[.int .i64 loc, .int .i64 r, .int .i64 b, .int .i64 t, .bool f] 101)
      have B0 := Blk.new wr 101 #[.int .i64 loc, .int .i64 r, .int .i64 b, .int .i64 t, .bool f]
      cases f
      · have HG2 : Hid (gapsL l = gapsA acc false (l.drop (j + 1))) := by
          show _ = _
          rw [hG.out, HD.out]
          simp only [gapsA]
          rfl
        clear B0
        go_wp2
        go_roundw
        case rel => exact ⟨j + 1, A', k, c', acc, false, by omega, by go_num, rfl, by omega, hk, HG2, HNP, fun _ => rfl, (fun h => by cases h), fun r hr => by have := hacc.out r hr; omega, hown0, hb0⟩
        case measure => simp [intOf]; omega
      · cases prev
        · have HG2 : Hid (gapsL l = gapsA (acc ++ [⟨loc, 1 + r + b⟩]) true (l.drop (j + 1))) := by
            show _ = _
            rw [hG.out, HD.out]
            simp only [gapsA]
            rfl
          have k0 := B0.cell 0
          have k1 := B0.cell 1
          have k2 := B0.cell 2
          have k3 := B0.cell 3
          have k4 := B0.cell 4
          simp only [List.getElem?_toArray, List.getElem?_cons_zero, List.getElem?_cons_succ] at k0 k1 k2 k3 k4
          by_cases hj0 : j = 0
          · have h0 : ¬ (0 < (j : Int)) := by omega
            have h0' : decide (0 < j) = false := by simp [hj0]
            clear hj0
            go_wp2
            go_region_held3 (fun w' => w'.cell? ⟨wr.heap.size, 0, none⟩ = some (.int .i64 loc) ∧ w'.cell? ⟨wr.heap.size, 1, none⟩ = some (.int .i64 r) ∧ w'.cell? ⟨wr.heap.size, 2, none⟩ = some (.int .i64 b) ∧ w'.cell? ⟨wr.heap.size, 3, none⟩ = some (.int .i64 t) ∧ w'.cell? ⟨wr.heap.size, 4, none⟩ = some (.bool true)) (go_keep)
              (first
                | (go_at_call 50; refine (HG.out _).mono ?_; rintro e w2 ⟨rfl, hb2⟩; have q0 := (hb2.cell (p := ⟨wr.heap.size, 0, none⟩) (by simp)).trans k0; have q1 := (hb2.cell (p := ⟨wr.heap.size, 1, none⟩) (by simp)).trans k1; have q2 := (hb2.cell (p := ⟨wr.heap.size, 2, none⟩) (by simp)).trans k2; have q3 := (hb2.cell (p := ⟨wr.heap.size, 3, none⟩) (by simp)).trans k3; have q4 := (hb2.cell (p := ⟨wr.heap.size, 4, none⟩) (by simp)).trans k4;
                   have D2 := B0.drew.below hb2 (by simp); have hown2 := (own_below hown0.drew hb2).alloc (.cells #[.int .i64 loc, .int .i64 (1 + r + b)] 38); have hb02 := hb0.drew.trans (hb2.mono hb0.size); have hb03 := hb02.alloc hb02.size (.cells #[.int .i64 loc, .int .i64 (1 + r + b)] 38); have D3 := D2.alloc (.cells #[.int .i64 loc, .int .i64 (1 + r + b)] 38); have hnew := reads_new w2 (runC ⟨loc, 1 + r + b⟩) 38 1 2 rfl)
                | (refine step_append_any _ (by rfl) (.tmp 13) (.tmp 20) 34 (by rfl) w.heap.size 38 i0 _ 2 16 Try.underlying34 hi hz0 hz1 hz2 rfl (by omega) (.slice A' k c') k _ (by rfl) hown2 (w2.heap.size + 1) (some ⟨w2.heap.size, 0, none⟩) 1 1 (runC ⟨loc, 1 + r + b⟩) (by rfl) hnew (by simp [runC, Value.oneCell']) (by simp [maxLen]; omega) (by omega) (by have := hb03.size; exact this) ?_; rintro v' w3 hown3 hgr hbl -; obtain ⟨A'', c'', rfl⟩ := own_slice hown3;
                   have D4 := D3.grown hgr (fun e => own_blk_ne hown2 D3 (by decide) e.symm); have s0 := D4.cell 0; have s1 := D4.cell 1; have s2 := D4.cell 2; have s3 := D4.cell 3; have s4 := D4.cell 4; simp only [List.getElem?_toArray, List.getElem?_cons_zero, List.getElem?_cons_succ] at s0 s1 s2 s3 s4))
            go_wp2
            have hb4 : Below w.heap.size w w3 := hb03.grown hgr hb03.size (fun g hg => (hown2.lt g hg).1)
            go_roundw
            case rel => exact ⟨j + 1, A'', k + 1, c'', acc ++ [⟨loc, 1 + r + b⟩], true, by omega, by go_num, rfl, by omega, by show _ = _; rw [List.length_append, ← hk.out]; rfl, HG2, HNP, (fun h => absurd h (by omega)), (fun _ => Nat.succ_pos _), (fun x hx => by
              rcases List.mem_append.1 hx with hx | hx
              · have := hacc.out x hx; omega
              · obtain rfl := List.mem_singleton.1 hx
                dsimp only
                omega), by rw [runsC_snoc]; exact hown3, hb4⟩
            case measure => simp [intOf]; omega
          · obtain ⟨p, rfl⟩ : ∃ p, j = p + 1 := ⟨j - 1, by omega⟩
            obtain ⟨ad', s', e', had', hs', -, -, -, -, d4⟩ := (hr.below hb).spot (j := p) (by omega)
            obtain rfl : ad' = ad := by injection e' with e'; exact e'.symm
            rw [hpv.out s' (by omega) (by simpa using hs')] at d4
            have hp1 : ((p + 1 : Nat) : Int) - 1 = p := by omega
            have h0 : 0 < ((p + 1 : Nat) : Int) := by omega
            clear hs' hj0
            have d4' : ∀ o, (wr.alloc o).cell? ⟨(ad'.add (p * 5)).block, (ad'.add (p * 5)).off + 1 + 3, none⟩ = some (.bool false) := fun o => by
              rw [World.cell?_alloc_lt _ _ _ (by dsimp only; rw [block_of_add]; have := hb.size; omega)]
              exact d4
            clear d4
            go_wp2
            go_region_held3 (fun w' => w'.cell? ⟨wr.heap.size, 0, none⟩ = some (.int .i64 loc) ∧ w'.cell? ⟨wr.heap.size, 1, none⟩ = some (.int .i64 r) ∧ w'.cell? ⟨wr.heap.size, 2, none⟩ = some (.int .i64 b) ∧ w'.cell? ⟨wr.heap.size, 3, none⟩ = some (.int .i64 t) ∧ w'.cell? ⟨wr.heap.size, 4, none⟩ = some (.bool true)) (go_keep)
              (first
                | (go_at_call 50; refine (HG.out _).mono ?_; rintro e w2 ⟨rfl, hb2⟩; have q0 := (hb2.cell (p := ⟨wr.heap.size, 0, none⟩) (by simp)).trans k0; have q1 := (hb2.cell (p := ⟨wr.heap.size, 1, none⟩) (by simp)).trans k1; have q2 := (hb2.cell (p := ⟨wr.heap.size, 2, none⟩) (by simp)).trans k2; have q3 := (hb2.cell (p := ⟨wr.heap.size, 3, none⟩) (by simp)).trans k3; have q4 := (hb2.cell (p := ⟨wr.heap.size, 4, none⟩) (by simp)).trans k4;
                   have D2 := B0.drew.below hb2 (by simp); have hown2 := (own_below hown0.drew hb2).alloc (.cells #[.int .i64 loc, .int .i64 (1 + r + b)] 38); have hb02 := hb0.drew.trans (hb2.mono hb0.size); have hb03 := hb02.alloc hb02.size (.cells #[.int .i64 loc, .int .i64 (1 + r + b)] 38); have D3 := D2.alloc (.cells #[.int .i64 loc, .int .i64 (1 + r + b)] 38); have hnew := reads_new w2 (runC ⟨loc, 1 + r + b⟩) 38 1 2 rfl)
                | (refine step_append_any _ (by rfl) (.tmp 13) (.tmp 20) 34 (by rfl) w.heap.size 38 i0 _ 2 16 Try.underlying34 hi hz0 hz1 hz2 rfl (by omega) (.slice A' k c') k _ (by rfl) hown2 (w2.heap.size + 1) (some ⟨w2.heap.size, 0, none⟩) 1 1 (runC ⟨loc, 1 + r + b⟩) (by rfl) hnew (by simp [runC, Value.oneCell']) (by simp [maxLen]; omega) (by omega) (by have := hb03.size; exact this) ?_; rintro v' w3 hown3 hgr hbl -; obtain ⟨A'', c'', rfl⟩ := own_slice hown3;
                   have D4 := D3.grown hgr (fun e => own_blk_ne hown2 D3 (by decide) e.symm); have s0 := D4.cell 0; have s1 := D4.cell 1; have s2 := D4.cell 2; have s3 := D4.cell 3; have s4 := D4.cell 4; simp only [List.getElem?_toArray, List.getElem?_cons_zero, List.getElem?_cons_succ] at s0 s1 s2 s3 s4))
            go_wp2
            have hb4 : Below w.heap.size w w3 := hb03.grown hgr hb03.size (fun g hg => (hown2.lt g hg).1)
            go_roundw
            case rel => exact ⟨p + 1 + 1, A'', k + 1, c'', acc ++ [⟨loc, 1 + r + b⟩], true, by omega, by go_num, rfl, by omega, by show _ = _; rw [List.length_append, ← hk.out]; rfl, HG2, HNP, (fun h => absurd h (by omega)), (fun _ => Nat.succ_pos _), (fun x hx => by
              rcases List.mem_append.1 hx with hx | hx
              · have := hacc.out x hx; omega
              · obtain rfl := List.mem_singleton.1 hx
                dsimp only
                omega), by rw [runsC_snoc]; exact hown3, hb4⟩
            case measure => simp [intOf]; omega
        · have hj0 : 0 < j := by
            rcases Nat.eq_zero_or_pos j with h | h
            · have := hp0.out h; cases this
            · exact h
          obtain ⟨p, rfl⟩ : ∃ p, j = p + 1 := ⟨j - 1, by omega⟩
          obtain ⟨ad', s', e', had', hs', -, -, -, -, d4⟩ := (hr.below hb).spot (j := p) (by omega)
          obtain rfl : ad' = ad := by injection e' with e'; exact e'.symm
          rw [hpv.out s' (by omega) (by simpa using hs')] at d4
          have hp1 : ((p + 1 : Nat) : Int) - 1 = p := by omega
          have h0 : 0 < ((p + 1 : Nat) : Int) := by omega
          have d4' : ∀ o, (wr.alloc o).cell? ⟨(ad'.add (p * 5)).block, (ad'.add (p * 5)).off + 1 + 3, none⟩ = some (.bool true) := fun o => by
            rw [World.cell?_alloc_lt _ _ _ (by dsimp only; rw [block_of_add]; have := hb.size; omega)]
            exact d4
          have hk0 := hpk.out rfl
          obtain ⟨q, hkq⟩ : ∃ q, k = q + 1 := ⟨k - 1, by omega⟩
          obtain ⟨acc', r0, rfl⟩ : ∃ acc' r0, acc = acc' ++ [r0] := by
            rcases List.eq_nil_or_concat acc with h | ⟨l, r, h⟩
            · have := hk.out; rw [h] at this; simp at this; omega
            · exact ⟨l, r, by rw [h, List.concat_eq_append]⟩
          obtain ⟨l0, n0⟩ := r0
          have hq : acc'.length = q := by have := hk.out; simp at this; omega
          have HQ := Lib.hid hq
          have hn0 := hacc.out ⟨l0, n0⟩ (List.mem_append_right _ (List.mem_singleton.2 rfl))
          obtain ⟨n1, n2⟩ := hn0
          dsimp only at n1 n2
          obtain ⟨g, cap, hv, hgb, -⟩ := hown.form (by omega)
          obtain ⟨rfl, rfl⟩ : A' = some ⟨g, 0, none⟩ ∧ c' = cap := by simpa using hv
          have hgl := (hown.lt g rfl).2
          have e0 := hown0.cellAt (q * 2 + 1) (by omega)
          rw [← hq, runsC_last, hq] at e0
          have f0 := hown0.frozenAt (q * 2 + 1)
          have HG2 : Hid (gapsL l = gapsA (acc' ++ [⟨l0, n0 + (1 + r + b)⟩]) true (l.drop (p + 1 + 1))) := by
            show _ = _
            rw [hG.out, HD.out]
            simp only [gapsA, bump_snoc]
            rfl
          have k0 := B0.cell 0
          have k1 := B0.cell 1
          have k2 := B0.cell 2
          have k3 := B0.cell 3
          have k4 := B0.cell 4
          simp only [List.getElem?_toArray, List.getElem?_cons_zero, List.getElem?_cons_succ] at k0 k1 k2 k3 k4
          have HOW := Lib.hid hown0
          have HBB := Lib.hid hb0
          have w2 : IntKind.i64.wrap ((k : Int) - 1) = (k : Int) - 1 := IntWalk.i64_in _ (by omega)
          have w3 : ((k : Int) - 1).toNat = q := by omega
          have w4 : (k : Int) - 1 < k := by omega
          have w5 : (0 : Int) ≤ (k : Int) - 1 := by omega
          have w6 : (1 : Int) ≤ (k : Int) := by omega
          have w1 : IntKind.i64.wrap (n0 + (1 + r + b)) = n0 + (1 + r + b) := IntWalk.i64_in _ (by omega)
          have HKQ := Lib.hid hkq
          clear hs' hj0 d4 hv hown hown0 hq hkq
          go_wp2
          go_region_with (go_at_call 50; refine (HG.out _).mono ?_; rintro e w2 ⟨rfl, hb2⟩; have q0 := (hb2.cell (p := ⟨wr.heap.size, 0, none⟩) (by simp)).trans k0; have q1 := (hb2.cell (p := ⟨wr.heap.size, 1, none⟩) (by simp)).trans k1; have q2 := (hb2.cell (p := ⟨wr.heap.size, 2, none⟩) (by simp)).trans k2; have q3 := (hb2.cell (p := ⟨wr.heap.size, 3, none⟩) (by simp)).trans k3; have q4 := (hb2.cell (p := ⟨wr.heap.size, 4, none⟩) (by simp)).trans k4; have e1 := (hb2.cell (p := ⟨g, q * 2 + 1, none⟩) (by simp; omega)).trans e0; have f1 := (hb2.frozen (p := ⟨g, q * 2 + 1, none⟩) (by simp; omega)).trans f0; have HB2 := Lib.hid hb2)
          all_goals
            have hown5 := own_below HOW.out.drew HB2.out
            have hown6 := (hown5.stored (q * 2 + 1) (.int .i64 (n0 + (1 + r + b)))).1
            have hq := HQ.out
            rw [← hq, runsC_bump, hq] at hown6
            have hb6 := HBB.out.drew.trans (HB2.out.mono HBB.out.size)
            have hb7 := hb6.setCell (p := ⟨g, q * 2 + 1, none⟩) hgb (.int .i64 (n0 + (1 + r + b)))
            go_wp2
            go_roundw
            case rel => exact ⟨p + 1 + 1, some ⟨g, 0, none⟩, k, c', acc' ++ [⟨l0, n0 + (1 + r + b)⟩], true, by omega, by go_num, rfl, by omega, by show _ = _; rw [List.length_append, HQ.out, HKQ.out]; rfl, HG2, HNP, (fun h => absurd h (by omega)), (fun _ => hk0), (fun x hx => by
              rcases List.mem_append.1 hx with hx | hx
              · have := hacc.out x (List.mem_append_left _ hx); omega
              · obtain rfl := List.mem_singleton.1 hx
                dsimp only
                omega), hown6, hb7⟩
            case measure => simp [intOf]; omega
    · have hjn : j = n := by omega
      subst hjn
      rw [List.drop_of_length_le (by rw [HL.out]; exact Nat.le_refl _)] at hG
      have hG : Hid (gapsL l = acc) := hG
      go_wp2
      go_ret
      rw [hG.out, ← hk.out]
      exact ⟨hb, A', c', rfl, hown⟩
end Go.Proofs.Ytammailnbgojgaa
