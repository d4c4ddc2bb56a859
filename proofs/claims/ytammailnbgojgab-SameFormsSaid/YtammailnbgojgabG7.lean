/-
  Texts joined: Gaps GapFirst WalksTrue PlanGapsFn SlideFn AppendFit ConcatInt SlideClean CleanLaw CleanGaps CarriesTrue CopyWf FormCopy ConcatU64.
-/
import Derived.Deep.RegionHeld3
import Derived.IntWalk
import Derived.Deep.QuietTactic
import Derived.BigQuiet
import Derived.Test.YtammailnbgojgabRows
import Derived.Lib.AppendZeros
import Derived.StillTailTactics
import Derived.Test.YtammailnbgojgabG0
import Derived.Test.YtammailnbgojgabG1
import Derived.Test.YtammailnbgojgabG2
import Derived.Test.YtammailnbgojgabG3
import Derived.Test.YtammailnbgojgabG4
import Derived.Test.YtammailnbgojgabG5
import Derived.Test.YtammailnbgojgabG6
/-
  package gap: spots, long, gaps, Gaps.
-/
namespace Go.Proofs.Ytammailnbgojgab
open Go.RowKit

def gspotsL (a : List Int) : List Spot := if checkE a = 0 then spotsL a else []

set_option maxHeartbeats 400000 in
theorem gspots_any (A : Option Addr) (n c : Nat) (a : List Int) (w : World) (hr : Reads w w.heap.size 1 A n (a.map (.int .u64))) (hnc : n ≤ c) (ha : ∀ x ∈ a, (Lit.int .u64 x).wf = true) :
    Calls Try.prog 64 #[.slice A n c] w fun e w' => Below w.heap.size w w' ∧ ∃ A' c', e = .returned (.tuple #[.slice A' (gspotsL a).length c', .int .i64 (checkE a)]) ∧ w'.ownsRow w.heap.size 102 5 (.slice A' (gspotsL a).length c') (gspotsL a).length (spotsC (gspotsL a)) := by
  have H1 := Lib.hid (fun w hr => checkFn_any A n c a w hr hnc ha)
  by_cases hE : checkE a = 0
  · have H2 := fun w hr => spots_any A n c a w hr ha
    rw [(checkE_ok.1 hE).1] at H2
    have H2 := Lib.hid H2
    rw [show gspotsL a = spotsL a by unfold gspotsL; rw [if_pos hE]]
    rw [hE] at H1 ⊢
    clear hE
    go_enter Try.func64, Try.ntmps64
    go_wp2_with fail
    refine (H1.out _ hr).mono ?_
    rintro e w1 ⟨rfl, hb1⟩
    go_wp2_with fail
    refine (H2.out _ ((hr.below hb1).more hb1.size)).mono ?_
    rintro e w2 ⟨hb2, A', c', rfl, hown⟩
    go_wp2
    go_ret2
    exact ⟨below_step hb1 hb2, A', c', rfl, own_mono hown hb1.size⟩
  · rw [show gspotsL a = [] by unfold gspotsL; rw [if_neg hE]]
    generalize checkE a = E at *
    have hE1 : (E != 0) = true := by simpa using hE
    clear hE
    go_enter Try.func64, Try.ntmps64
    go_wp2_with fail
    refine (H1.out _ hr).mono ?_
    rintro e w1 ⟨rfl, hb1⟩
    go_wp2
    go_ret2
    exact ⟨hb1, none, 0, rfl, World.ownsRow_nil _ _ _ _⟩

set_option maxHeartbeats 400000 in
theorem glong_ok (r b t : Int) (f : Bool) (w : World) (hE : headE r b t f = 0) :
    Calls Try.prog 69 #[.agg #[.int .i64 r, .int .i64 b, .int .i64 t, .bool f]] w fun e w' => e = .returned (.int .i64 (1 + r + b)) ∧ Below w.heap.size w w' := by
  have H := Lib.hid (fun w => hlongc_ok r b t f w hE)
  clear hE
  go_enter Try.func69, Try.ntmps69
  go_wp2_with fail
  refine (H.out _).mono ?_
  rintro e w1 ⟨rfl, hb1⟩
  go_wp2
  go_ret
  exact ⟨rfl, below_step (below_new _ _) hb1⟩

theorem info_run : (Try.prog.info? 122).map (fun i => (i.zero, i.size, i.bytes)) = some (some (.agg #[.int .i64 0, .int .i64 0]), 2, 16) := by kernel_rfl

set_option maxRecDepth 100000 in
set_option maxHeartbeats 1000000 in
theorem ggaps_any (A : Option Addr) (n c : Nat) (l : List Spot) (w : World) (hr : Reads w w.heap.size 5 A n (spotsC l)) (hn : n ≤ 256) (hl : ∀ s ∈ l, headE s.r s.b s.t s.f = 0) :
    Calls Try.prog 65 #[.slice A n c] w fun e w' => Below w.heap.size w w' ∧ ∃ A' c', e = .returned (.slice A' (gapsL l).length c') ∧ w'.ownsRow w.heap.size 122 2 (.slice A' (gapsL l).length c') (gapsL l).length (runsC (gapsL l)) := by
  have hll : l.length = n := by have := hr.1; rw [spotsC_length] at this; omega
  have HL := Lib.hid hll
  have HH := Lib.hid hl
  obtain ⟨i0, hi, hz0, hz1, hz2⟩ := info_parts info_run
  clear hll hl
  go_enter Try.func65, Try.ntmps65
  go_wp2
  go_loopw [3, 4, 5, 8] (fun o _ _ i wr => ∃ (j : Nat) (A' : Option Addr) (k c' : Nat) (acc : List Rn) (prev : Bool), j ≤ n ∧ i = .int .i64 j ∧ o = .slice A' k c' ∧ k ≤ j ∧ Hid (k = acc.length) ∧ Hid (gapsL l = gapsA acc prev (l.drop j)) ∧ Hid (∀ s, 0 < j → l[j - 1]? = some s → s.f = prev) ∧ Hid (j = 0 → prev = false) ∧ Hid (prev = true → 0 < k) ∧ Hid (∀ r ∈ acc, 0 ≤ r.len ∧ r.len ≤ 256 * j) ∧
    wr.ownsRow w.heap.size 122 2 (.slice A' k c') k (runsC acc) ∧ Below w.heap.size w wr) (fun _ _ _ i _ => n - (intOf i).toNat)
  case atStart => exact ⟨0, none, 0, 0, [], false, Nat.zero_le _, rfl, rfl, Nat.le_refl _, rfl, rfl, fun s h => absurd h (by omega), fun _ => rfl, (fun h => by cases h), (fun r h => by cases h), World.ownsRow_nil _ _ _ _, Below.refl _ _⟩
  case round =>
    obtain ⟨j, A', k, c', acc, prev, hj, rfl, rfl, hkj, hk, hG, hpv, hp0, hpk, hacc, hown, hb⟩ := hrel
    by_cases hlt : j < n
    · obtain ⟨ad, s, rfl, had, hs, c0, c1, c2, c3, c4⟩ := (hr.below hb).spot hlt
      have HD := Lib.hid (drop_of_get hs)
      have HSM : Hid (s ∈ l) := List.mem_of_getElem? hs
      have HS := Lib.hid hs
      have hE := headE_ok.1 (HH.out s HSM.out)
      have HG := Lib.hid (fun w => glong_ok s.r s.b s.t s.f w (HH.out s HSM.out))
      obtain ⟨r0, r1, b0, b1, t0, t1, l1, -⟩ := hE
      clear hs
      have HNP : Hid (∀ s', 0 < j + 1 → l[j + 1 - 1]? = some s' → s'.f = s.f) := by
        intro s' _ h
        rw [Nat.add_sub_cancel, HS.out] at h
        rw [← Option.some.inj h]
      obtain ⟨loc, r, b, t, f⟩ := s
      dsimp only at *
      have hown0 := hown.alloc (.cells #[.int .i64 loc, .int .i64 r, .int .i64 b, .int .i64 t, .bool f] 102)
      have hb0 := hb.alloc hb.size (.cells #[.int .i64 loc, .int .i64 r, .int .i64 b, .int .i64 t, .bool f] 102)
      have B0 := Blk.new wr 102 #[.int .i64 loc, .int .i64 r, .int .i64 b, .int .i64 t, .bool f]
      cases f
      · have HG2 : Hid (gapsL l = gapsA acc false (l.drop (j + 1))) := by
          show _ = _
          rw [hG.out, HD.out]
          simp only [gapsA]
          rfl
        clear B0
        go_wp2
        go_roundw
        case rel => exact ⟨j + 1, A', k, c', acc, false, by omega, by go_num, rfl, by omega, hk, HG2, HNP, fun _ => rfl, (fun h => by cases h), fun r hr => by have := hacc.out r hr; omega, hown0, hb0⟩
        case measure => simp [intOf]; omega
      · cases prev
        · have HG2 : Hid (gapsL l = gapsA (acc ++ [⟨loc, 1 + r + b⟩]) true (l.drop (j + 1))) := by
            show _ = _
            rw [hG.out, HD.out]
            simp only [gapsA]
            rfl
          have k0 := B0.cell 0
          have k1 := B0.cell 1
          have k2 := B0.cell 2
          have k3 := B0.cell 3
          have k4 := B0.cell 4
          simp only [List.getElem?_toArray, List.getElem?_cons_zero, List.getElem?_cons_succ] at k0 k1 k2 k3 k4
          by_cases hj0 : j = 0
          · have h0 : ¬ (0 < (j : Int)) := by omega
            have h0' : decide (0 < j) = false := by simp [hj0]
            clear hj0
            go_wp2
            go_region_held3 (fun w' => w'.cell? ⟨wr.heap.size, 0, none⟩ = some (.int .i64 loc) ∧ w'.cell? ⟨wr.heap.size, 1, none⟩ = some (.int .i64 r) ∧ w'.cell? ⟨wr.heap.size, 2, none⟩ = some (.int .i64 b) ∧ w'.cell? ⟨wr.heap.size, 3, none⟩ = some (.int .i64 t) ∧ w'.cell? ⟨wr.heap.size, 4, none⟩ = some (.bool true)) (go_keep)
              (first
                | (go_at_call 69; refine (HG.out _).mono ?_; rintro e w2 ⟨rfl, hb2⟩; have q0 := (hb2.cell (p := ⟨wr.heap.size, 0, none⟩) (by simp)).trans k0; have q1 := (hb2.cell (p := ⟨wr.heap.size, 1, none⟩) (by simp)).trans k1; have q2 := (hb2.cell (p := ⟨wr.heap.size, 2, none⟩) (by simp)).trans k2; have q3 := (hb2.cell (p := ⟨wr.heap.size, 3, none⟩) (by simp)).trans k3; have q4 := (hb2.cell (p := ⟨wr.heap.size, 4, none⟩) (by simp)).trans k4;
                   have D2 := B0.drew.below hb2 (by simp); have hown2 := (own_below hown0.drew hb2).alloc (.cells #[.int .i64 loc, .int .i64 (1 + r + b)] 122); have hb02 := hb0.drew.trans (hb2.mono hb0.size); have hb03 := hb02.alloc hb02.size (.cells #[.int .i64 loc, .int .i64 (1 + r + b)] 122); have D3 := D2.alloc (.cells #[.int .i64 loc, .int .i64 (1 + r + b)] 122); have hnew := reads_new w2 (runC ⟨loc, 1 + r + b⟩) 122 1 2 rfl)
                | (refine step_append_any _ (by rfl) (.tmp 13) (.tmp 20) 119 (by rfl) w.heap.size 122 i0 _ 2 16 Try.underlying119 hi hz0 hz1 hz2 rfl (by omega) (.slice A' k c') k _ (by rfl) hown2 (w2.heap.size + 1) (some ⟨w2.heap.size, 0, none⟩) 1 1 (runC ⟨loc, 1 + r + b⟩) (by rfl) hnew (by simp [runC, Value.oneCell']) (by simp [maxLen]; omega) (by omega) (by have := hb03.size; exact this) ?_; rintro v' w3 hown3 hgr hbl -; obtain ⟨A'', c'', rfl⟩ := own_slice hown3;
                   have D4 := D3.grown hgr (fun e => own_blk_ne hown2 D3 (by decide) e.symm); have s0 := D4.cell 0; have s1 := D4.cell 1; have s2 := D4.cell 2; have s3 := D4.cell 3; have s4 := D4.cell 4; simp only [List.getElem?_toArray, List.getElem?_cons_zero, List.getElem?_cons_succ] at s0 s1 s2 s3 s4))
            go_wp2
            have hb4 : Below w.heap.size w w3 := hb03.grown hgr hb03.size (fun g hg => (hown2.lt g hg).1)
            go_roundw
            case rel => exact ⟨j + 1, A'', k + 1, c'', acc ++ [⟨loc, 1 + r + b⟩], true, by omega, by go_num, rfl, by omega, by show _ = _; rw [List.length_append, ← hk.out]; rfl, HG2, HNP, (fun h => absurd h (by omega)), (fun _ => Nat.succ_pos _), (fun x hx => by
              rcases List.mem_append.1 hx with hx | hx
              · have := hacc.out x hx; omega
              · obtain rfl := List.mem_singleton.1 hx
                dsimp only
                omega), by rw [runsC_snoc]; exact hown3, hb4⟩
            case measure => simp [intOf]; omega
          · obtain ⟨p, rfl⟩ : ∃ p, j = p + 1 := ⟨j - 1, by omega⟩
            obtain ⟨ad', s', e', had', hs', -, -, -, -, d4⟩ := (hr.below hb).spot (j := p) (by omega)
            obtain rfl : ad' = ad := by injection e' with e'; exact e'.symm
            rw [hpv.out s' (by omega) (by simpa using hs')] at d4
            have hp1 : ((p + 1 : Nat) : Int) - 1 = p := by omega
            have h0 : 0 < ((p + 1 : Nat) : Int) := by omega
            clear hs' hj0
            have d4' : ∀ o, (wr.alloc o).cell? ⟨(ad'.add (p * 5)).block, (ad'.add (p * 5)).off + 1 + 3, none⟩ = some (.bool false) := fun o => by
              rw [World.cell?_alloc_lt _ _ _ (by dsimp only; rw [block_of_add]; have := hb.size; omega)]
              exact d4
            clear d4
            go_wp2
            go_region_held3 (fun w' => w'.cell? ⟨wr.heap.size, 0, none⟩ = some (.int .i64 loc) ∧ w'.cell? ⟨wr.heap.size, 1, none⟩ = some (.int .i64 r) ∧ w'.cell? ⟨wr.heap.size, 2, none⟩ = some (.int .i64 b) ∧ w'.cell? ⟨wr.heap.size, 3, none⟩ = some (.int .i64 t) ∧ w'.cell? ⟨wr.heap.size, 4, none⟩ = some (.bool true)) (go_keep)
              (first
                | (go_at_call 69; refine (HG.out _).mono ?_; rintro e w2 ⟨rfl, hb2⟩; have q0 := (hb2.cell (p := ⟨wr.heap.size, 0, none⟩) (by simp)).trans k0; have q1 := (hb2.cell (p := ⟨wr.heap.size, 1, none⟩) (by simp)).trans k1; have q2 := (hb2.cell (p := ⟨wr.heap.size, 2, none⟩) (by simp)).trans k2; have q3 := (hb2.cell (p := ⟨wr.heap.size, 3, none⟩) (by simp)).trans k3; have q4 := (hb2.cell (p := ⟨wr.heap.size, 4, none⟩) (by simp)).trans k4;
                   have D2 := B0.drew.below hb2 (by simp); have hown2 := (own_below hown0.drew hb2).alloc (.cells #[.int .i64 loc, .int .i64 (1 + r + b)] 122); have hb02 := hb0.drew.trans (hb2.mono hb0.size); have hb03 := hb02.alloc hb02.size (.cells #[.int .i64 loc, .int .i64 (1 + r + b)] 122); have D3 := D2.alloc (.cells #[.int .i64 loc, .int .i64 (1 + r + b)] 122); have hnew := reads_new w2 (runC ⟨loc, 1 + r + b⟩) 122 1 2 rfl)
                | (refine step_append_any _ (by rfl) (.tmp 13) (.tmp 20) 119 (by rfl) w.heap.size 122 i0 _ 2 16 Try.underlying119 hi hz0 hz1 hz2 rfl (by omega) (.slice A' k c') k _ (by rfl) hown2 (w2.heap.size + 1) (some ⟨w2.heap.size, 0, none⟩) 1 1 (runC ⟨loc, 1 + r + b⟩) (by rfl) hnew (by simp [runC, Value.oneCell']) (by simp [maxLen]; omega) (by omega) (by have := hb03.size; exact this) ?_; rintro v' w3 hown3 hgr hbl -; obtain ⟨A'', c'', rfl⟩ := own_slice hown3;
                   have D4 := D3.grown hgr (fun e => own_blk_ne hown2 D3 (by decide) e.symm); have s0 := D4.cell 0; have s1 := D4.cell 1; have s2 := D4.cell 2; have s3 := D4.cell 3; have s4 := D4.cell 4; simp only [List.getElem?_toArray, List.getElem?_cons_zero, List.getElem?_cons_succ] at s0 s1 s2 s3 s4))
            go_wp2
            have hb4 : Below w.heap.size w w3 := hb03.grown hgr hb03.size (fun g hg => (hown2.lt g hg).1)
            go_roundw
            case rel => exact ⟨p + 1 + 1, A'', k + 1, c'', acc ++ [⟨loc, 1 + r + b⟩], true, by omega, by go_num, rfl, by omega, by show _ = _; rw [List.length_append, ← hk.out]; rfl, HG2, HNP, (fun h => absurd h (by omega)), (fun _ => Nat.succ_pos _), (fun x hx => by
              rcases List.mem_append.1 hx with hx | hx
              · have := hacc.out x hx; omega
              · obtain rfl := List.mem_singleton.1 hx
                dsimp only
                omega), by rw [runsC_snoc]; exact hown3, hb4⟩
            case measure => simp [intOf]; omega
        · have hj0 : 0 < j := by
            rcases Nat.eq_zero_or_pos j with h | h
            · have := hp0.out h; cases this
            · exact h
          obtain ⟨p, rfl⟩ : ∃ p, j = p + 1 := ⟨j - 1, by omega⟩
          obtain ⟨ad', s', e', had', hs', -, -, -, -, d4⟩ := (hr.below hb).spot (j := p) (by omega)
          obtain rfl : ad' = ad := by injection e' with e'; exact e'.symm
          rw [hpv.out s' (by omega) (by simpa using hs')] at d4
          have hp1 : ((p + 1 : Nat) : Int) - 1 = p := by omega
          have h0 : 0 < ((p + 1 : Nat) : Int) := by omega
          have d4' : ∀ o, (wr.alloc o).cell? ⟨(ad'.add (p * 5)).block, (ad'.add (p * 5)).off + 1 + 3, none⟩ = some (.bool true) := fun o => by
            rw [World.cell?_alloc_lt _ _ _ (by dsimp only; rw [block_of_add]; have := hb.size; omega)]
            exact d4
          have hk0 := hpk.out rfl
          obtain ⟨q, hkq⟩ : ∃ q, k = q + 1 := ⟨k - 1, by omega⟩
          obtain ⟨acc', r0, rfl⟩ : ∃ acc' r0, acc = acc' ++ [r0] := by
            rcases List.eq_nil_or_concat acc with h | ⟨l, r, h⟩
            · have := hk.out; rw [h] at this; simp at this; omega
            · exact ⟨l, r, by rw [h, List.concat_eq_append]⟩
          obtain ⟨l0, n0⟩ := r0
          have hq : acc'.length = q := by have := hk.out; simp at this; omega
          have HQ := Lib.hid hq
          have hn0 := hacc.out ⟨l0, n0⟩ (List.mem_append_right _ (List.mem_singleton.2 rfl))
          obtain ⟨n1, n2⟩ := hn0
          dsimp only at n1 n2
          obtain ⟨g, cap, hv, hgb, -⟩ := hown.form (by omega)
          obtain ⟨rfl, rfl⟩ : A' = some ⟨g, 0, none⟩ ∧ c' = cap := by simpa using hv
          have hgl := (hown.lt g rfl).2
          have e0 := hown0.cellAt (q * 2 + 1) (by omega)
          rw [← hq, runsC_last, hq] at e0
          have f0 := hown0.frozenAt (q * 2 + 1)
          have HG2 : Hid (gapsL l = gapsA (acc' ++ [⟨l0, n0 + (1 + r + b)⟩]) true (l.drop (p + 1 + 1))) := by
            show _ = _
            rw [hG.out, HD.out]
            simp only [gapsA, bump_snoc]
            rfl
          have k0 := B0.cell 0
          have k1 := B0.cell 1
          have k2 := B0.cell 2
          have k3 := B0.cell 3
          have k4 := B0.cell 4
          simp only [List.getElem?_toArray, List.getElem?_cons_zero, List.getElem?_cons_succ] at k0 k1 k2 k3 k4
          have HOW := Lib.hid hown0
          have HBB := Lib.hid hb0
          have w2 : IntKind.i64.wrap ((k : Int) - 1) = (k : Int) - 1 := IntWalk.i64_in _ (by omega)
          have w3 : ((k : Int) - 1).toNat = q := by omega
          have w4 : (k : Int) - 1 < k := by omega
          have w5 : (0 : Int) ≤ (k : Int) - 1 := by omega
          have w6 : (1 : Int) ≤ (k : Int) := by omega
          have w1 : IntKind.i64.wrap (n0 + (1 + r + b)) = n0 + (1 + r + b) := IntWalk.i64_in _ (by omega)
          have HKQ := Lib.hid hkq
          clear hs' hj0 d4 hv hown hown0 hq hkq
          go_wp2
          go_region_with (go_at_call 69; refine (HG.out _).mono ?_; rintro e w2 ⟨rfl, hb2⟩; have q0 := (hb2.cell (p := ⟨wr.heap.size, 0, none⟩) (by simp)).trans k0; have q1 := (hb2.cell (p := ⟨wr.heap.size, 1, none⟩) (by simp)).trans k1; have q2 := (hb2.cell (p := ⟨wr.heap.size, 2, none⟩) (by simp)).trans k2; have q3 := (hb2.cell (p := ⟨wr.heap.size, 3, none⟩) (by simp)).trans k3; have q4 := (hb2.cell (p := ⟨wr.heap.size, 4, none⟩) (by simp)).trans k4; have e1 := (hb2.cell (p := ⟨g, q * 2 + 1, none⟩) (by simp; omega)).trans e0; have f1 := (hb2.frozen (p := ⟨g, q * 2 + 1, none⟩) (by simp; omega)).trans f0; have HB2 := Lib.hid hb2)
          all_goals
            have hown5 := own_below HOW.out.drew HB2.out
            have hown6 := (hown5.stored (q * 2 + 1) (.int .i64 (n0 + (1 + r + b)))).1
            have hq := HQ.out
            rw [← hq, runsC_bump, hq] at hown6
            have hb6 := HBB.out.drew.trans (HB2.out.mono HBB.out.size)
            have hb7 := hb6.setCell (p := ⟨g, q * 2 + 1, none⟩) hgb (.int .i64 (n0 + (1 + r + b)))
            go_wp2
            go_roundw
            case rel => exact ⟨p + 1 + 1, some ⟨g, 0, none⟩, k, c', acc' ++ [⟨l0, n0 + (1 + r + b)⟩], true, by omega, by go_num, rfl, by omega, by show _ = _; rw [List.length_append, HQ.out, HKQ.out]; rfl, HG2, HNP, (fun h => absurd h (by omega)), (fun _ => hk0), (fun x hx => by
              rcases List.mem_append.1 hx with hx | hx
              · have := hacc.out x (List.mem_append_left _ hx); omega
              · obtain rfl := List.mem_singleton.1 hx
                dsimp only
                omega), hown6, hb7⟩
            case measure => simp [intOf]; omega
    · have hjn : j = n := by omega
      subst hjn
      rw [List.drop_of_length_le (by rw [HL.out]; exact Nat.le_refl _)] at hG
      have hG : Hid (gapsL l = acc) := hG
      go_wp2
      go_ret
      rw [hG.out, ← hk.out]
      exact ⟨hb, A', c', rfl, hown⟩
end Go.Proofs.Ytammailnbgojgab

/-
  package gap: First, Best, Gaps; the laws' closed fact 'holes'.
-/
namespace Go.Proofs.Ytammailnbgojgab
open Go.RowKit

def firstV (l : List Rn) (n : Int) : Int := (fitsL l n).headD 0
def lenAt (l : List Rn) (i : Int) : Int := match l[i.toNat]? with | some r => r.len | none => 0
def bestGo (l : List Rn) (b : Int) : List Int → Int
  | [] => b
  | i :: t => bestGo l (if lenAt l i < lenAt l b then i else b) t
def bestV (l : List Rn) (n : Int) : Int := bestGo l (firstV l n) (fitsL l n)

theorem fitsL_mem {l : List Rn} {n x : Int} (h : x ∈ fitsL l n) : ∃ (j : Nat) (r : Rn), l[j]? = some r ∧ n ≤ r.len ∧ x = (j : Int) := by
  unfold fitsL at h
  split at h
  · obtain ⟨j, r, h1, h2, h3⟩ := fitIx_mem.1 h
    exact ⟨j, r, h1, h2, by simpa using h3⟩
  · cases h
theorem fitsL_bad {l : List Rn} {n : Int} (h : fitsE l n ≠ 0) : fitsL l n = [] := by unfold fitsL; rw [if_neg h]
theorem fitsL_ok {l : List Rn} {n : Int} (h : fitsE l n = 0) : fitsL l n = fitIx n 0 l ∧ fitIx n 0 l ≠ [] := by
  refine ⟨by unfold fitsL; rw [if_pos h], (fitsE_ok.1 h).2.2⟩

/-- gap.Gaps: its list. -/
def ggL (a : List Int) : List Rn := if checkE a = 0 then gapsL (spotsL a) else []

theorem gspots_small (a : List Int) : (gspotsL a).length ≤ 256 ∧ (∀ s ∈ gspotsL a, headE s.r s.b s.t s.f = 0) ∧ (checkE a ≠ 0 → gspotsL a = []) ∧ gapsL (gspotsL a) = ggL a := by
  unfold gspotsL ggL
  by_cases h : checkE a = 0
  · rw [if_pos h, if_pos h]
    refine ⟨spotsL_length a, fun s hs => ((parse_mem (parse_ok (checkE_ok.1 h).1).2) s hs).1.head, fun h2 => absurd h h2, rfl⟩
  · rw [if_neg h, if_neg h]
    exact ⟨by simp, by simp, fun _ => rfl, rfl⟩

theorem holes_facts : fitsE [⟨0, 1⟩, ⟨2, 3⟩] 2 = 0 ∧ firstV [⟨0, 1⟩, ⟨2, 3⟩] 2 = 1 := by decide
theorem holes_facts2 : checkE [281474976710656] = 0 ∧ (ggL [281474976710656]).length = 1 := by decide

end Go.Proofs.Ytammailnbgojgab

/-
  The laws' closed fact 'walks': it answers true.
-/
namespace Go.Proofs.Ytammailnbgojgab
open Go.RowKit

set_option maxHeartbeats 400000 in
theorem small_any (w : World) : Calls Try.prog 48 #[] w fun e w' => e = .returned (.slice (some ⟨w.heap.size, 0, none⟩) 2 2) ∧ w' = w.alloc (.cells #[.int .u64 1, .int .u64 1] 47) := by
  go_enter Try.func48, Try.ntmps48
  go_wp2
  go_ret
  exact ⟨rfl, rfl⟩

theorem small_reads (w : World) : Reads (w.alloc (.cells #[.int .u64 1, .int .u64 1] 47)) (w.alloc (.cells #[.int .u64 1, .int .u64 1] 47)).heap.size 1 (some ⟨w.heap.size, 0, none⟩) 2 ([1, 1].map (.int .u64)) := by
  have := reads_new w ([1, 1].map (.int .u64)) 47 2 1 rfl
  simpa using this
theorem small_wf : ∀ x ∈ ([1, 1] : List Int), (Lit.int .u64 x).wf = true := by decide
theorem small_spots : spotsE [1, 1] = 0 ∧ spotsL [1, 1] = [⟨0, 1, 0, 0, false⟩] := by decide

set_option maxHeartbeats 400000 in
theorem walks_true (w : World) : Calls Try.prog 17 #[] w fun e w' => e = .returned (.bool true) ∧ Below w.heap.size w w' := by
  have H := Lib.hid (spots_any _ 2 2 [1, 1] _ (small_reads w) small_wf)
  go_enter Try.func17, Try.ntmps17
  go_wp2_with (go_at_call 48; refine (small_any _).mono ?_; rintro e w1 ⟨rfl, rfl⟩)
  go_wp2_with fail
  refine H.out.mono ?_
  rw [small_spots.1, small_spots.2]
  rintro e w2 ⟨hb, A', c', rfl, hown⟩
  obtain ⟨g, cap, hv, hg, -⟩ := hown.form (by decide)
  obtain ⟨rfl, rfl⟩ : A' = some ⟨g, 0, none⟩ ∧ c' = cap := by simpa using hv
  have hc := hown.cellAt 1 (by decide)
  simp [spotsC, spotC] at hc
  clear hown hv
  go_wp2
  go_ret
  exact ⟨rfl, (below_new _ _).trans (hb.mono (by simp))⟩
end Go.Proofs.Ytammailnbgojgab

/-
  package plan: To, Gaps.
-/
namespace Go.Proofs.Ytammailnbgojgab
open Go.RowKit

/-- What a write to one block and the growing of one row leave. -/
def Else (w w' : World) (g : Nat) (row : Option Nat) : Prop := w.heap.size ≤ w'.heap.size ∧ ∀ k, k < w.heap.size → k ≠ g → row ≠ some k → w'.heap[k]? = w.heap[k]?
theorem own_else {w w' : World} {g : Nat} {row : Option Nat} {base : Nat} {e : TypeId} {size n : Nat} {v : Value} {xs : List Value} (h : w.ownsRow base e size v n xs) (hE : Else w w' g row) (h1 : ∀ k, v.ownBlock = some k → k ≠ g ∧ row ≠ some k) : w'.ownsRow base e size v n xs := by
  refine ⟨h.1, ?_⟩
  rcases h.2 with h2 | ⟨g', cap, cur, hv, hb, hh, rest⟩
  · exact .inl h2
  · refine .inr ⟨g', cap, cur, hv, hb, ?_, rest⟩
    obtain ⟨a1, a2⟩ := h1 g' (by subst hv; rfl)
    rw [hE.2 g' (Array.getElem?_eq_some_iff.1 hh).1 a1 a2]
    exact hh

def addG (acc : List Rn) (e x : Int) : List Rn := if e < x then acc ++ [⟨e, x - e⟩] else acc

theorem own_types2 {w : World} {base base' size size' n n' : Nat} {e e' : TypeId} {v v' : Value} {xs xs' : List Value} (h : w.ownsRow base e size v n xs) (h' : w.ownsRow base' e' size' v' n' xs') (hne : e ≠ e') {g : Nat} (hg : v.ownBlock = some g) : v'.ownBlock ≠ some g := by
  intro hg'
  rcases h.2 with ⟨rfl, _⟩ | ⟨g1, cap, cur, rfl, _, hh, _⟩
  · cases hg
  · rcases h'.2 with ⟨rfl, _⟩ | ⟨g2, cap2, cur2, rfl, _, hh2, _⟩
    · cases hg'
    · simp only [Value.ownBlock, Option.some.injEq] at hg hg'
      subst hg hg'
      rw [hh] at hh2
      injection hh2 with hh2
      injection hh2 with _ ht
      exact hne ht
theorem addL_eq (acc : List Rn) (e x : Int) : addG acc e x = acc ++ (if e < x then [⟨e, x - e⟩] else []) := by
  unfold addG
  split <;> simp
theorem addL_length (acc : List Rn) (e x : Int) : (addG acc e x).length ≤ acc.length + 1 := by
  unfold addG
  split <;> simp

theorem plans_facts : longsE [1, 1] [] [] = 0 ∧ longsV [1, 1] [] [] = [] ∧ (pgaps (2 : Nat) 0 [] []).length = 1 := by decide

end Go.Proofs.Ytammailnbgojgab

/-
  package slide: Slide.
-/
namespace Go.Proofs.Ytammailnbgojgab
open Go.RowKit

def slidW (a keep pinned : List Int) : List Int := chunksW (laidC a.length 0 (rowsOf a keep (slidGo pinned 0 keep (longsV a keep pinned))))
end Go.Proofs.Ytammailnbgojgab

/-
  append within the capacity of an owned slice: no bound on the bytes is wanted.
-/
namespace Go.Proofs.Ytammailnbgojgab
open Go.RowKit

theorem grownBy_setRow {w : World} {g : Nat} {cs : Array Value} : w.grownBy (w.setRow g cs) (some g) := by
  refine ⟨rfl, rfl, rfl, by simp [World.setRow], fun b hb hne => ?_⟩
  exact setRow_other _ _ _ _ (fun e => hne (by rw [e]))

section
variable {P : Program} (w : World)
theorem run_append_fit (base : Nat) (t ty e : TypeId) (i : TypeInfo) (size : Nat) (ht : P.underlying t = some (.slice e)) (hi : P.info? e = some i) (hsize : i.size = size)
    (A : Option Addr) (n cap : Nat) (xs : List Value) (hown : w.ownsRow base e size (.slice A n cap) n xs) (B : Nat) (As : Option Addr) (m c : Nat) (news : List Value) (hr : Reads w B size As m news) (h1 : ∀ u ∈ news, u.oneCell' = true) (hpos : 0 < size)
    (hfit : n + m ≤ cap) :
    ∃ w', (Builtin.append_ #[t, t] ty #[.slice A n cap, .slice As m c]).run P w = .ok (.slice A (n + m) cap) w' ∧ w'.ownsRow base e size (.slice A (n + m) cap) (n + m) (xs ++ news) ∧ w.grownBy w' (Value.slice A n cap).ownBlock := by
  have hnil : m = 0 → news = [] := fun h => List.eq_nil_of_length_eq_zero (by rw [hr.1, h]; simp)
  rcases As with _ | ad
  · have hm : m = 0 := by
      rcases Nat.eq_zero_or_pos m with h0 | h0
      · exact h0
      · obtain ⟨ad, h, _⟩ := hr.2 h0
        cases h
    subst hm
    rw [hnil rfl]
    exact ⟨w, run_append_of_nil w base t ty e i size ht hi _ n xs hown c, by simpa using hown, World.grownBy.refl w _⟩
  · have hcells : ∀ j u, news[j]? = some u → w.cell? (ad.add j) = some u := by
      intro j u hu
      rcases Nat.eq_zero_or_pos m with h0 | h0
      · rw [hnil h0] at hu; simp at hu
      · obtain ⟨ad', h, _, hc⟩ := hr.2 h0
        injection h with h
        subst h
        exact hc j u hu
    rcases hown.2 with ⟨hv, hx⟩ | ⟨g, cap', cur, hv, -⟩
    · injection hv with e1 e2 e3
      subst e1 e2 e3
      have hm : m = 0 := by omega
      subst hm
      rw [hnil rfl]
      have hl0 := run_loadCells_list (P := P) w ad [] (by simp)
      simp only [List.length_nil] at hl0
      exact ⟨w, by simp [hl0, Builtin.append_, run_underlying ht, sizeOf, typeInfo, hi, Builtin.lenOf, Builtin.firstCells], by simpa using hown, World.grownBy.refl w _⟩
    · injection hv with e1 e2 e3
      subst e1
      obtain ⟨cur, hb, hg, hc, hm, hs, htk⟩ := own_open hown
      have hlen : news.length = m * size := hr.1
      have hmul : (n + m) * size ≤ cap * size := Nat.mul_le_mul_right _ hfit
      have hsum : (n + m) * size = n * size + m * size := Nat.add_mul _ _ _
      have hrun := run_appendK (P := P) w t ty e size g n cap ad m c cur e news ht (by rw [hi]; simp [hsize]) hg hlen hcells hfit (by omega) h1
      refine ⟨_, hrun, ?_, grownBy_setRow⟩
      have hl2 : (splice cur (n * size) news).length = cap * size := by unfold splice; simp; omega
      have := own_close (w := w.setRow g (splice cur (n * size) news).toArray) (base := base) (e := e) (size := size) (n := n + m) (c := cap) (g := g) (splice cur (n * size) news) hb (setRow_heap w g _ _ _ _ hg) hfit hm hl2
      have h3 : (splice cur (n * size) news).take ((n + m) * size) = xs ++ news := by
        rw [hsum, take_splice _ _ _ _ (by omega) (by omega)]
        unfold splice
        rw [List.take_take, Nat.min_eq_left (by omega), htk, List.drop_of_length_le (by rw [List.length_take]; omega), List.append_nil]
      rw [h3] at this
      exact this
end
end Go.Proofs.Ytammailnbgojgab

/-
  slices.Grow of the nil slice, slices.Concat of two slices, at []int.
-/
namespace Go.Proofs.Ytammailnbgojgab
open Go.RowKit


set_option maxRecDepth 100000 in
set_option maxHeartbeats 400000 in
theorem growInt_nil (n : Nat) (w : World) (hn : n ≤ 35184372088832) :
    Calls Try.prog 97 #[.slice none 0 0, .int .i64 n] w fun e w' => ∃ A' c', e = .returned (.slice A' 0 c') ∧ w'.ownsRow w.heap.size 3 1 (.slice A' 0 c') 0 [] ∧ n ≤ c' ∧ Below w.heap.size w w' := by
  obtain ⟨i0, hi, hz0, hz1, hz2⟩ := info_parts info_int
  by_cases h0 : n = 0
  · subst h0
    go_enter Try.func97, Try.ntmps97
    go_wp2
    go_ret
    exact ⟨none, 0, rfl, World.ownsRow_nil _ _ _ _, Nat.le_refl _, Below.refl _ _⟩
  · have hw : IntKind.i64.wrap (n : Int) = n := IntWalk.i64_in _ (by omega)
    have g1 : decide (0 < n) = true := decide_eq_true (by omega)
    have hrun := fun ty => Lib.run_append_nil_zeros (P := Try.prog) w 23 3 ty 3 i0 _ .i64 .i64 Try.underlying23 Try.underlying3 hi hz0 n (by omega) (by rw [hz1]; decide) (by omega) (by rw [hz2]; omega)
    obtain ⟨cap, hcap, hc1, hc2⟩ : ∃ cap, cap = grownCap w n 0 3 ∧ n ≤ cap ∧ cap ≤ maxLen := ⟨_, rfl, grownCap_ge .., grownCap_le_maxLen _ _ _ _ (by unfold maxLen; omega)⟩
    rw [← hcap] at hrun
    have hsz : (Builtin.zeroCells (Value.int .i64 0).cells n ++ Builtin.zeroCells (Value.int .i64 0).cells (cap - n)).size = cap * 1 := by
      rw [Array.size_append, size_zeroCells, size_zeroCells]
      have : (Value.int .i64 0).cells.size = 1 := rfl
      rw [this]; omega
    generalize hcs : Builtin.zeroCells (Value.int .i64 0).cells n ++ Builtin.zeroCells (Value.int .i64 0).cells (cap - n) = cs at *
    have hfin : (w.drew.alloc (.cells cs 3)).ownsRow w.heap.size 3 1 (.slice (some ⟨w.heap.size, 0, none⟩) 0 cap) 0 [] := by
      have := own_close (w := w.drew.alloc (.cells cs 3)) (base := w.heap.size) (e := 3) (size := 1) (n := 0) (c := cap) (g := w.heap.size) cs.toList (Nat.le_refl _) (by simpa using heap_alloc_new w.drew _) (Nat.zero_le _) hc2 (by simpa using hsz)
      simpa using this
    have HF := Lib.hid hfin
    clear hfin hsz hcs hcap
    go_enter Try.func97, Try.ntmps97
    go_wp2_with (at_builtin; refine Lib.wpList_append_run _ rfl _ _ _ _ rfl _ _ rfl rfl _ _ (hrun _) ?_)
    go_ret
    exact ⟨_, _, rfl, HF.out, hc1, (Below.refl _ _).drew.alloc (Nat.le_refl _) _⟩

theorem Reads.pair {w : World} {B : Nat} {A : Option Addr} {x y : Value} (h : Reads w B 1 A 2 [x, y]) : ∃ ad, A = some ad ∧ ad.block < B ∧ w.cell? ad = some x ∧ w.cell? ⟨ad.block, ad.off + 1, none⟩ = some y := by
  obtain ⟨ad, u, e, hb, hu, hc⟩ := h.at_ (k := 0) (by decide)
  obtain ⟨ad', u', e', hb', hu', hc'⟩ := h.at_ (k := 1) (by decide)
  obtain rfl : ad' = ad := by rw [e] at e'; injection e' with e'; exact e'.symm
  simp at hu hu'
  subst hu
  subst hu'
  exact ⟨ad', e, hb, by simpa [Addr.add] using hc, by rw [addr_add_pos _ _ (by decide)] at hc'; exact hc'⟩

set_option maxRecDepth 100000 in
set_option maxHeartbeats 1000000 in
theorem concat2_int (A1 : Option Addr) (q1 c1 : Nat) (xs1 : List Value) (A2 : Option Addr) (q2 c2 : Nat) (xs2 : List Value) (Av : Option Addr) (cv : Nat) (w : World)
    (hv : Reads w w.heap.size 1 Av 2 [.slice A1 q1 c1, .slice A2 q2 c2]) (h1 : Reads w w.heap.size 1 A1 q1 xs1) (h2 : Reads w w.heap.size 1 A2 q2 xs2)
    (o1 : ∀ u ∈ xs1, u.oneCell' = true) (o2 : ∀ u ∈ xs2, u.oneCell' = true) (hq : q1 + q2 ≤ 35184372088832) :
    Calls Try.prog 47 #[.slice Av 2 cv] w fun e w' => ∃ A' c', e = .returned (.slice A' (q1 + q2) c') ∧ w'.ownsRow w.heap.size 3 1 (.slice A' (q1 + q2) c') (q1 + q2) (xs1 ++ xs2) ∧ Below w.heap.size w w' := by
  obtain ⟨i0, hi, hz0, hz1, hz2⟩ := info_parts info_int
  obtain ⟨ad, rfl, hbl, k0, k1⟩ := hv.pair
  obtain ⟨S, hS⟩ : ∃ S, S = q1 + q2 := ⟨_, rfl⟩
  have wS : IntKind.i64.wrap ((q1 : Int) + q2) = (S : Int) := by rw [IntWalk.i64_in _ (by omega)]; omega
  have wQ : IntKind.i64.wrap (q1 : Int) = (q1 : Int) := IntWalk.i64_in _ (by omega)
  have HG := Lib.hid (fun w => growInt_nil S w (by omega))
  have HS := Lib.hid hS
  rw [← hS]
  clear hS hv
  go_enter Try.func47, Try.ntmps47
  go_wp2_with fail
  go_loop [3, 5, 11] (fun sz _ i => (i = .int .i64 0 ∧ sz = .int .i64 0) ∨ (i = .int .i64 1 ∧ sz = .int .i64 q1) ∨ (i = .int .i64 2 ∧ sz = .int .i64 S)) (fun _ _ i => 2 - (intOf i).toNat)
  case atStart => exact .inl ⟨rfl, rfl⟩
  case round =>
    rcases hrel with ⟨rfl, rfl⟩ | ⟨rfl, rfl⟩ | ⟨rfl, rfl⟩
    · go_wp2_with fail
      go_round
      case rel => exact .inr (.inl ⟨rfl, rfl⟩)
      case measure => simp [intOf]
    · go_wp2_with fail
      go_round
      case rel => exact .inr (.inr ⟨rfl, rfl⟩)
      case measure => simp [intOf]
    · go_wp2_with fail
      refine (HG.out _).mono ?_
      rintro e w1 ⟨A', c', rfl, hown, hcap, hb⟩
      rw [HS.out] at hcap
      go_wp2
      go_loopw [6, 8, 27] (fun ns _ i wr => Below w.heap.size w wr ∧ ((∃ A' c', i = .int .i64 0 ∧ ns = .slice A' 0 c' ∧ wr.ownsRow w.heap.size 3 1 (.slice A' 0 c') 0 [] ∧ q1 + q2 ≤ c') ∨
        (∃ A' c', i = .int .i64 1 ∧ ns = .slice A' q1 c' ∧ wr.ownsRow w.heap.size 3 1 (.slice A' q1 c') q1 xs1 ∧ q1 + q2 ≤ c') ∨
        (∃ A' c', i = .int .i64 2 ∧ ns = .slice A' S c' ∧ wr.ownsRow w.heap.size 3 1 (.slice A' S c') S (xs1 ++ xs2)))) (fun _ _ i _ => 2 - (intOf i).toNat)
      case atStart => exact ⟨hb, .inl ⟨_, _, rfl, rfl, hown, hcap⟩⟩
      case round =>
        obtain ⟨hb, ⟨A', c', rfl, rfl, hown, hcap⟩ | ⟨A', c', rfl, rfl, hown, hcap⟩ | ⟨A', c', rfl, rfl, hown⟩⟩ := hrel
        · have m0 := (hb.cell (p := ad) hbl).trans k0
          obtain ⟨w2, hrun, hown2, hgr⟩ := run_append_fit (P := Try.prog) wr w.heap.size 23 23 3 i0 1 Try.underlying23 hi hz1 A' 0 c' [] hown w.heap.size A1 q1 c1 xs1 (h1.below hb) o1 (by decide) (by omega)
          go_wp2_with (at_builtin; refine Lib.wpList_append_run _ rfl _ _ _ _ rfl _ _ rfl rfl _ _ hrun ?_)
          have hb2 : Below w.heap.size w w2 := hb.grown hgr hb.size (fun g hg => (hown.lt g hg).1)
          rw [Nat.zero_add, List.nil_append] at hown2
          go_roundw
          case rel => exact ⟨hb2, .inr (.inl ⟨_, _, rfl, by simp, hown2, hcap⟩)⟩
          case measure => simp [intOf]
        · have m0 := (hb.cell (p := ⟨ad.block, ad.off + 1, none⟩) hbl).trans k1
          obtain ⟨w2, hrun, hown2, hgr⟩ := run_append_fit (P := Try.prog) wr w.heap.size 23 23 3 i0 1 Try.underlying23 hi hz1 A' q1 c' xs1 hown w.heap.size A2 q2 c2 xs2 (h2.below hb) o2 (by decide) hcap
          go_wp2_with (at_builtin; refine Lib.wpList_append_run _ rfl _ _ _ _ rfl _ _ rfl rfl _ _ hrun ?_)
          have hb2 : Below w.heap.size w w2 := hb.grown hgr hb.size (fun g hg => (hown.lt g hg).1)
          rw [← HS.out] at hown2
          go_roundw
          case rel => exact ⟨hb2, .inr (.inr ⟨_, _, rfl, by rw [HS.out], hown2⟩)⟩
          case measure => simp [intOf]
        · go_wp2
          go_ret
          exact ⟨A', c', rfl, hown, hb⟩
end Go.Proofs.Ytammailnbgojgab

/-
  package slide: Clean.
-/
namespace Go.Proofs.Ytammailnbgojgab
open Go.RowKit

def CleanOk (a f p : List Int) : Prop := checkE a = 0 ∧ (∀ x ∈ f ++ p, x ∈ begsL (spotsL a)) ∧ risesP p = true
theorem pairwise_rises : ∀ {l : List Int}, l.Pairwise (· < ·) → risesP l = true
  | [], _ => rfl
  | [_], _ => rfl
  | x :: y :: t, h => by
    obtain ⟨h1, h2⟩ := List.pairwise_cons.1 h
    simp only [risesP, Bool.and_eq_true, decide_eq_true_eq]
    exact ⟨h1 y List.mem_cons_self, pairwise_rises h2⟩
theorem reached_rises {a f L : List Int} {S : List Spot} (h : Reached a S f L) : risesP L = true := by
  refine pairwise_rises ?_
  have h1 := h.sorted
  have h2 := List.nodup_iff_pairwise_ne.1 h.once
  exact (List.Pairwise.and h1 h2).imp (fun ⟨h, h'⟩ => by omega)
theorem begs_ix {S : List Spot} {x : Int} (h : x ∈ begsL S) : 0 ≤ ixOf (pL x) S := by
  obtain ⟨s, hs⟩ := begsL_iff.1 h
  obtain ⟨h1, h2, h3⟩ := spotAt_some hs
  rcases ixOf_cases (pL x) S with ⟨-, e2⟩ | ⟨i, s', e1, -⟩
  · have := e2 s h1
    simp [pL, h2, h3] at this
  · omega
theorem clean_longs {a f p L : List Int} (h0 : checkE a = 0) (h : Reached a (spotsL a) (f ++ p) L) : (risesP p = true → longsE a L p = 0) ∧ (risesP p = false → longsE a L p = 3) := by
  constructor
  · intro hp
    exact longsE_ok.2 ⟨h0, reached_rises h, hp, fun x hx => begs_ix (h.begs x hx), fun x hx => h.roots x (List.mem_append_right _ hx)⟩
  · intro hp
    unfold longsE
    rw [if_neg (by simp [h0]), if_pos (by simp [hp])]
theorem reached_closed {a f L : List Int} (h0 : checkE a = 0) (h : Reached a (spotsL a) f L) : ClosedL a L :=
  ⟨h.begs, h.closed, fun x hx => (begsL_bounds (checkE_ok.1 h0).1 x (h.begs x hx)).1⟩

/-- What Clean makes. -/
structure CleanIs (a f p L Y b now : List Int) : Prop where
  check : checkE a = 0
  rises : risesP p = true
  reached : Reached a (spotsL a) (f ++ p) L
  longs : longsE a L p = 0
  y : Y = slidGo p 0 L (longsV a L p)
  b : b = slidW a L p
  now : now = f.map (posL L Y)

end Go.Proofs.Ytammailnbgojgab

/-
  Plain law: what a cleaned arena is. No program stands here.
-/
namespace Go.Proofs.Ytammailnbgojgab
open Go.RowKit

/-- All that is known of what Clean makes. -/
structure Cleaned (a f p L Y b now : List Int) : Prop where
  laid : LaidOk a L Y b a.length
  closed : ClosedL a L
  plan : Planned a L p (longsV a L p) Y
  sub : ∀ x ∈ f ++ p, x ∈ L
  pin : ∀ x ∈ p, posL L Y x = x
  map : now ++ p = (f ++ p).map (posL L Y)
  len256 : a.length ≤ 256
  lenL : L.length ≤ 256
theorem cleaned_of {a f p L Y b now : List Int} (h : CleanIs a f p L Y b now) : Cleaned a f p L Y b now := by
  obtain ⟨h1, h2, h3, h4, rfl, rfl, rfl⟩ := h
  have hP := planned_of h4
  have h0 := (checkE_ok.1 h1).1
  have hN := (parse_ok h0).1
  have hC := reached_closed h1 h3
  have hpin : ∀ x ∈ p, posL L (slidGo p 0 L (longsV a L p)) x = x := by
    intro x hx
    obtain ⟨hK, -⟩ := kept_of h4
    have hxL := h3.roots x (List.mem_append_right _ hx)
    obtain ⟨j, y, hj, hy, e⟩ := posL_ex hP.nodup hP.len hxL
    have hS := slid_of a.length p L (longsV a L p) 0 hK (fun z hz => hP.nn2 z (List.mem_of_getElem? hz))
    obtain ⟨s, i, -, -, -, -, -, e6, -⟩ := hP.at_ j x y hj hy
    rw [e]
    exact (hS.at_ j x y s.long hj e6 hy).2.1 hx
  refine ⟨?_, hC, hP, h3.roots, hpin, ?_, hN, ?_⟩
  · exact laid_ok h0 hC hP.nodup hP.len hN hP.nn hP.rows
  · rw [List.map_append]
    congr 1
    conv => lhs; rw [← List.map_id p]
    exact List.map_congr_left (fun x hx => (hpin x hx).symm)
  · exact nodup_bound 256 L h3.once (fun x hx => begsL_bounds h0 x (h3.begs x hx))
theorem Cleaned.alive {a f p L Y b now : List Int} (h : Cleaned a f p L Y b now) : ∀ x ∈ now ++ p, x ∈ begsL (spotsL b) := by
  intro x hx
  rw [h.map] at hx
  obtain ⟨z, hz, rfl⟩ := List.mem_map.1 hx
  have hzL := h.sub z hz
  obtain ⟨s, hs⟩ := begsL_iff.1 (h.closed.begs z hzL)
  obtain ⟨s', hs', -⟩ := h.laid.iso.at_ z hzL s hs
  exact begsL_iff.2 ⟨s', hs'⟩
theorem Cleaned.form {a f p L Y b now : List Int} (h : Cleaned a f p L Y b now) {os os' : List Ob} {fr fr' : List Int} (h1 : FormIs a (f ++ p) os fr) (h2 : FormIs b (now ++ p) os' fr') : os = os' ∧ fr = fr' := by
  rw [h.map] at h2
  exact form_iso h.laid.iso h.closed h.sub h1 h2

theorem rises_len {a p : List Int} (h0 : checkE a = 0) (hp : risesP p = true) (hb : ∀ x ∈ p, x ∈ begsL (spotsL a)) : p.length ≤ 256 := by
  refine nodup_bound 256 p ?_ (fun x hx => begsL_bounds (checkE_ok.1 h0).1 x (hb x hx))
  rw [List.nodup_iff_pairwise_ne]
  exact (risesP_pairwise hp).imp (fun h => by omega)

/-- The words of a laid arena are words. -/
theorem words_wf {a : List Int} (h : ∀ x ∈ a, 0 ≤ x ∧ x < 18446744073709551616) : ∀ x ∈ a, (Lit.int .u64 x).wf = true := fun x hx => by
  obtain ⟨h1, h2⟩ := h x hx
  simp [Lit.wf, IntKind.min, IntKind.max, IntKind.signed, IntKind.bits]
  omega
theorem wf_words {a : List Int} (h : ∀ x ∈ a, (Lit.int .u64 x).wf = true) : ∀ x ∈ a, 0 ≤ x ∧ x < 18446744073709551616 := fun x hx => by
  have := h x hx
  simp [Lit.wf, IntKind.min, IntKind.max, IntKind.signed, IntKind.bits] at this
  omega
theorem laid_wf {a keep Y : List Int} {N : Nat} (ha : ∀ x ∈ a, (Lit.int .u64 x).wf = true) (hR : RowsOk N 0 (rowsOf a keep Y)) (hN : N ≤ 256) (hY : ∀ y ∈ Y, y ≤ 256) (hn : keep.Nodup) (hl : Y.length = keep.length) (hC : ClosedL a keep) (hY0 : ∀ y ∈ Y, 0 ≤ y) :
    ∀ x ∈ chunksW (laidC N 0 (rowsOf a keep Y)), (Lit.int .u64 x).wf = true := by
  refine words_wf (fun x hx => ?_)
  obtain ⟨c, hc, hxc⟩ := List.mem_flatMap.1 hx
  have hcok := laidC_ok hR hN c hc
  obtain ⟨w1, w2, w3, w4, w5, w6, w7⟩ := rdw_word c.r c.b c.t c.f hcok.1
  rcases List.mem_cons.1 hxc with rfl | hxp
  · exact ⟨w6, w7⟩
  · rcases laidC_mem hR c hc with ⟨q, -, -, rfl⟩ | ⟨y, hy⟩
    · have := List.eq_of_mem_replicate hxp
      omega
    · obtain ⟨j, hj⟩ := List.mem_iff_getElem?.1 hy
      have hjl : j < keep.length := by have := (List.getElem?_eq_some_iff.1 hj).1; rw [rowsOf_length hl] at this; exact this
      have := rowsOf_at (a := a) (List.getElem?_eq_getElem hjl) (List.getElem?_eq_getElem (l := Y) (i := j) (by omega))
      rw [hj] at this
      simp only [Option.some.injEq, Prod.mk.injEq] at this
      obtain ⟨-, rfl⟩ := this
      obtain ⟨s, hs⟩ := begsL_iff.1 (hC.begs _ (List.getElem_mem hjl))
      rw [rowAt_some hs] at hxp
      rcases List.mem_append.1 hxp with h | h
      · obtain ⟨v, hv, rfl⟩ := List.mem_map.1 h
        unfold refT
        by_cases h0 : v = 0
        · rw [if_pos h0]; omega
        · rw [if_neg h0]
          have hk := Iso.link_of hC (List.getElem_mem hjl) hs v hv h0
          obtain ⟨i, u, -, hu, e⟩ := posL_ex hn hl hk
          have h1 := hY u (List.mem_of_getElem? hu)
          have h2 := hY0 u (List.mem_of_getElem? hu)
          rw [e]
          omega
      · unfold bodyOf at h
        exact wf_words ha x (List.mem_of_mem_drop (List.mem_of_mem_take h))
theorem Cleaned.wf {a f p L Y b now : List Int} (h : Cleaned a f p L Y b now) (hI : CleanIs a f p L Y b now) (ha : ∀ x ∈ a, (Lit.int .u64 x).wf = true) : (∀ x ∈ b, (Lit.int .u64 x).wf = true) ∧ ∀ x ∈ now, (Lit.int .i64 x).wf = true := by
  have hN := h.len256
  have hYb : ∀ y ∈ Y, 0 ≤ y ∧ y ≤ 256 := fun y hy => by
    obtain ⟨j, hj⟩ := List.mem_iff_getElem?.1 hy
    have hjl : j < L.length := by rw [← h.plan.len]; exact (List.getElem?_eq_some_iff.1 hj).1
    obtain ⟨s, i, -, -, -, e4, e5, -, e7, -⟩ := h.plan.at_ j _ y (List.getElem?_eq_getElem hjl) hj
    have := e4.r0
    have := e4.b0
    unfold Spot.long at e5
    omega
  constructor
  · obtain ⟨-, -, -, -, rfl, rfl, -⟩ := hI
    exact laid_wf ha h.plan.rows hN (fun y hy => (hYb y hy).2) h.plan.nodup h.plan.len h.closed h.plan.nn
  · obtain ⟨-, -, -, -, -, -, rfl⟩ := hI
    intro x hx
    obtain ⟨z, hz, rfl⟩ := List.mem_map.1 hx
    obtain ⟨i, u, -, hu, e⟩ := posL_ex h.plan.nodup h.plan.len (h.sub z (List.mem_append_left _ hz))
    have := hYb u (List.mem_of_getElem? hu)
    rw [e]
    simp [Lit.wf, IntKind.min, IntKind.max, IntKind.signed, IntKind.bits]
    omega

theorem slides_ok : CleanOk [1, 1] [0] [] := by
  refine ⟨by decide, ?_, by decide⟩
  decide
end Go.Proofs.Ytammailnbgojgab

/-
  Plain law: the gaps of a cleaned arena; cleaned twice. No program stands here.
-/
namespace Go.Proofs.Ytammailnbgojgab
open Go.RowKit

theorem rsum_takeG {L : List Rn} {M : Int} (h : ∀ r ∈ L, 0 ≤ r.len ∧ r.len ≤ M) : ∀ j, j ≤ L.length → 0 ≤ rsum (L.take j) ∧ rsum (L.take j) ≤ M * j := by
  intro j
  induction j with
  | zero => intro _; simp [rsum]
  | succ j ih =>
    intro hj
    have hlt : j < L.length := by omega
    rw [List.take_succ_eq_append_getElem hlt, rsum_append]
    have h1 := h _ (List.getElem_mem hlt)
    have h2 := ih (by omega)
    simp only [rsum]
    have e : M * ((j + 1 : Nat) : Int) = M * j + M := by rw [Int.natCast_add, Int.mul_add]; simp
    rw [e]
    omega
theorem rsum_mono {L : List Rn} (h : ∀ r ∈ L, 0 ≤ r.len) : ∀ j, rsum (L.take j) ≤ rsum L := by
  induction L with
  | nil => intro j; simp
  | cons r L ih =>
    intro j
    have h0 := h r List.mem_cons_self
    have ih' := ih (fun x hx => h x (List.mem_cons_of_mem _ hx))
    cases j with
    | zero =>
      have := ih' 0
      simp only [List.take_zero, rsum] at this ⊢
      omega
    | succ j =>
      have := ih' j
      simp only [List.take_succ_cons, rsum]
      omega
theorem longsL_isum {a L longs : List Int} (hl : longs.length = L.length) (h : ∀ (j : Nat) (x : Int), L[j]? = some x → longs[j]? = some (longW (spotsL a) x)) : isum longs = longsL (spotsL a) L := by
  induction L generalizing longs with
  | nil => obtain rfl : longs = [] := List.eq_nil_of_length_eq_zero hl
           rfl
  | cons x L ih =>
    cases longs with
    | nil => cases hl
    | cons k longs =>
      have h0 := h 0 x rfl
      simp only [List.getElem?_cons_zero, Option.some.injEq] at h0
      simp only [isum, longsL]
      rw [ih (by simpa using hl) (fun j y hy => by have := h (j + 1) y (by simpa using hy); simpa using this), h0]

theorem Cleaned.gaps {a f p L Y b now : List Int} (h : Cleaned a f p L Y b now) (hI : CleanIs a f p L Y b now) :
    ggL b = pgaps a.length 0 Y (longsV a L p) ∧ rsum (ggL b) + longsL (spotsL a) L = a.length ∧ (∀ r ∈ ggL b, 0 ≤ r.len ∧ r.len ≤ 256) ∧ (ggL b).length ≤ p.length + 1 ∧ (ggL b).length ≤ 257 := by
  have hg : ggL b = pgaps a.length 0 Y (longsV a L p) := by
    unfold ggL
    rw [if_pos h.laid.check, h.laid.gaps, h.plan.ys, h.plan.lens]
  obtain ⟨hK, hN⟩ := kept_of hI.longs
  have hs := pgaps_sum a.length p L (longsV a L p) 0 hK (fun x hx => h.plan.nn2 x (List.mem_of_getElem? hx)) (by omega)
  rw [← hI.y] at hs
  have hlen : (pgaps a.length 0 Y (longsV a L p)).length ≤ p.length + 1 := by
    rw [hI.y]
    exact pgaps_few (reached_rises hI.reached)
  have hlen2 : (pgaps a.length 0 Y (longsV a L p)).length ≤ L.length + 1 := by
    rw [hI.y]
    have h1 := pgaps_count a.length p L (longsV a L p) 0
    have h2 := List.length_filter_le (fun x => decide (x ∈ p)) L
    omega
  have hll := h.lenL
  have hsum : isum (longsV a L p) = longsL (spotsL a) L := longsL_isum h.plan.lenL (fun j x hx => by
    obtain ⟨s, i, e1, -, -, -, -, e6, -⟩ := h.plan.at_ j x _ hx (List.getElem?_eq_getElem (l := Y) (i := j) (by rw [h.plan.len]; exact (List.getElem?_eq_some_iff.1 hx).1))
    rw [e6]
    unfold longW
    rw [e1])
  rw [hg]
  refine ⟨rfl, by rw [← hsum, hs.1]; omega, fun r hr => ?_, hlen, by omega⟩
  have := hs.2 r hr
  omega
end Go.Proofs.Ytammailnbgojgab

/-
  The laws' closed fact 'carries'.
-/
namespace Go.Proofs.Ytammailnbgojgab
open Go.RowKit

theorem Ordered.live {a : List Int} {S : List Spot} {f L R : List Int} (h : Ordered a S f L) (hR : Reached a S f R) : R = sortL L := hR.unique (h.search.done h.roots)

theorem carries_one {L : List Int} (h : Ordered [1, 1] (spotsL [1, 1]) [0] L) : L.length = 1 := by
  have hb := h.search.begs
  rw [tints_facts.2] at hb
  have h0 : (0 : Int) ∈ L := h.roots 0 (by simp)
  have hle : L.length ≤ 1 := nodup_bound 1 L h.search.once (fun x hx => by
    have := hb x hx
    simp only [begsL, List.filter_cons, List.map_cons] at this
    simp at this
    omega)
  have := List.length_pos_of_mem h0
  omega

end Go.Proofs.Ytammailnbgojgab

/-
  Plain law: the words of a copied arena, and where its objects stand. No program stands here.
-/
namespace Go.Proofs.Ytammailnbgojgab
open Go.RowKit

theorem CopyIs.nn {a f O Y b : List Int} {N : Nat} (hI : CopyIs a f N O Y b) : 0 ≤ longsL (spotsL a) O := by
  have hD := copied_of hI
  exact longsL_nn (fun x hx => by
    obtain ⟨j, hj⟩ := List.mem_iff_getElem?.1 hx
    obtain ⟨s, i, h⟩ := (copy_facts hI.check hD.closed id).2 j x hj
    unfold longW
    rw [h.spot]
    have := h.ok.r0
    have := h.ok.b0
    simp only [Spot.long]
    omega)
theorem CopyIs.yb {a f O Y b : List Int} {N : Nat} (hI : CopyIs a f N O Y b) : ∀ y ∈ Y, 0 ≤ y ∧ y ≤ 256 := fun y hy => by
  have hD := copied_of hI
  have hM := hI.le
  have hfit := hI.fit
  obtain ⟨j, hj⟩ := List.mem_iff_getElem?.1 hy
  have hjl : j < O.length := by rw [← hD.len]; exact (List.getElem?_eq_some_iff.1 hj).1
  rw [hI.y, sumsY_at _ _ _ _ hjl] at hj
  have h1 := (copy_facts hI.check hD.closed id).1 j
  have h2 := (copy_facts hI.check hD.closed id).1 O.length
  rw [List.take_length] at h2
  have := Option.some.inj hj
  have := h1.2.2.1
  have := h1.2.2.2.1
  have := h2.2.2.1
  omega
theorem CopyIs.wf {a f O Y b : List Int} {N : Nat} (hI : CopyIs a f N O Y b) (ha : ∀ x ∈ a, (Lit.int .u64 x).wf = true) : ∀ x ∈ b, (Lit.int .u64 x).wf = true := by
  have hD := copied_of hI
  have := laid_wf ha hD.rows hI.le (fun y hy => (hI.yb y hy).2) hD.nodup hD.len hD.closed hD.nn
  rw [hI.b]
  exact this
theorem CopyIs.ix {a f O Y b : List Int} {N : Nat} (hI : CopyIs a f N O Y b) : ∀ x ∈ O, ∃ (q : Nat) (y : Int), q < O.length ∧ ixOf (fun z => x == z) O = q ∧ Y[q]? = some y ∧ posL O Y x = y := fun x hx => by
  have hD := copied_of hI
  obtain ⟨q, y, h1, h2, h3⟩ := posL_ex (keep := O) (Y := Y) hD.nodup hD.len hx
  exact ⟨q, y, (List.getElem?_eq_some_iff.1 h1).1, idxL_at hD.nodup h1, h2, h3⟩
theorem CopyIs.nowf {a f O Y b : List Int} {N : Nat} (hI : CopyIs a f N O Y b) : ∀ x ∈ f.map (posL O Y), (Lit.int .i64 x).wf = true := fun x hx => by
  obtain ⟨z, hz, rfl⟩ := List.mem_map.1 hx
  obtain ⟨q, y, -, -, h1, h2⟩ := hI.ix z (hI.ordered.roots z hz)
  have := hI.yb y (List.mem_of_getElem? h1)
  rw [h2]
  simp [Lit.wf, IntKind.min, IntKind.max, IntKind.signed, IntKind.bits]
  omega
/-- What is reached has no more words than there are. -/
theorem reached_fits {a f L : List Int} (h0 : checkE a = 0) (h : Reached a (spotsL a) f L) : longsL (spotsL a) L ≤ a.length := by
  have h' : Reached a (spotsL a) (f ++ []) L := by rw [List.append_nil]; exact h
  have hI : CleanIs a f [] L (slidGo [] 0 L (longsV a L [])) (slidW a L []) (f.map (posL L (slidGo [] 0 L (longsV a L [])))) := ⟨h0, rfl, h', (clean_longs h0 h').1 rfl, rfl, rfl, rfl⟩
  have hD := cleaned_of hI
  obtain ⟨-, g2, g3, -⟩ := hD.gaps hI
  have := (rsum_takeG g3 (ggL (slidW a L [])).length (Nat.le_refl _)).1
  rw [List.take_length] at this
  omega
theorem ordered_fits {a f O : List Int} (h0 : checkE a = 0) (h : Ordered a (spotsL a) f O) : longsL (spotsL a) O ≤ a.length := by
  have := reached_fits h0 (h.search.done h.roots)
  rwa [longsL_perm (spotsL a) (sortL_perm O)] at this
end Go.Proofs.Ytammailnbgojgab

/-
  Plain law: what is built of a form is what is copied. No program stands here.
-/
namespace Go.Proofs.Ytammailnbgojgab
open Go.RowKit

theorem form_copy {a f O : List Int} {os : List Ob} {N : Nat} (h0 : checkE a = 0) (hO : Ordered a (spotsL a) f O) (hos : os = O.map (formO a (spotsL a) O)) (hL : LayOk os N) :
    CopyIs a f N O (sumsY (spotsL a) 0 O) (layW os N) ∧ ∀ x ∈ O, ((begO os (idxL O x).toNat : Nat) : Int) = posL O (sumsY (spotsL a) 0 O) x := by
  have hC := ordered_closed h0 hO
  have h1 := (checkE_ok.1 h0).1
  have hmem := parse_mem (parse_ok h1).2
  have hn := hO.search.once
  have hlen : os.length = O.length := by rw [hos, List.length_map]
  have hyl := sumsY_length (spotsL a) O 0
  have hat : ∀ x ∈ O, ∃ s, spotAt (spotsL a) x = some s ∧ SpotOk a s ∧ s.f = false ∧ formO a (spotsL a) O x = ⟨s.t, (refsOf a s).map (fun v => idxL O (v - 1)), bodyOf a s, s.f⟩ := by
    intro x hx
    obtain ⟨s, hs⟩ := begsL_iff.1 (hC.begs x hx)
    obtain ⟨g1, g2, -⟩ := spotAt_some hs
    refine ⟨s, hs, (hmem s g1).1, g2, ?_⟩
    unfold formO
    rw [hs]
  have hobl : ∀ x ∈ O, ((obLen (formO a (spotsL a) O x) : Nat) : Int) = longW (spotsL a) x := by
    intro x hx
    obtain ⟨s, hs, hok, -, e⟩ := hat x hx
    rw [e]
    unfold obLen longW
    rw [hs]
    dsimp only
    rw [List.length_map, refsOf_length hok, bodyOf_length hok]
    have := hok.r0
    have := hok.b0
    unfold Spot.long
    omega
  have htot : ∀ l : List Int, (∀ x ∈ l, x ∈ O) → ((totO (l.map (formO a (spotsL a) O)) : Nat) : Int) = longsL (spotsL a) l := by
    intro l
    induction l with
    | nil => intro _; rfl
    | cons x l ih =>
      intro hl
      have e1 := ih (fun y hy => hl y (List.mem_cons_of_mem _ hy))
      have e2 := hobl x (hl x List.mem_cons_self)
      simp only [List.map_cons, totO, longsL]
      omega
  have hbeg : ∀ j, ((begO os j : Nat) : Int) = longsL (spotsL a) (O.take j) := by
    intro j
    unfold begO
    rw [hos, ← List.map_take]
    exact htot _ (fun x hx => List.mem_of_mem_take hx)
  have hT : ((totO os : Nat) : Int) = longsL (spotsL a) O := by rw [hos]; exact htot O (fun x hx => hx)
  have hpos : ∀ x ∈ O, ∃ j : Nat, idxL O x = j ∧ ((begO os j : Nat) : Int) = posL O (sumsY (spotsL a) 0 O) x := by
    intro x hx
    obtain ⟨j, y, g1, g2, g3⟩ := posL_ex hn hyl hx
    refine ⟨j, idxL_at hn g1, ?_⟩
    rw [g3, hbeg]
    rw [sumsY_at _ _ _ _ ((List.getElem?_eq_some_iff.1 g1).1)] at g2
    have := Option.some.inj g2
    omega
  have hfit := hL.fit
  refine ⟨⟨h0, hO, by omega, by have := hL.hi; omega, rfl, ?_⟩, fun x hx => ?_⟩
  · obtain ⟨r1, r2, r3, r4⟩ := rows_sums (a := a) (φ := posL O (sumsY (spotsL a) 0 O)) N O 0 (fun x hx => by
      obtain ⟨s, hs, hok, hf, -⟩ := hat x hx
      obtain ⟨k1, k2, -, -⟩ := kC_ok (posL O (sumsY (spotsL a) 0 O)) hok hf
      rw [rowAt_some hs]
      refine ⟨k1, rfl, ?_⟩
      unfold longW
      rw [hs]
      exact k2) (by simp only [Int.natCast_zero, Int.zero_add]; omega)
    have r4' : laidC N 0 (rowsOf a O (sumsY (spotsL a) 0 O)) = O.map (rowAt a (posL O (sumsY (spotsL a) 0 O))) ++ flushC (N - ((0 : Nat) + longsL (spotsL a) O : Int).toNat) := r4
    rw [r4']
    unfold layW layCs
    have e1 : ((0 : Nat) + longsL (spotsL a) O : Int).toNat = totO os := by omega
    rw [e1]
    congr 2
    rw [show os.map (obChk os) = (O.map (formO a (spotsL a) O)).map (obChk os) from congrArg (List.map (obChk os)) hos, List.map_map]
    refine List.map_congr_left (fun x hx => ?_)
    obtain ⟨s, hs, hok, hf, e⟩ := hat x hx
    show obChk os (formO a (spotsL a) O x) = rowAt a _ x
    rw [e, rowAt_some hs]
    unfold obChk kC
    dsimp only
    rw [List.length_map, refsOf_length hok, bodyOf_length hok, hf, List.map_map]
    have r0 := hok.r0
    have b0 := hok.b0
    have q1 : ((s.r.toNat : Nat) : Int) = s.r := by omega
    have q2 : ((s.b.toNat : Nat) : Int) = s.b := by omega
    rw [q1, q2]
    congr 2
    refine List.map_congr_left (fun v hv => ?_)
    show refP os (idxL O (v - 1)) = refT _ v
    by_cases hv0 : v = 0
    · subst hv0
      have : idxL O (0 - 1) = -1 := idxL_neg (fun y hy => hC.nn y hy)
      rw [this]
      rfl
    · obtain ⟨j, g1, g2⟩ := hpos (v - 1) (Iso.link_of hC hx hs v hv hv0)
      rw [g1]
      unfold refP refT
      rw [if_neg (by omega), if_neg hv0, Int.toNat_natCast, g2]
  · obtain ⟨j, g1, g2⟩ := hpos x hx
    rw [g1, Int.toNat_natCast]
    exact g2
end Go.Proofs.Ytammailnbgojgab

/-
  slices.Grow of the nil slice, slices.Concat of two slices, at []uint64.
-/
namespace Go.Proofs.Ytammailnbgojgab
open Go.RowKit


set_option maxRecDepth 100000 in
set_option maxHeartbeats 400000 in
theorem growU64_nil (n : Nat) (w : World) (hn : n ≤ 35184372088832) :
    Calls Try.prog 103 #[.slice none 0 0, .int .i64 n] w fun e w' => ∃ A' c', e = .returned (.slice A' 0 c') ∧ w'.ownsRow w.heap.size 47 1 (.slice A' 0 c') 0 [] ∧ n ≤ c' ∧ Below w.heap.size w w' := by
  obtain ⟨i0, hi, hz0, hz1, hz2⟩ := info_parts info_u64
  by_cases h0 : n = 0
  · subst h0
    go_enter Try.func103, Try.ntmps103
    go_wp2
    go_ret
    exact ⟨none, 0, rfl, World.ownsRow_nil _ _ _ _, Nat.le_refl _, Below.refl _ _⟩
  · have hw : IntKind.i64.wrap (n : Int) = n := IntWalk.i64_in _ (by omega)
    have g1 : decide (0 < n) = true := decide_eq_true (by omega)
    have hrun := fun ty => Lib.run_append_nil_zeros (P := Try.prog) w 22 3 ty 47 i0 _ .i64 .i64 Try.underlying22 Try.underlying3 hi hz0 n (by omega) (by rw [hz1]; decide) (by omega) (by rw [hz2]; omega)
    obtain ⟨cap, hcap, hc1, hc2⟩ : ∃ cap, cap = grownCap w n 0 47 ∧ n ≤ cap ∧ cap ≤ maxLen := ⟨_, rfl, grownCap_ge .., grownCap_le_maxLen _ _ _ _ (by unfold maxLen; omega)⟩
    rw [← hcap] at hrun
    have hsz : (Builtin.zeroCells (Value.int .u64 0).cells n ++ Builtin.zeroCells (Value.int .u64 0).cells (cap - n)).size = cap * 1 := by
      rw [Array.size_append, size_zeroCells, size_zeroCells]
      have : (Value.int .u64 0).cells.size = 1 := rfl
      rw [this]; omega
    generalize hcs : Builtin.zeroCells (Value.int .u64 0).cells n ++ Builtin.zeroCells (Value.int .u64 0).cells (cap - n) = cs at *
    have hfin : (w.drew.alloc (.cells cs 47)).ownsRow w.heap.size 47 1 (.slice (some ⟨w.heap.size, 0, none⟩) 0 cap) 0 [] := by
      have := own_close (w := w.drew.alloc (.cells cs 47)) (base := w.heap.size) (e := 47) (size := 1) (n := 0) (c := cap) (g := w.heap.size) cs.toList (Nat.le_refl _) (by simpa using heap_alloc_new w.drew _) (Nat.zero_le _) hc2 (by simpa using hsz)
      simpa using this
    have HF := Lib.hid hfin
    clear hfin hsz hcs hcap
    go_enter Try.func103, Try.ntmps103
    go_wp2_with (at_builtin; refine Lib.wpList_append_run _ rfl _ _ _ _ rfl _ _ rfl rfl _ _ (hrun _) ?_)
    go_ret
    exact ⟨_, _, rfl, HF.out, hc1, (Below.refl _ _).drew.alloc (Nat.le_refl _) _⟩

set_option maxRecDepth 100000 in
set_option maxHeartbeats 1000000 in
theorem concat2_u64 (A1 : Option Addr) (q1 c1 : Nat) (xs1 : List Value) (A2 : Option Addr) (q2 c2 : Nat) (xs2 : List Value) (Av : Option Addr) (cv : Nat) (w : World)
    (hv : Reads w w.heap.size 1 Av 2 [.slice A1 q1 c1, .slice A2 q2 c2]) (h1 : Reads w w.heap.size 1 A1 q1 xs1) (h2 : Reads w w.heap.size 1 A2 q2 xs2)
    (o1 : ∀ u ∈ xs1, u.oneCell' = true) (o2 : ∀ u ∈ xs2, u.oneCell' = true) (hq : q1 + q2 ≤ 35184372088832) :
    Calls Try.prog 59 #[.slice Av 2 cv] w fun e w' => ∃ A' c', e = .returned (.slice A' (q1 + q2) c') ∧ w'.ownsRow w.heap.size 47 1 (.slice A' (q1 + q2) c') (q1 + q2) (xs1 ++ xs2) ∧ Below w.heap.size w w' := by
  obtain ⟨i0, hi, hz0, hz1, hz2⟩ := info_parts info_u64
  obtain ⟨ad, rfl, hbl, k0, k1⟩ := hv.pair
  obtain ⟨S, hS⟩ : ∃ S, S = q1 + q2 := ⟨_, rfl⟩
  have wS : IntKind.i64.wrap ((q1 : Int) + q2) = (S : Int) := by rw [IntWalk.i64_in _ (by omega)]; omega
  have wQ : IntKind.i64.wrap (q1 : Int) = (q1 : Int) := IntWalk.i64_in _ (by omega)
  have HG := Lib.hid (fun w => growU64_nil S w (by omega))
  have HS := Lib.hid hS
  rw [← hS]
  clear hS hv
  go_enter Try.func59, Try.ntmps59
  go_wp2_with fail
  go_loop [3, 5, 11] (fun sz _ i => (i = .int .i64 0 ∧ sz = .int .i64 0) ∨ (i = .int .i64 1 ∧ sz = .int .i64 q1) ∨ (i = .int .i64 2 ∧ sz = .int .i64 S)) (fun _ _ i => 2 - (intOf i).toNat)
  case atStart => exact .inl ⟨rfl, rfl⟩
  case round =>
    rcases hrel with ⟨rfl, rfl⟩ | ⟨rfl, rfl⟩ | ⟨rfl, rfl⟩
    · go_wp2_with fail
      go_round
      case rel => exact .inr (.inl ⟨rfl, rfl⟩)
      case measure => simp [intOf]
    · go_wp2_with fail
      go_round
      case rel => exact .inr (.inr ⟨rfl, rfl⟩)
      case measure => simp [intOf]
    · go_wp2_with fail
      refine (HG.out _).mono ?_
      rintro e w1 ⟨A', c', rfl, hown, hcap, hb⟩
      rw [HS.out] at hcap
      go_wp2
      go_loopw [6, 8, 27] (fun ns _ i wr => Below w.heap.size w wr ∧ ((∃ A' c', i = .int .i64 0 ∧ ns = .slice A' 0 c' ∧ wr.ownsRow w.heap.size 47 1 (.slice A' 0 c') 0 [] ∧ q1 + q2 ≤ c') ∨
        (∃ A' c', i = .int .i64 1 ∧ ns = .slice A' q1 c' ∧ wr.ownsRow w.heap.size 47 1 (.slice A' q1 c') q1 xs1 ∧ q1 + q2 ≤ c') ∨
        (∃ A' c', i = .int .i64 2 ∧ ns = .slice A' S c' ∧ wr.ownsRow w.heap.size 47 1 (.slice A' S c') S (xs1 ++ xs2)))) (fun _ _ i _ => 2 - (intOf i).toNat)
      case atStart => exact ⟨hb, .inl ⟨_, _, rfl, rfl, hown, hcap⟩⟩
      case round =>
        obtain ⟨hb, ⟨A', c', rfl, rfl, hown, hcap⟩ | ⟨A', c', rfl, rfl, hown, hcap⟩ | ⟨A', c', rfl, rfl, hown⟩⟩ := hrel
        · have m0 := (hb.cell (p := ad) hbl).trans k0
          obtain ⟨w2, hrun, hown2, hgr⟩ := run_append_fit (P := Try.prog) wr w.heap.size 22 22 47 i0 1 Try.underlying22 hi hz1 A' 0 c' [] hown w.heap.size A1 q1 c1 xs1 (h1.below hb) o1 (by decide) (by omega)
          go_wp2_with (at_builtin; refine Lib.wpList_append_run _ rfl _ _ _ _ rfl _ _ rfl rfl _ _ hrun ?_)
          have hb2 : Below w.heap.size w w2 := hb.grown hgr hb.size (fun g hg => (hown.lt g hg).1)
          rw [Nat.zero_add, List.nil_append] at hown2
          go_roundw
          case rel => exact ⟨hb2, .inr (.inl ⟨_, _, rfl, by simp, hown2, hcap⟩)⟩
          case measure => simp [intOf]
        · have m0 := (hb.cell (p := ⟨ad.block, ad.off + 1, none⟩) hbl).trans k1
          obtain ⟨w2, hrun, hown2, hgr⟩ := run_append_fit (P := Try.prog) wr w.heap.size 22 22 47 i0 1 Try.underlying22 hi hz1 A' q1 c' xs1 hown w.heap.size A2 q2 c2 xs2 (h2.below hb) o2 (by decide) hcap
          go_wp2_with (at_builtin; refine Lib.wpList_append_run _ rfl _ _ _ _ rfl _ _ rfl rfl _ _ hrun ?_)
          have hb2 : Below w.heap.size w w2 := hb.grown hgr hb.size (fun g hg => (hown.lt g hg).1)
          rw [← HS.out] at hown2
          go_roundw
          case rel => exact ⟨hb2, .inr (.inr ⟨_, _, rfl, by rw [HS.out], hown2⟩)⟩
          case measure => simp [intOf]
        · go_wp2
          go_ret
          exact ⟨A', c', rfl, hown, hb⟩
end Go.Proofs.Ytammailnbgojgab
