/-
  Texts joined: Check Gaps GapFirst Chunks JoinLaw GapJoin.
-/
import Derived.Deep.RegionHeld3
import Derived.IntWalk
import Derived.Test.YtaclnkcohifpiaaG0
import Derived.Test.YtaclnkcohifpiaaG1
namespace Go.Proofs.Ytaclnkcohifpiaa
open Go.RowKit
def spotV (s : Spot) : Value := .agg #[.int .i64 s.loc, .int .i64 s.r, .int .i64 s.b, .int .i64 s.t, .bool s.f]
set_option maxHeartbeats 400000 in
theorem refs_any (A : Option Addr) (n c B : Nat) (a : List Int) (s : Spot) (w : World) (hr : Reads w B 1 A n (a.map (.int .u64))) (hB : B ≤ w.heap.size) (hc : n ≤ c) (hn : n ≤ 256) (hs : SpotOk a s) :
    Calls Try.prog 60 #[.slice A n c, .agg #[.int .i64 s.loc, .int .i64 s.r, .int .i64 s.b, .int .i64 s.t, .bool s.f]] w fun e w' => Below w.heap.size w w' ∧ ∃ A' c', e = .returned (.slice A' s.r.toNat c') ∧ s.r.toNat ≤ c' ∧ Reads w' B 1 A' s.r.toNat ((refsOf a s).map (.int .u64)) := by
  have hal : a.length = n := by have := hr.1; simpa using this
  have l0 := hs.loc0
  have r0 := hs.r0
  have b0 := hs.b0
  have ft := hs.fits
  clear hs
  obtain ⟨loc, r, b, t, f⟩ := s
  simp only [Spot.long] at ft l0 r0 b0 ⊢
  obtain ⟨i, rfl⟩ := Int.eq_ofNat_of_zero_le l0
  obtain ⟨k, rfl⟩ := Int.eq_ofNat_of_zero_le r0
  rw [hal] at ft
  have HS := Lib.hid (hr.sub (lo := i + 1) (hi := i + 1 + k) (by omega) (by omega) hc)
  have hpos : 0 < n := by omega
  obtain ⟨ad, rfl, had, -⟩ := hr.2 hpos
  rw [Int.toNat_natCast]
  have ek : ∀ (A : Option Addr) (c : Nat), Ending.returned (.slice A (i + 1 + k - (i + 1)) c) = .returned (.slice A k c) := fun A c => by rw [show i + 1 + k - (i + 1) = k by omega]
  have EK := Lib.hid ek
  clear ek
  have HR : Hid ((refsOf a ⟨i, k, b, t, f⟩).map (Value.int .u64) = ((a.map (Value.int .u64)).drop (i + 1)).take (i + 1 + k - (i + 1))) := by
    show _ = _
    simp only [refsOf, Int.toNat_natCast, List.map_take, List.map_drop]
    rw [show i + 1 + k - (i + 1) = k by omega]
  have h1 : i + 1 + k ≤ n := by omega
  clear hal hr l0 r0
  by_cases hci : c = i + 1
  · have HS := HS.out
    rw [if_pos hci, ← HR.out, show i + 1 + k - (i + 1) = k by omega] at HS
    have HS := Lib.hid (HS.alloc hB (.cells #[.int .i64 i, .int .i64 k, .int .i64 b, .int .i64 t, .bool f] 69))
    go_enter Try.func60, Try.ntmps60
    go_wp2
    go_ret
    exact ⟨below_new _ _, _, _, EK.out _ _, by omega, HS.out⟩
  · have HS := HS.out
    rw [if_neg hci, ← HR.out, show i + 1 + k - (i + 1) = k by omega] at HS
    have HS := Lib.hid (HS.alloc hB (.cells #[.int .i64 i, .int .i64 k, .int .i64 b, .int .i64 t, .bool f] 69))
    go_enter Try.func60, Try.ntmps60
    go_wp2
    go_ret
    exact ⟨below_new _ _, _, _, EK.out _ _, by omega, HS.out⟩
theorem underlying_u64 : Try.prog.underlying 25 = some (.int .u64) := Try.underlying25
theorem zero_int (w : World) : (zeroValue 3).run Try.prog w = .ok (.int .i64 0) w := by kernel_rfl
set_option maxRecDepth 100000 in
set_option maxHeartbeats 1000000 in
theorem places_any (A : Option Addr) (n c : Nat) (l : List Spot) (w : World) (hr : Reads w w.heap.size 5 A n (spotsC l)) (hn : n ≤ 256) (hl : l.Pairwise (fun s t => s.loc < t.loc)) (hb : ∀ s ∈ l, 0 ≤ s.loc ∧ s.loc ≤ 256) :
    Calls Try.prog 59 #[.slice A n c] w fun e w' => Below w.heap.size w w' ∧ ∃ b, e = .returned (.map (some b)) ∧ w.heap.size ≤ b ∧ MapIs w' Try.prog 25 .u64 b 300 (placeV l) := by
  have hll : l.length = n := by have := hr.1; rw [spotsC_length] at this; omega
  have HL := Lib.hid hll
  have HO := Lib.hid hl
  have HB := Lib.hid hb
  clear hll hl hb
  obtain ⟨w1, hins, hM, hg1⟩ := (MapIs.made w Try.prog 25 .u64).store (k := 25) (t := 99) Try.underlying25 Try.underlying99 (by decide) (x := 0) (by decide) (.int .i64 (-1))
  rw [← placeV_nil] at hM
  have hb1 : Below w.heap.size w w1 := (below_new w _).grown hg1 (by simp) (by simp)
  have HM := Lib.hid (hM.mono (show 0 + 1 ≤ 1 by omega))
  clear hM
  have hmm := @run_makeMap Try.prog
  go_enter Try.func59, Try.ntmps59
  go_wp2
  clear hins
  go_loopw [4, 5, 10] (fun _ _ i wr => ∃ j : Nat, j ≤ n ∧ i = .int .i64 j ∧ MapIs wr Try.prog 25 .u64 w.heap.size (j + 1) (placeV (l.take j)) ∧ Below w.heap.size w wr) (fun _ _ i _ => n - (intOf i).toNat)
  case atStart => exact ⟨0, Nat.zero_le _, rfl, HM.out, hb1⟩
  case round =>
    obtain ⟨j, hj, rfl, hM, hb⟩ := hrel
    by_cases hlt : j < n
    · obtain ⟨ad, s, rfl, had, hs, c0, c1, c2, c3, c4⟩ := (hr.below hb).spot hlt
      have hq := HB.out s (List.mem_of_getElem? hs)
      have HT : Hid (l.take (j + 1) = l.take j ++ [s]) := by
        show _ = _
        obtain ⟨h1, rfl⟩ := List.getElem?_eq_some_iff.1 hs
        exact List.take_succ_eq_append_getElem h1
      have HJ : Hid (∀ x ∈ l.take j, x.loc < s.loc) := by
        intro x hx
        rw [List.mem_take_iff_getElem] at hx
        obtain ⟨k, hk, rfl⟩ := hx
        obtain ⟨h1, rfl⟩ := List.getElem?_eq_some_iff.1 hs
        exact List.pairwise_iff_getElem.1 HO.out k j (by omega) h1 (by omega)
      obtain ⟨loc, r, b, t, f⟩ := s
      dsimp only at c0 c1 c2 c3 c4 hq
      have hM0 := hM.alloc (.cells #[.int .i64 loc, .int .i64 r, .int .i64 b, .int .i64 t, .bool f] 69)
      have hb0 := hb.alloc hb.size (.cells #[.int .i64 loc, .int .i64 r, .int .i64 b, .int .i64 t, .bool f] 69)
      clear hM hs
      cases f
      · have hlen : (l.take j).length = j := by rw [List.length_take, HL.out]; omega
        have hP := placeV_snoc (l := l.take j) (s := ⟨loc, r, b, t, false⟩) rfl hq.1 HJ.out
        rw [← HT.out, hlen] at hP
        obtain ⟨w2, hupd, hM2, hg2⟩ := hM0.store (k := 25) (t := 99) Try.underlying25 Try.underlying99 (by unfold maxLen; omega) (x := loc + 1) (by simp [Lit.wf, IntKind.min, IntKind.max, IntKind.signed, IntKind.bits]; omega) (.int .i64 j)
        rw [← hP] at hM2
        have HM2 := Lib.hid hM2
        have hb2 := hb0.grown hg2 hb0.size (by simp)
        clear hP hlen hM2 hM0 hb0
        obtain ⟨q0, q1⟩ := hq
        go_wp2
        go_roundw
        case rel => exact ⟨j + 1, by omega, by go_num, HM2.out, hb2⟩
        case measure => simp [intOf]; omega
      · have HP : Hid (placeV (l.take (j + 1)) = placeV (l.take j)) := by show _ = _; rw [HT.out]; exact placeV_free rfl
        go_wp2
        go_roundw
        case rel => exact ⟨j + 1, by omega, by go_num, by rw [HP.out]; exact hM0.mono (by omega), hb0⟩
        case measure => simp [intOf]; omega
    · have hjn : j = n := by omega
      subst hjn
      rw [List.take_of_length_le (by rw [HL.out]; exact Nat.le_refl _)] at hM
      go_wp2
      go_ret
      exact ⟨hb, _, rfl, Nat.le_refl _, hM.mono (by omega)⟩
theorem spots_bounds {a : List Int} (h : spotsE a = 0) : ∀ s ∈ spotsL a, 0 ≤ s.loc ∧ s.loc ≤ 256 := by
  intro s hs
  obtain ⟨hlen, hp⟩ := parse_ok h
  have := (parse_mem hp s hs).1
  have h1 := this.loc0
  have h2 := this.fits
  have h3 := this.r0
  have h4 := this.b0
  unfold Spot.long at h2
  omega
set_option maxHeartbeats 400000 in
theorem check_bad0 (A : Option Addr) (n c : Nat) (a : List Int) (w : World) (hr : Reads w w.heap.size 1 A n (a.map (.int .u64))) (ha : ∀ x ∈ a, (Lit.int .u64 x).wf = true) (hE : spotsE a ≠ 0) :
    Calls Try.prog 53 #[.slice A n c] w fun e w' => e = .returned (.tuple #[.slice none 0 0, .map none, .int .i64 (checkE a)]) ∧ Below w.heap.size w w' := by
  have H := fun w hr => spots_any A n c a w hr ha
  rw [spotsL_bad hE] at H
  have HH := Lib.hid H
  have hc : checkE a = spotsE a := by unfold checkE; rw [if_pos hE]
  rw [hc]
  clear H hc
  generalize spotsE a = E at *
  have hE1 : (E != 0) = true := by simpa using hE
  go_enter Try.func53, Try.ntmps53
  go_wp2_with (go_at_call 40; refine (HH.out _ hr).mono ?_; rintro e w2 ⟨hb2, A', c', rfl, -⟩)
  go_ret3
  exact ⟨rfl, hb2⟩
set_option maxRecDepth 100000 in
set_option maxHeartbeats 1000000 in
theorem check_parse (A : Option Addr) (n c : Nat) (a : List Int) (w : World) (hr : Reads w w.heap.size 1 A n (a.map (.int .u64))) (hnc : n ≤ c) (ha : ∀ x ∈ a, (Lit.int .u64 x).wf = true) (hE : spotsE a = 0) :
    Calls Try.prog 53 #[.slice A n c] w fun e w' => Below w.heap.size w w' ∧ ((refsOk (spotsL a) a = false ∧ e = .returned (.tuple #[.slice none 0 0, .map none, .int .i64 5])) ∨
      (refsOk (spotsL a) a = true ∧ ∃ A' c' b, e = .returned (.tuple #[.slice A' (spotsL a).length c', .map (some b), .int .i64 0]) ∧ w.heap.size ≤ b ∧ w'.ownsRow w.heap.size 69 5 (.slice A' (spotsL a).length c') (spotsL a).length (spotsC (spotsL a)) ∧ MapIs w' Try.prog 25 .u64 b 300 (placeV (spotsL a)))) := by
  have H := fun w hr => spots_any A n c a w hr ha
  obtain ⟨hlen, hP⟩ := parse_ok hE
  have hrise := spots_rise hE
  have hbnd := spots_bounds hE
  rw [hE] at H
  have HH := Lib.hid H
  have hal : a.length = n := by have := hr.1; simpa using this
  have hn : n ≤ 256 := by omega
  have hm256 := spotsL_length a
  generalize spotsL a = l at *
  have HS := Lib.hid (fun s hs => (parse_mem hP s hs).1)
  have HPl := Lib.hid (fun A n c w hr hn => places_any A n c l w hr hn hrise hbnd)
  clear H hP hE hal hlen hrise hbnd
  go_enter Try.func53, Try.ntmps53
  go_wp2_with (go_at_call 40; refine (HH.out _ hr).mono ?_; rintro e w1 ⟨hb1, A', c', rfl, hown⟩)
  have hrl := Reads.of_own hown
  obtain ⟨m, hm⟩ : ∃ m, m = l.length := ⟨_, rfl⟩
  rw [← hm] at hrl hm256 hown
  rw [← hm]
  have HM := Lib.hid hm
  clear hm
  go_wp2_with fail
  refine (HPl.out _ _ _ _ hrl hm256).mono ?_
  rintro e w2 ⟨hb2, b, rfl, hbb, hMp⟩
  have hown2 := own_below hown hb2
  have hrl2 := (hrl.below hb2).more hb2.size
  have hb02 := below_step hb1 hb2
  have hbw : w.heap.size ≤ b := Nat.le_trans hb1.size hbb
  have hblt := hMp.lt
  clear hown hrl hb1 hb2 hbb
  go_wp2
  go_loopw [26] (fun i wr => ∃ j : Nat, j ≤ m ∧ i = .int .i64 j ∧ Below w2.heap.size w2 wr ∧ Hid (∀ s ∈ l.take j, (refsOf a s).all (fun v => (placeF l v).isSome) = true)) (fun i _ => m - (intOf i).toNat)
  case atStart => exact ⟨0, Nat.zero_le _, rfl, Below.refl _ _, by intro s hs; simp at hs⟩
  case round =>
    obtain ⟨j, hj, rfl, hb, hD⟩ := hrel
    by_cases hlt : j < m
    · obtain ⟨ad, s, rfl, had, hs, c0, c1, c2, c3, c4⟩ := (hrl2.below hb).spot hlt
      have hok := HS.out s (List.mem_of_getElem? hs)
      have hbw2 := hb02.trans (hb.mono hb02.size)
      have HT : Hid (l.take (j + 1) = l.take j ++ [s]) := by
        show _ = _
        obtain ⟨h1, rfl⟩ := List.getElem?_eq_some_iff.1 hs
        exact List.take_succ_eq_append_getElem h1
      have HSM : Hid (s ∈ l) := List.mem_of_getElem? hs
      have hb0 := hb.alloc hb.size (.cells (spotC s).toArray 69)
      have hbw0 := hbw2.alloc hbw2.size (.cells (spotC s).toArray 69)
      have HR := Lib.hid (refs_any A n c _ a s _ ((hr.below hbw0).more hbw0.size) (Nat.le_refl _) hnc hn hok)
      have hr0 := hok.r0
      have HF := Lib.hid (refsOf_length hok)
      have hr256 : s.r.toNat ≤ 256 := by have h1 := hok.fit256; unfold Spot.long at h1; have := hok.b0; omega
      clear hs hok hb hbw2
      have HRef : Hid (∃ rs, rs = refsOf a s) := ⟨_, rfl⟩
      go_wp2_with fail
      refine HR.out.mono ?_
      rintro e w3 ⟨hb3, A3, c3, rfl, hc3, hrr⟩
      have hb13 := hb0.trans (hb3.mono hb0.size)
      obtain ⟨q, hq⟩ : ∃ q, q = s.r.toNat := ⟨_, rfl⟩
      rw [← hq] at hrr hr256 hc3
      rw [← hq]
      have HQ := Lib.hid hq
      obtain ⟨rs, hrs⟩ : ∃ rs, rs = refsOf a s := ⟨_, rfl⟩
      rw [← hrs] at hrr
      have HRS := Lib.hid hrs
      have hrr' := hrr.more hb3.size
      have hb03 := hbw0.trans (hb3.mono hbw0.size)
      have hMr := hMp.below hb13 hblt
      have hbl3 : b < w3.heap.size := hMr.lt
      obtain ⟨wo, rfl⟩ : ∃ wo : World, wo = wr := ⟨_, rfl⟩
      clear hb0 hbw0 hb3 hrr hq hrs hr0
      go_wp2
      go_loopw [11, 34] (fun _ i wr => ∃ p : Nat, p ≤ q ∧ i = .int .i64 p ∧ Below w3.heap.size w3 wr ∧ Hid (∀ v ∈ rs.take p, (placeF l v).isSome = true)) (fun _ i _ => q - (intOf i).toNat)
      case atStart => exact ⟨0, Nat.zero_le _, rfl, Below.refl _ _, by intro s hs; simp at hs⟩
      case round =>
        obtain ⟨p, hp, rfl, hb, hD2⟩ := hrel
        by_cases hlt2 : p < q
        · obtain ⟨ad3, v, rfl, had3, hv, hc⟩ := (hrr'.below hb).num hlt2
          have hvm : v ∈ a := by
            have := List.mem_of_getElem? hv
            rw [HRS.out] at this
            unfold refsOf at this
            exact List.mem_of_mem_drop (List.mem_of_mem_take this)
          have hvw := ha v hvm
          have hlook := (hMr.below hb hbl3).look_ok Try.underlying25 Try.underlying99 (zero_int _) hvw
          have hpv : (placeV l v).isSome = (placeF l v).isSome := by unfold placeV; rw [Option.isSome_map]
          rw [hpv] at hlook
          have HV := Lib.hid hv
          clear hv hvm hvw hpv
          generalize hgd : (placeV l v).getD (.int .i64 0) = gd at hlook
          clear hgd
          cases hsome : (placeF l v).isSome
          · rw [hsome] at hlook
            have HSo := Lib.hid hsome
            clear hsome
            go_wp2
            go_ret3
            refine ⟨hb03.trans (hb.mono hb03.size), .inl ⟨?_, rfl⟩⟩
            unfold refsOk
            rw [List.all_eq_false]
            refine ⟨s, HSM.out, ?_⟩
            rw [Bool.not_eq_true, List.all_eq_false]
            exact ⟨v, by rw [← HRS.out]; exact List.mem_of_getElem? HV.out, by rw [HSo.out]; decide⟩
          · rw [hsome] at hlook
            have HSo := Lib.hid hsome
            clear hsome
            go_wp2
            go_roundw
            case rel => exact ⟨p + 1, by omega, by go_num, hb, fun x hx => by
              rcases take_succ_mem HV.out x hx with h | rfl
              · exact hD2.out x h
              · exact HSo.out⟩
            case measure => simp [intOf]; omega
        · have hpq : p = q := by omega
          subst hpq
          have HA : Hid (∀ x ∈ l.take (j + 1), (refsOf a x).all (fun v => (placeF l v).isSome) = true) := by
            intro x hx
            rw [HT.out, List.mem_append, List.mem_singleton] at hx
            rcases hx with hx | rfl
            · exact hD.out x hx
            · rw [List.all_eq_true]
              intro v hv
              refine hD2.out v ?_
              rw [← HRS.out] at hv
              rw [List.take_of_length_le (by rw [HRS.out, HF.out, ← HQ.out]; exact Nat.le_refl _)]
              exact hv
          have hb15 := hb13.trans (hb.mono hb13.size)
          clear hD2 hb
          go_wp2
          go_roundw
          case rel => exact ⟨j + 1, by omega, by go_num, hb15, HA⟩
          case measure => simp [intOf]; omega
    · have hjm : j = m := by omega
      subst hjm
      have HA : Hid (refsOk l a = true) := by
        show _ = _
        unfold refsOk
        rw [List.all_eq_true]
        intro s hs
        exact hD.out s (by rw [List.take_of_length_le (by rw [← HM.out]; exact Nat.le_refl _)]; exact hs)
      have hown3 := own_below hown2 hb
      have hM3 := hMp.below hb hblt
      clear hD
      go_wp2
      go_ret3
      have e := HM.out
      subst e
      exact ⟨hb02.trans (hb.mono hb02.size), .inr ⟨HA.out, A', c', b, rfl, hbw, hown3, hM3⟩⟩
theorem refsOk_false {a : List Int} (h0 : spotsE a = 0) (h : refsOk (spotsL a) a = false) : checkE a = 5 := by
  unfold checkE
  rw [if_neg (by simp [h0]), if_neg (by simp [h])]
theorem refsOk_true {a : List Int} (h0 : spotsE a = 0) (h : refsOk (spotsL a) a = true) : checkE a = 0 := checkE_ok.2 ⟨h0, h⟩
theorem check_bad (A : Option Addr) (n c : Nat) (a : List Int) (w : World) (hr : Reads w w.heap.size 1 A n (a.map (.int .u64))) (hnc : n ≤ c) (ha : ∀ x ∈ a, (Lit.int .u64 x).wf = true) (hE : checkE a ≠ 0) :
    Calls Try.prog 53 #[.slice A n c] w fun e w' => e = .returned (.tuple #[.slice none 0 0, .map none, .int .i64 (checkE a)]) ∧ Below w.heap.size w w' := by
  by_cases h0 : spotsE a = 0
  · refine (check_parse A n c a w hr hnc ha h0).mono ?_
    rintro e w' ⟨hb, ⟨h1, h2⟩ | ⟨h1, _⟩⟩
    · rw [refsOk_false h0 h1]
      exact ⟨h2, hb⟩
    · exact absurd (refsOk_true h0 h1) hE
  · exact check_bad0 A n c a w hr ha h0
theorem check_ok (A : Option Addr) (n c : Nat) (a : List Int) (w : World) (hr : Reads w w.heap.size 1 A n (a.map (.int .u64))) (hnc : n ≤ c) (ha : ∀ x ∈ a, (Lit.int .u64 x).wf = true) (hE : checkE a = 0) :
    Calls Try.prog 53 #[.slice A n c] w fun e w' => Below w.heap.size w w' ∧ ∃ A' c' b, e = .returned (.tuple #[.slice A' (spotsL a).length c', .map (some b), .int .i64 0]) ∧ w.heap.size ≤ b ∧ w'.ownsRow w.heap.size 69 5 (.slice A' (spotsL a).length c') (spotsL a).length (spotsC (spotsL a)) ∧ MapIs w' Try.prog 25 .u64 b 300 (placeV (spotsL a)) := by
  obtain ⟨h0, h1⟩ := checkE_ok.1 hE
  refine (check_parse A n c a w hr hnc ha h0).mono ?_
  rintro e w' ⟨hb, ⟨h2, _⟩ | ⟨_, h2⟩⟩
  · rw [h1] at h2; cases h2
  · exact ⟨hb, h2⟩
set_option maxHeartbeats 400000 in
theorem checkFn_any (A : Option Addr) (n c : Nat) (a : List Int) (w : World) (hr : Reads w w.heap.size 1 A n (a.map (.int .u64))) (hnc : n ≤ c) (ha : ∀ x ∈ a, (Lit.int .u64 x).wf = true) :
    Calls Try.prog 39 #[.slice A n c] w fun e w' => e = .returned (.int .i64 (checkE a)) ∧ Below w.heap.size w w' := by
  by_cases hE : checkE a = 0
  · have H := Lib.hid (check_ok A n c a w hr hnc ha hE)
    rw [hE]
    clear hE
    go_enter Try.func39, Try.ntmps39
    go_wp2_with fail
    refine H.out.mono ?_
    rintro e w1 ⟨hb, A', c', b, rfl, -, -, -⟩
    go_wp2
    go_ret
    exact ⟨rfl, hb⟩
  · have H := Lib.hid (check_bad A n c a w hr hnc ha hE)
    generalize checkE a = E at *
    clear hE
    go_enter Try.func39, Try.ntmps39
    go_wp2_with fail
    refine H.out.mono ?_
    rintro e w1 ⟨rfl, hb⟩
    go_wp2
    go_ret
    exact ⟨rfl, hb⟩
end Go.Proofs.Ytaclnkcohifpiaa

namespace Go.Proofs.Ytaclnkcohifpiaa
open Go.RowKit
def gspotsL (a : List Int) : List Spot := if checkE a = 0 then spotsL a else []
set_option maxHeartbeats 400000 in
theorem gspots_any (A : Option Addr) (n c : Nat) (a : List Int) (w : World) (hr : Reads w w.heap.size 1 A n (a.map (.int .u64))) (hnc : n ≤ c) (ha : ∀ x ∈ a, (Lit.int .u64 x).wf = true) :
    Calls Try.prog 24 #[.slice A n c] w fun e w' => Below w.heap.size w w' ∧ ∃ A' c', e = .returned (.tuple #[.slice A' (gspotsL a).length c', .int .i64 (checkE a)]) ∧ w'.ownsRow w.heap.size 69 5 (.slice A' (gspotsL a).length c') (gspotsL a).length (spotsC (gspotsL a)) := by
  have H1 := Lib.hid (fun w hr => checkFn_any A n c a w hr hnc ha)
  by_cases hE : checkE a = 0
  · have H2 := fun w hr => spots_any A n c a w hr ha
    rw [(checkE_ok.1 hE).1] at H2
    have H2 := Lib.hid H2
    rw [show gspotsL a = spotsL a by unfold gspotsL; rw [if_pos hE]]
    rw [hE] at H1 ⊢
    clear hE
    go_enter Try.func24, Try.ntmps24
    go_wp2_with fail
    refine (H1.out _ hr).mono ?_
    rintro e w1 ⟨rfl, hb1⟩
    go_wp2_with fail
    refine (H2.out _ ((hr.below hb1).more hb1.size)).mono ?_
    rintro e w2 ⟨hb2, A', c', rfl, hown⟩
    go_wp2
    go_ret2
    exact ⟨below_step hb1 hb2, A', c', rfl, own_mono hown hb1.size⟩
  · rw [show gspotsL a = [] by unfold gspotsL; rw [if_neg hE]]
    generalize checkE a = E at *
    have hE1 : (E != 0) = true := by simpa using hE
    clear hE
    go_enter Try.func24, Try.ntmps24
    go_wp2_with fail
    refine (H1.out _ hr).mono ?_
    rintro e w1 ⟨rfl, hb1⟩
    go_wp2
    go_ret2
    exact ⟨hb1, none, 0, rfl, World.ownsRow_nil _ _ _ _⟩
set_option maxHeartbeats 400000 in
theorem glong_ok (r b t : Int) (f : Bool) (w : World) (hE : headE r b t f = 0) :
    Calls Try.prog 29 #[.agg #[.int .i64 r, .int .i64 b, .int .i64 t, .bool f]] w fun e w' => e = .returned (.int .i64 (1 + r + b)) ∧ Below w.heap.size w w' := by
  have H := Lib.hid (fun w => hlongc_ok r b t f w hE)
  clear hE
  go_enter Try.func29, Try.ntmps29
  go_wp2_with fail
  refine (H.out _).mono ?_
  rintro e w1 ⟨rfl, hb1⟩
  go_wp2
  go_ret
  exact ⟨rfl, below_step (below_new _ _) hb1⟩
theorem info_run : (Try.prog.info? 64).map (fun i => (i.zero, i.size, i.bytes)) = some (some (.agg #[.int .i64 0, .int .i64 0]), 2, 16) := by kernel_rfl
set_option maxRecDepth 100000 in
set_option maxHeartbeats 1000000 in
theorem ggaps_any (A : Option Addr) (n c : Nat) (l : List Spot) (w : World) (hr : Reads w w.heap.size 5 A n (spotsC l)) (hn : n ≤ 256) (hl : ∀ s ∈ l, headE s.r s.b s.t s.f = 0) :
    Calls Try.prog 25 #[.slice A n c] w fun e w' => Below w.heap.size w w' ∧ ∃ A' c', e = .returned (.slice A' (gapsL l).length c') ∧ w'.ownsRow w.heap.size 64 2 (.slice A' (gapsL l).length c') (gapsL l).length (runsC (gapsL l)) := by
  have hll : l.length = n := by have := hr.1; rw [spotsC_length] at this; omega
  have HL := Lib.hid hll
  have HH := Lib.hid hl
  obtain ⟨i0, hi, hz0, hz1, hz2⟩ := info_parts info_run
  clear hll hl
  go_enter Try.func25, Try.ntmps25
  go_wp2
  go_loopw [3, 4, 5, 8] (fun o _ _ i wr => ∃ (j : Nat) (A' : Option Addr) (k c' : Nat) (acc : List Rn) (prev : Bool), j ≤ n ∧ i = .int .i64 j ∧ o = .slice A' k c' ∧ k ≤ j ∧ Hid (k = acc.length) ∧ Hid (gapsL l = gapsA acc prev (l.drop j)) ∧ Hid (∀ s, 0 < j → l[j - 1]? = some s → s.f = prev) ∧ Hid (j = 0 → prev = false) ∧ Hid (prev = true → 0 < k) ∧ Hid (∀ r ∈ acc, 0 ≤ r.len ∧ r.len ≤ 256 * j) ∧
    wr.ownsRow w.heap.size 64 2 (.slice A' k c') k (runsC acc) ∧ Below w.heap.size w wr) (fun _ _ _ i _ => n - (intOf i).toNat)
  case atStart => exact ⟨0, none, 0, 0, [], false, Nat.zero_le _, rfl, rfl, Nat.le_refl _, rfl, rfl, fun s h => absurd h (by omega), fun _ => rfl, (fun h => by cases h), (fun r h => by cases h), World.ownsRow_nil _ _ _ _, Below.refl _ _⟩
  case round =>
    obtain ⟨j, A', k, c', acc, prev, hj, rfl, rfl, hkj, hk, hG, hpv, hp0, hpk, hacc, hown, hb⟩ := hrel
    by_cases hlt : j < n
    · obtain ⟨ad, s, rfl, had, hs, c0, c1, c2, c3, c4⟩ := (hr.below hb).spot hlt
      have HD := Lib.hid (drop_of_get hs)
      have HSM : Hid (s ∈ l) := List.mem_of_getElem? hs
      have HS := Lib.hid hs
      have hE := headE_ok.1 (HH.out s HSM.out)
      have HG := Lib.hid (fun w => glong_ok s.r s.b s.t s.f w (HH.out s HSM.out))
      obtain ⟨r0, r1, b0, b1, t0, t1, l1, -⟩ := hE
      clear hs
      have HNP : Hid (∀ s', 0 < j + 1 → l[j + 1 - 1]? = some s' → s'.f = s.f) := by
        intro s' _ h
        rw [Nat.add_sub_cancel, HS.out] at h
        rw [← Option.some.inj h]
      obtain ⟨loc, r, b, t, f⟩ := s
      dsimp only at *
      have hown0 := hown.alloc (.cells #[.int .i64 loc, .int .i64 r, .int .i64 b, .int .i64 t, .bool f] 69)
      have hb0 := hb.alloc hb.size (.cells #[.int .i64 loc, .int .i64 r, .int .i64 b, .int .i64 t, .bool f] 69)
      have B0 := Blk.new wr 69 #[.int .i64 loc, .int .i64 r, .int .i64 b, .int .i64 t, .bool f]
      cases f
      · have HG2 : Hid (gapsL l = gapsA acc false (l.drop (j + 1))) := by
          show _ = _
          rw [hG.out, HD.out]
          simp only [gapsA]
          rfl
        clear B0
        go_wp2
        go_roundw
        case rel => exact ⟨j + 1, A', k, c', acc, false, by omega, by go_num, rfl, by omega, hk, HG2, HNP, fun _ => rfl, (fun h => by cases h), fun r hr => by have := hacc.out r hr; omega, hown0, hb0⟩
        case measure => simp [intOf]; omega
      · cases prev
        · have HG2 : Hid (gapsL l = gapsA (acc ++ [⟨loc, 1 + r + b⟩]) true (l.drop (j + 1))) := by
            show _ = _
            rw [hG.out, HD.out]
            simp only [gapsA]
            rfl
          have k0 := B0.cell 0
          have k1 := B0.cell 1
          have k2 := B0.cell 2
          have k3 := B0.cell 3
          have k4 := B0.cell 4
          simp only [List.getElem?_toArray, List.getElem?_cons_zero, List.getElem?_cons_succ] at k0 k1 k2 k3 k4
          by_cases hj0 : j = 0
          · have h0 : ¬ (0 < (j : Int)) := by omega
            have h0' : decide (0 < j) = false := by simp [hj0]
            clear hj0
            go_wp2
            go_region_held3 (fun w' => w'.cell? ⟨wr.heap.size, 0, none⟩ = some (.int .i64 loc) ∧ w'.cell? ⟨wr.heap.size, 1, none⟩ = some (.int .i64 r) ∧ w'.cell? ⟨wr.heap.size, 2, none⟩ = some (.int .i64 b) ∧ w'.cell? ⟨wr.heap.size, 3, none⟩ = some (.int .i64 t) ∧ w'.cell? ⟨wr.heap.size, 4, none⟩ = some (.bool true)) (go_keep)
              (first
                | (go_at_call 29; refine (HG.out _).mono ?_; rintro e w2 ⟨rfl, hb2⟩; have q0 := (hb2.cell (p := ⟨wr.heap.size, 0, none⟩) (by simp)).trans k0; have q1 := (hb2.cell (p := ⟨wr.heap.size, 1, none⟩) (by simp)).trans k1; have q2 := (hb2.cell (p := ⟨wr.heap.size, 2, none⟩) (by simp)).trans k2; have q3 := (hb2.cell (p := ⟨wr.heap.size, 3, none⟩) (by simp)).trans k3; have q4 := (hb2.cell (p := ⟨wr.heap.size, 4, none⟩) (by simp)).trans k4;
                   have D2 := B0.drew.below hb2 (by simp); have hown2 := (own_below hown0.drew hb2).alloc (.cells #[.int .i64 loc, .int .i64 (1 + r + b)] 64); have hb02 := hb0.drew.trans (hb2.mono hb0.size); have hb03 := hb02.alloc hb02.size (.cells #[.int .i64 loc, .int .i64 (1 + r + b)] 64); have D3 := D2.alloc (.cells #[.int .i64 loc, .int .i64 (1 + r + b)] 64); have hnew := reads_new w2 (runC ⟨loc, 1 + r + b⟩) 64 1 2 rfl)
                | (refine step_append_any _ (by rfl) (.tmp 13) (.tmp 20) 61 (by rfl) w.heap.size 64 i0 _ 2 16 Try.underlying61 hi hz0 hz1 hz2 rfl (by omega) (.slice A' k c') k _ (by rfl) hown2 (w2.heap.size + 1) (some ⟨w2.heap.size, 0, none⟩) 1 1 (runC ⟨loc, 1 + r + b⟩) (by rfl) hnew (by simp [runC, Value.oneCell']) (by simp [maxLen]; omega) (by omega) (by have := hb03.size; exact this) ?_; rintro v' w3 hown3 hgr hbl -; obtain ⟨A'', c'', rfl⟩ := own_slice hown3;
                   have D4 := D3.grown hgr (fun e => own_blk_ne hown2 D3 (by decide) e.symm); have s0 := D4.cell 0; have s1 := D4.cell 1; have s2 := D4.cell 2; have s3 := D4.cell 3; have s4 := D4.cell 4; simp only [List.getElem?_toArray, List.getElem?_cons_zero, List.getElem?_cons_succ] at s0 s1 s2 s3 s4))
            go_wp2
            have hb4 : Below w.heap.size w w3 := hb03.grown hgr hb03.size (fun g hg => (hown2.lt g hg).1)
            go_roundw
            case rel => exact ⟨j + 1, A'', k + 1, c'', acc ++ [⟨loc, 1 + r + b⟩], true, by omega, by go_num, rfl, by omega, by show _ = _; rw [List.length_append, ← hk.out]; rfl, HG2, HNP, (fun h => absurd h (by omega)), (fun _ => Nat.succ_pos _), (fun x hx => by
              rcases List.mem_append.1 hx with hx | hx
              · have := hacc.out x hx; omega
              · obtain rfl := List.mem_singleton.1 hx
                dsimp only
                omega), by rw [runsC_snoc]; exact hown3, hb4⟩
            case measure => simp [intOf]; omega
          · obtain ⟨p, rfl⟩ : ∃ p, j = p + 1 := ⟨j - 1, by omega⟩
            obtain ⟨ad', s', e', had', hs', -, -, -, -, d4⟩ := (hr.below hb).spot (j := p) (by omega)
            obtain rfl : ad' = ad := by injection e' with e'; exact e'.symm
            rw [hpv.out s' (by omega) (by simpa using hs')] at d4
            have hp1 : ((p + 1 : Nat) : Int) - 1 = p := by omega
            have h0 : 0 < ((p + 1 : Nat) : Int) := by omega
            clear hs' hj0
            have d4' : ∀ o, (wr.alloc o).cell? ⟨(ad'.add (p * 5)).block, (ad'.add (p * 5)).off + 1 + 3, none⟩ = some (.bool false) := fun o => by
              rw [World.cell?_alloc_lt _ _ _ (by dsimp only; rw [block_of_add]; have := hb.size; omega)]
              exact d4
            clear d4
            go_wp2
            go_region_held3 (fun w' => w'.cell? ⟨wr.heap.size, 0, none⟩ = some (.int .i64 loc) ∧ w'.cell? ⟨wr.heap.size, 1, none⟩ = some (.int .i64 r) ∧ w'.cell? ⟨wr.heap.size, 2, none⟩ = some (.int .i64 b) ∧ w'.cell? ⟨wr.heap.size, 3, none⟩ = some (.int .i64 t) ∧ w'.cell? ⟨wr.heap.size, 4, none⟩ = some (.bool true)) (go_keep)
              (first
                | (go_at_call 29; refine (HG.out _).mono ?_; rintro e w2 ⟨rfl, hb2⟩; have q0 := (hb2.cell (p := ⟨wr.heap.size, 0, none⟩) (by simp)).trans k0; have q1 := (hb2.cell (p := ⟨wr.heap.size, 1, none⟩) (by simp)).trans k1; have q2 := (hb2.cell (p := ⟨wr.heap.size, 2, none⟩) (by simp)).trans k2; have q3 := (hb2.cell (p := ⟨wr.heap.size, 3, none⟩) (by simp)).trans k3; have q4 := (hb2.cell (p := ⟨wr.heap.size, 4, none⟩) (by simp)).trans k4;
                   have D2 := B0.drew.below hb2 (by simp); have hown2 := (own_below hown0.drew hb2).alloc (.cells #[.int .i64 loc, .int .i64 (1 + r + b)] 64); have hb02 := hb0.drew.trans (hb2.mono hb0.size); have hb03 := hb02.alloc hb02.size (.cells #[.int .i64 loc, .int .i64 (1 + r + b)] 64); have D3 := D2.alloc (.cells #[.int .i64 loc, .int .i64 (1 + r + b)] 64); have hnew := reads_new w2 (runC ⟨loc, 1 + r + b⟩) 64 1 2 rfl)
                | (refine step_append_any _ (by rfl) (.tmp 13) (.tmp 20) 61 (by rfl) w.heap.size 64 i0 _ 2 16 Try.underlying61 hi hz0 hz1 hz2 rfl (by omega) (.slice A' k c') k _ (by rfl) hown2 (w2.heap.size + 1) (some ⟨w2.heap.size, 0, none⟩) 1 1 (runC ⟨loc, 1 + r + b⟩) (by rfl) hnew (by simp [runC, Value.oneCell']) (by simp [maxLen]; omega) (by omega) (by have := hb03.size; exact this) ?_; rintro v' w3 hown3 hgr hbl -; obtain ⟨A'', c'', rfl⟩ := own_slice hown3;
                   have D4 := D3.grown hgr (fun e => own_blk_ne hown2 D3 (by decide) e.symm); have s0 := D4.cell 0; have s1 := D4.cell 1; have s2 := D4.cell 2; have s3 := D4.cell 3; have s4 := D4.cell 4; simp only [List.getElem?_toArray, List.getElem?_cons_zero, List.getElem?_cons_succ] at s0 s1 s2 s3 s4))
            go_wp2
            have hb4 : Below w.heap.size w w3 := hb03.grown hgr hb03.size (fun g hg => (hown2.lt g hg).1)
            go_roundw
            case rel => exact ⟨p + 1 + 1, A'', k + 1, c'', acc ++ [⟨loc, 1 + r + b⟩], true, by omega, by go_num, rfl, by omega, by show _ = _; rw [List.length_append, ← hk.out]; rfl, HG2, HNP, (fun h => absurd h (by omega)), (fun _ => Nat.succ_pos _), (fun x hx => by
              rcases List.mem_append.1 hx with hx | hx
              · have := hacc.out x hx; omega
              · obtain rfl := List.mem_singleton.1 hx
                dsimp only
                omega), by rw [runsC_snoc]; exact hown3, hb4⟩
            case measure => simp [intOf]; omega
        · have hj0 : 0 < j := by
            rcases Nat.eq_zero_or_pos j with h | h
            · have := hp0.out h; cases this
            · exact h
          obtain ⟨p, rfl⟩ : ∃ p, j = p + 1 := ⟨j - 1, by omega⟩
          obtain ⟨ad', s', e', had', hs', -, -, -, -, d4⟩ := (hr.below hb).spot (j := p) (by omega)
          obtain rfl : ad' = ad := by injection e' with e'; exact e'.symm
          rw [hpv.out s' (by omega) (by simpa using hs')] at d4
          have hp1 : ((p + 1 : Nat) : Int) - 1 = p := by omega
          have h0 : 0 < ((p + 1 : Nat) : Int) := by omega
          have d4' : ∀ o, (wr.alloc o).cell? ⟨(ad'.add (p * 5)).block, (ad'.add (p * 5)).off + 1 + 3, none⟩ = some (.bool true) := fun o => by
            rw [World.cell?_alloc_lt _ _ _ (by dsimp only; rw [block_of_add]; have := hb.size; omega)]
            exact d4
          have hk0 := hpk.out rfl
          obtain ⟨q, hkq⟩ : ∃ q, k = q + 1 := ⟨k - 1, by omega⟩
          obtain ⟨acc', r0, rfl⟩ : ∃ acc' r0, acc = acc' ++ [r0] := by
            rcases List.eq_nil_or_concat acc with h | ⟨l, r, h⟩
            · have := hk.out; rw [h] at this; simp at this; omega
            · exact ⟨l, r, by rw [h, List.concat_eq_append]⟩
          obtain ⟨l0, n0⟩ := r0
          have hq : acc'.length = q := by have := hk.out; simp at this; omega
          have HQ := Lib.hid hq
          have hn0 := hacc.out ⟨l0, n0⟩ (List.mem_append_right _ (List.mem_singleton.2 rfl))
          obtain ⟨n1, n2⟩ := hn0
          dsimp only at n1 n2
          obtain ⟨g, cap, hv, hgb, -⟩ := hown.form (by omega)
          obtain ⟨rfl, rfl⟩ : A' = some ⟨g, 0, none⟩ ∧ c' = cap := by simpa using hv
          have hgl := (hown.lt g rfl).2
          have e0 := hown0.cellAt (q * 2 + 1) (by omega)
          rw [← hq, runsC_last, hq] at e0
          have f0 := hown0.frozenAt (q * 2 + 1)
          have HG2 : Hid (gapsL l = gapsA (acc' ++ [⟨l0, n0 + (1 + r + b)⟩]) true (l.drop (p + 1 + 1))) := by
            show _ = _
            rw [hG.out, HD.out]
            simp only [gapsA, bump_snoc]
            rfl
          have k0 := B0.cell 0
          have k1 := B0.cell 1
          have k2 := B0.cell 2
          have k3 := B0.cell 3
          have k4 := B0.cell 4
          simp only [List.getElem?_toArray, List.getElem?_cons_zero, List.getElem?_cons_succ] at k0 k1 k2 k3 k4
          have HOW := Lib.hid hown0
          have HBB := Lib.hid hb0
          have w2 : IntKind.i64.wrap ((k : Int) - 1) = (k : Int) - 1 := IntWalk.i64_in _ (by omega)
          have w3 : ((k : Int) - 1).toNat = q := by omega
          have w4 : (k : Int) - 1 < k := by omega
          have w5 : (0 : Int) ≤ (k : Int) - 1 := by omega
          have w6 : (1 : Int) ≤ (k : Int) := by omega
          have w1 : IntKind.i64.wrap (n0 + (1 + r + b)) = n0 + (1 + r + b) := IntWalk.i64_in _ (by omega)
          have HKQ := Lib.hid hkq
          clear hs' hj0 d4 hv hown hown0 hq hkq
          go_wp2
          go_region_with (go_at_call 29; refine (HG.out _).mono ?_; rintro e w2 ⟨rfl, hb2⟩; have q0 := (hb2.cell (p := ⟨wr.heap.size, 0, none⟩) (by simp)).trans k0; have q1 := (hb2.cell (p := ⟨wr.heap.size, 1, none⟩) (by simp)).trans k1; have q2 := (hb2.cell (p := ⟨wr.heap.size, 2, none⟩) (by simp)).trans k2; have q3 := (hb2.cell (p := ⟨wr.heap.size, 3, none⟩) (by simp)).trans k3; have q4 := (hb2.cell (p := ⟨wr.heap.size, 4, none⟩) (by simp)).trans k4; have e1 := (hb2.cell (p := ⟨g, q * 2 + 1, none⟩) (by simp; omega)).trans e0; have f1 := (hb2.frozen (p := ⟨g, q * 2 + 1, none⟩) (by simp; omega)).trans f0; have HB2 := Lib.hid hb2)
          all_goals
            have hown5 := own_below HOW.out.drew HB2.out
            have hown6 := (hown5.stored (q * 2 + 1) (.int .i64 (n0 + (1 + r + b)))).1
            have hq := HQ.out
            rw [← hq, runsC_bump, hq] at hown6
            have hb6 := HBB.out.drew.trans (HB2.out.mono HBB.out.size)
            have hb7 := hb6.setCell (p := ⟨g, q * 2 + 1, none⟩) hgb (.int .i64 (n0 + (1 + r + b)))
            go_wp2
            go_roundw
            case rel => exact ⟨p + 1 + 1, some ⟨g, 0, none⟩, k, c', acc' ++ [⟨l0, n0 + (1 + r + b)⟩], true, by omega, by go_num, rfl, by omega, by show _ = _; rw [List.length_append, HQ.out, HKQ.out]; rfl, HG2, HNP, (fun h => absurd h (by omega)), (fun _ => hk0), (fun x hx => by
              rcases List.mem_append.1 hx with hx | hx
              · have := hacc.out x (List.mem_append_left _ hx); omega
              · obtain rfl := List.mem_singleton.1 hx
                dsimp only
                omega), hown6, hb7⟩
            case measure => simp [intOf]; omega
    · have hjn : j = n := by omega
      subst hjn
      rw [List.drop_of_length_le (by rw [HL.out]; exact Nat.le_refl _)] at hG
      have hG : Hid (gapsL l = acc) := hG
      go_wp2
      go_ret
      rw [hG.out, ← hk.out]
      exact ⟨hb, A', c', rfl, hown⟩
end Go.Proofs.Ytaclnkcohifpiaa

namespace Go.Proofs.Ytaclnkcohifpiaa
open Go.RowKit
def firstV (l : List Rn) (n : Int) : Int := (fitsL l n).headD 0
def lenAt (l : List Rn) (i : Int) : Int := match l[i.toNat]? with | some r => r.len | none => 0
def bestGo (l : List Rn) (b : Int) : List Int → Int
  | [] => b
  | i :: t => bestGo l (if lenAt l i < lenAt l b then i else b) t
def bestV (l : List Rn) (n : Int) : Int := bestGo l (firstV l n) (fitsL l n)
theorem fitsL_mem {l : List Rn} {n x : Int} (h : x ∈ fitsL l n) : ∃ (j : Nat) (r : Rn), l[j]? = some r ∧ n ≤ r.len ∧ x = (j : Int) := by
  unfold fitsL at h
  split at h
  · obtain ⟨j, r, h1, h2, h3⟩ := fitIx_mem.1 h
    exact ⟨j, r, h1, h2, by simpa using h3⟩
  · cases h
theorem fitsL_bad {l : List Rn} {n : Int} (h : fitsE l n ≠ 0) : fitsL l n = [] := by unfold fitsL; rw [if_neg h]
theorem fitsL_ok {l : List Rn} {n : Int} (h : fitsE l n = 0) : fitsL l n = fitIx n 0 l ∧ fitIx n 0 l ≠ [] := by
  refine ⟨by unfold fitsL; rw [if_pos h], (fitsE_ok.1 h).2.2⟩
def ggL (a : List Int) : List Rn := if checkE a = 0 then gapsL (spotsL a) else []
theorem gspots_small (a : List Int) : (gspotsL a).length ≤ 256 ∧ (∀ s ∈ gspotsL a, headE s.r s.b s.t s.f = 0) ∧ (checkE a ≠ 0 → gspotsL a = []) ∧ gapsL (gspotsL a) = ggL a := by
  unfold gspotsL ggL
  by_cases h : checkE a = 0
  · rw [if_pos h, if_pos h]
    refine ⟨spotsL_length a, fun s hs => ((parse_mem (parse_ok (checkE_ok.1 h).1).2) s hs).1.head, fun h2 => absurd h h2, rfl⟩
  · rw [if_neg h, if_neg h]
    exact ⟨by simp, by simp, fun _ => rfl, rfl⟩
theorem holes_facts : fitsE [⟨0, 1⟩, ⟨2, 3⟩] 2 = 0 ∧ firstV [⟨0, 1⟩, ⟨2, 3⟩] 2 = 1 := by decide
theorem holes_facts2 : checkE [281474976710656] = 0 ∧ (ggL [281474976710656]).length = 1 := by decide
end Go.Proofs.Ytaclnkcohifpiaa

namespace Go.Proofs.Ytaclnkcohifpiaa
open Go.RowKit
theorem rdw_word (r b t : Int) (f : Bool) (h : headE r b t f = 0) : readOk (wordOf r b t f) ∧ rdR (wordOf r b t f) = r ∧ rdB (wordOf r b t f) = b ∧ rdT (wordOf r b t f) = t ∧ rdF (wordOf r b t f) = f ∧ 0 ≤ wordOf r b t f ∧ wordOf r b t f < 18446744073709551616 := by
  obtain ⟨h1, h2, h3, h4, h5, h6, h7, h8⟩ := headE_ok.1 h
  have hF : (if f then 281474976710656 else 0 : Int) = 0 ∧ f = false ∨ (if f then 281474976710656 else 0 : Int) = 281474976710656 ∧ f = true := by cases f <;> simp
  have e1 : rdR (wordOf r b t f) = r := by unfold rdR wordOf; rcases hF with ⟨h, _⟩ | ⟨h, _⟩ <;> rw [h] <;> omega
  have e2 : rdB (wordOf r b t f) = b := by unfold rdB wordOf; rcases hF with ⟨h, _⟩ | ⟨h, _⟩ <;> rw [h] <;> omega
  have e3 : rdT (wordOf r b t f) = t := by unfold rdT wordOf; rcases hF with ⟨h, _⟩ | ⟨h, _⟩ <;> rw [h] <;> omega
  have e4 : rdF (wordOf r b t f) = f := by
    unfold rdF wordOf
    rcases hF with ⟨h, h'⟩ | ⟨h, h'⟩
    · rw [h, h', decide_eq_false]; omega
    · rw [h, h', decide_eq_true]; omega
  have e5 : 0 ≤ wordOf r b t f ∧ wordOf r b t f < 562949953421312 := by unfold wordOf; rcases hF with ⟨h, _⟩ | ⟨h, _⟩ <;> rw [h] <;> omega
  refine ⟨⟨by omega, by rw [e1, e2, e3, e4]; exact h⟩, e1, e2, e3, e4, e5.1, by omega⟩
structure Chk where
  r : Int
  b : Int
  t : Int
  f : Bool
  pay : List Int
def Chk.ok (c : Chk) : Prop := headE c.r c.b c.t c.f = 0 ∧ (c.pay.length : Int) = c.r + c.b
def chkW (c : Chk) : List Int := wordOf c.r c.b c.t c.f :: c.pay
def chunksW (cs : List Chk) : List Int := cs.flatMap chkW
def Chk.spot (i : Nat) (c : Chk) : Spot := ⟨i, c.r, c.b, c.t, c.f⟩
def Chk.len (c : Chk) : Nat := 1 + c.pay.length
def spotsFrom : Nat → List Chk → List Spot
  | _, [] => []
  | i, c :: cs => c.spot i :: spotsFrom (i + c.len) cs
theorem chkW_length (c : Chk) : (chkW c).length = c.len := by simp [chkW, Chk.len]; omega
theorem chunksW_cons (c : Chk) (cs : List Chk) : chunksW (c :: cs) = chkW c ++ chunksW cs := rfl
theorem chunksW_append (cs ds : List Chk) : chunksW (cs ++ ds) = chunksW cs ++ chunksW ds := by simp [chunksW]
theorem Chk.long {c : Chk} (h : c.ok) (i : Nat) : (c.spot i).long = c.len := by
  have := h.2
  simp only [Spot.long, Chk.spot, Chk.len]
  omega
theorem parse_chunks {a : List Int} : ∀ {l : List Spot} {i : Nat}, Parse a i l → ∃ cs : List Chk, (∀ c ∈ cs, c.ok) ∧ a.drop i = chunksW cs ∧ l = spotsFrom i cs := by
  intro l
  induction l with
  | nil =>
    intro i h
    obtain rfl : i = a.length := h
    exact ⟨[], by simp, by simp [chunksW], rfl⟩
  | cons s l ih =>
    rintro i ⟨h1, h2, rfl, h4, h5⟩
    obtain ⟨cs, hok, hd, rfl⟩ := ih h5
    have hE := headE_ok.1 h2.2
    have hl : hlen (a.getD i 0) = 1 + (rdR (a.getD i 0) + rdB (a.getD i 0)).toNat := by unfold hlen; omega
    have hv : a[i] = a.getD i 0 := by rw [List.getD_eq_getElem?_getD, List.getElem?_eq_getElem h1]; rfl
    have hdrop := List.drop_eq_getElem_cons h1
    have hw := readOk_word h2
    rw [hv] at hdrop
    generalize a.getD i 0 = v at *
    have hpl : ((a.drop (i + 1)).take (hlen v - 1)).length = hlen v - 1 := by rw [List.length_take, List.length_drop]; omega
    have hcl : Chk.len ⟨rdR v, rdB v, rdT v, rdF v, (a.drop (i + 1)).take (hlen v - 1)⟩ = hlen v := by
      unfold Chk.len
      rw [hpl]
      omega
    refine ⟨⟨rdR v, rdB v, rdT v, rdF v, (a.drop (i + 1)).take (hlen v - 1)⟩ :: cs, ?_, ?_, ?_⟩
    · intro c hc
      rcases List.mem_cons.1 hc with rfl | hc
      · refine ⟨h2.2, ?_⟩
        dsimp only
        rw [hpl]
        omega
      · exact hok c hc
    · rw [chunksW_cons, chkW]
      dsimp only
      rw [hw, ← hd, hdrop, List.cons_append]
      congr 1
      have h9 := List.take_append_drop (hlen v - 1) (a.drop (i + 1))
      rw [List.drop_drop, show i + 1 + (hlen v - 1) = i + hlen v by omega] at h9
      exact h9.symm
    · simp only [spotsFrom]
      rw [hcl]
      rfl
theorem chunks_parse : ∀ (cs : List Chk) (pre : List Int), (∀ c ∈ cs, c.ok) → Parse (pre ++ chunksW cs) pre.length (spotsFrom pre.length cs) := by
  intro cs
  induction cs with
  | nil => intro pre _; show _ = _; simp [chunksW]
  | cons c cs ih =>
    intro pre hok
    have hc := hok c List.mem_cons_self
    obtain ⟨w1, w2, w3, w4, w5, -⟩ := rdw_word c.r c.b c.t c.f hc.1
    have hg : (pre ++ chunksW (c :: cs)).getD pre.length 0 = wordOf c.r c.b c.t c.f := by
      rw [List.getD_eq_getElem?_getD, chunksW_cons, chkW, List.getElem?_append_right (Nat.le_refl _)]
      simp
    have hE := headE_ok.1 hc.1
    have hh : hlen (wordOf c.r c.b c.t c.f) = c.len := by
      have := hc.2
      unfold hlen Chk.len
      rw [w2, w3]
      omega
    have hL : (pre ++ chunksW (c :: cs)).length = pre.length + c.len + (chunksW cs).length := by rw [chunksW_cons, List.length_append, List.length_append, chkW_length]; omega
    have hpos : 1 ≤ c.len := by unfold Chk.len; omega
    refine ⟨by rw [hL]; omega, by rw [hg]; exact w1, ?_, by rw [hg, hh, hL]; omega, ?_⟩
    · rw [hg]
      simp only [spotOf, Chk.spot]
      rw [w2, w3, w4, w5]
    · rw [hg, hh]
      have := ih (pre ++ chkW c) (fun d hd => hok d (List.mem_cons_of_mem _ hd))
      rw [List.length_append, chkW_length, List.append_assoc] at this
      exact this
theorem chunks_spots {cs : List Chk} (hok : ∀ c ∈ cs, c.ok) (hl : (chunksW cs).length ≤ 256) : spotsE (chunksW cs) = 0 ∧ spotsL (chunksW cs) = spotsFrom 0 cs := by
  have h := spotsAt_parse _ _ _ (chunks_parse cs [] hok)
  simp only [List.nil_append, List.length_nil] at h
  have hn : ¬ 256 < (chunksW cs).length := by omega
  unfold spotsE spotsL
  rw [h, if_neg hn, if_neg hn]
  exact ⟨rfl, rfl⟩
theorem arena_chunks {a : List Int} (h : spotsE a = 0) : ∃ cs : List Chk, (∀ c ∈ cs, c.ok) ∧ a = chunksW cs ∧ spotsL a = spotsFrom 0 cs ∧ a.length ≤ 256 := by
  obtain ⟨h1, h2⟩ := parse_ok h
  obtain ⟨cs, hok, hd, hs⟩ := parse_chunks h2
  exact ⟨cs, hok, by simpa using hd, hs, h1⟩
def starts : Nat → List Chk → List Int
  | _, [] => []
  | i, c :: cs => (if c.f then [] else [(i : Int) + 1]) ++ starts (i + c.len) cs
theorem placeC_some {l : List Spot} {v : Int} : (placeF l v).isSome = true ↔ v = 0 ∨ ∃ s ∈ l, isPlace v s = true := by
  unfold placeF
  by_cases h : v = 0
  · simp [h]
  · rw [if_neg h, Option.isSome_map]
    rw [List.findIdx?_isSome]
    simp [h]
theorem starts_mem {v : Int} : ∀ (cs : List Chk) (i : Nat), (∃ s ∈ spotsFrom i cs, isPlace v s = true) ↔ v ∈ starts i cs := by
  intro cs
  induction cs with
  | nil => intro i; simp [spotsFrom, starts]
  | cons c cs ih =>
    intro i
    simp only [spotsFrom, starts, List.mem_cons, List.mem_append]
    rw [← ih (i + c.len)]
    constructor
    · rintro ⟨s, rfl | hs, hp⟩
      · left
        simp only [isPlace, Chk.spot, Bool.and_eq_true, Bool.not_eq_true', beq_iff_eq] at hp
        rw [hp.1, if_neg (by decide)]
        rw [List.mem_singleton, hp.2]
      · right; exact ⟨s, hs, hp⟩
    · rintro (h | ⟨s, hs, hp⟩)
      · refine ⟨_, .inl rfl, ?_⟩
        cases hf : c.f
        · rw [hf, if_neg (by decide), List.mem_singleton] at h
          simp [isPlace, Chk.spot, hf, h]
        · rw [hf, if_pos rfl] at h
          cases h
      · exact ⟨s, .inr hs, hp⟩
theorem refs_all (P : Int → Bool) : ∀ (cs : List Chk) (pre : List Int), (∀ c ∈ cs, c.ok) → ((spotsFrom pre.length cs).all (fun s => (refsOf (pre ++ chunksW cs) s).all P) = true ↔ ∀ c ∈ cs, ∀ v ∈ c.pay.take c.r.toNat, P v = true) := by
  intro cs
  induction cs with
  | nil => intro pre _; simp [spotsFrom]
  | cons c cs ih =>
    intro pre hok
    have hc := hok c List.mem_cons_self
    have hE := headE_ok.1 hc.1
    have hp := hc.2
    have h1 : refsOf (pre ++ chunksW (c :: cs)) (c.spot pre.length) = c.pay.take c.r.toNat := by
      simp only [refsOf, Chk.spot, Int.toNat_natCast]
      rw [chunksW_cons, chkW, List.drop_append, List.drop_of_length_le (by omega), List.nil_append, show pre.length + 1 - pre.length = 1 by omega, List.cons_append, List.drop_succ_cons, List.drop_zero, List.take_append_of_le_length (by omega)]
    have h2 := ih (pre ++ chkW c) (fun d hd => hok d (List.mem_cons_of_mem _ hd))
    rw [List.length_append, chkW_length, List.append_assoc, ← chunksW_cons] at h2
    simp only [spotsFrom, List.all_cons, Bool.and_eq_true, List.forall_mem_cons]
    rw [h1, h2, List.all_eq_true]
def refsC (cs : List Chk) : Prop := ∀ c ∈ cs, ∀ v ∈ c.pay.take c.r.toNat, v = 0 ∨ v ∈ starts 0 cs
theorem chunks_refs {cs : List Chk} (hok : ∀ c ∈ cs, c.ok) : refsOk (spotsFrom 0 cs) (chunksW cs) = true ↔ refsC cs := by
  have := refs_all (fun v => (placeF (spotsFrom 0 cs) v).isSome) cs [] hok
  simp only [List.length_nil, List.nil_append] at this
  unfold refsOk refsC
  rw [this]
  constructor
  · intro h c hc v hv
    have := placeC_some.1 (h c hc v hv)
    rwa [starts_mem] at this
  · intro h c hc v hv
    have := h c hc v hv
    rw [← starts_mem] at this
    exact placeC_some.2 this
theorem checkE_chunks {cs : List Chk} (hok : ∀ c ∈ cs, c.ok) (hl : (chunksW cs).length ≤ 256) : checkE (chunksW cs) = 0 ↔ refsC cs := by
  obtain ⟨h1, h2⟩ := chunks_spots hok hl
  rw [checkE_ok, h2, chunks_refs hok]
  exact ⟨fun h => h.2, fun h => ⟨h1, h⟩⟩
theorem check_chunks {a : List Int} (h : checkE a = 0) : ∃ cs : List Chk, (∀ c ∈ cs, c.ok) ∧ a = chunksW cs ∧ spotsL a = spotsFrom 0 cs ∧ a.length ≤ 256 ∧ refsC cs := by
  obtain ⟨cs, h1, h2, h3, h4⟩ := arena_chunks (checkE_ok.1 h).1
  subst h2
  exact ⟨cs, h1, rfl, h3, h4, (checkE_chunks h1 h4).1 h⟩
end Go.Proofs.Ytaclnkcohifpiaa

namespace Go.Proofs.Ytaclnkcohifpiaa
open Go.RowKit
def freeC (p : Nat) : Chk := ⟨0, (p : Int) - 1, 0, true, List.replicate (p - 1) 0⟩
def flushC (p : Nat) : List Chk := if p = 0 then [] else [freeC p]
def joinP : Nat → List Chk → List Chk
  | p, [] => flushC p
  | p, c :: cs => if c.f then joinP (p + c.len) cs else flushC p ++ c :: joinP 0 cs
def flushG (i p : Nat) : List Rn := if p = 0 then [] else [⟨i, p⟩]
def gapsP : Nat → Nat → List Chk → List Rn
  | i, p, [] => flushG (i - p) p
  | i, p, c :: cs => if c.f then gapsP (i + c.len) (p + c.len) cs else flushG (i - p) p ++ gapsP (i + c.len) 0 cs
theorem freeC_len {p : Nat} (h : p ≠ 0) : (freeC p).len = p := by unfold Chk.len freeC; rw [List.length_replicate]; omega
theorem freeC_f (p : Nat) : (freeC p).f = true := rfl
theorem freeC_ok {p : Nat} (h : p ≠ 0) (h2 : p ≤ 256) : (freeC p).ok := by
  refine ⟨headE_ok.2 ?_, ?_⟩
  · unfold freeC; dsimp only; refine ⟨by omega, by omega, by omega, by omega, by omega, by omega, by omega, fun _ => ⟨rfl, rfl⟩⟩
  · unfold freeC; dsimp only; rw [List.length_replicate]; omega
theorem flushC_length (p : Nat) : (chunksW (flushC p)).length = p := by
  unfold flushC
  by_cases h : p = 0
  · rw [if_pos h, h]; rfl
  · rw [if_neg h, chunksW_cons, List.length_append, chkW_length, freeC_len h]; rfl
theorem joinP_length : ∀ (cs : List Chk) (p : Nat), (chunksW (joinP p cs)).length = p + (chunksW cs).length := by
  intro cs
  induction cs with
  | nil => intro p; simp only [joinP]; rw [flushC_length]; rfl
  | cons c cs ih =>
    intro p
    simp only [joinP]
    rw [chunksW_cons, List.length_append, chkW_length]
    split
    · rw [ih]; omega
    · rw [chunksW_append, List.length_append, flushC_length, chunksW_cons, List.length_append, chkW_length, ih]; omega
theorem joinP_mem : ∀ (cs : List Chk) (p : Nat) (d : Chk), d ∈ joinP p cs → (∃ q, q ≠ 0 ∧ q ≤ p + (chunksW cs).length ∧ d = freeC q) ∨ (d ∈ cs ∧ d.f = false) := by
  intro cs
  have hfl : ∀ (p n : Nat) (d : Chk), d ∈ flushC p → ∃ q, q ≠ 0 ∧ q ≤ p + n ∧ d = freeC q := by
    intro p n d h
    unfold flushC at h
    split at h
    · cases h
    · rename_i h0; exact ⟨p, h0, by omega, List.mem_singleton.1 h⟩
  induction cs with
  | nil => intro p d h; exact .inl (hfl p _ d h)
  | cons c cs ih =>
    intro p d h
    simp only [joinP] at h
    rw [chunksW_cons, List.length_append, chkW_length]
    split at h
    · rcases ih _ d h with ⟨q, h1, h2, h3⟩ | ⟨h1, h2⟩
      · exact .inl ⟨q, h1, by omega, h3⟩
      · exact .inr ⟨List.mem_cons_of_mem _ h1, h2⟩
    · rename_i hf
      rcases List.mem_append.1 h with h | h
      · exact .inl (hfl p _ d h)
      · rcases List.mem_cons.1 h with rfl | h
        · exact .inr ⟨List.mem_cons_self, by simpa using hf⟩
        · rcases ih _ d h with ⟨q, h1, h2, h3⟩ | ⟨h1, h2⟩
          · exact .inl ⟨q, h1, by omega, h3⟩
          · exact .inr ⟨List.mem_cons_of_mem _ h1, h2⟩
theorem gapsA_chunks : ∀ (cs : List Chk) (i p : Nat) (acc : List Rn), p ≤ i → (∀ c ∈ cs, c.ok) → gapsA (acc ++ flushG (i - p) p) (decide (0 < p)) (spotsFrom i cs) = acc ++ gapsP i p cs := by
  intro cs
  induction cs with
  | nil => intro i p acc _ _; simp only [spotsFrom, gapsA, gapsP]
  | cons c cs ih =>
    intro i p acc hp hok
    have hc := hok c List.mem_cons_self
    have hok' : ∀ d ∈ cs, d.ok := fun d hd => hok d (List.mem_cons_of_mem _ hd)
    have hpos : 1 ≤ c.len := by unfold Chk.len; omega
    simp only [spotsFrom, gapsA, gapsP]
    rw [Chk.long hc]
    have hsf : (c.spot i).f = c.f := rfl
    have hsl : (c.spot i).loc = i := rfl
    rw [hsf, hsl]
    cases hf : c.f
    · rw [if_pos rfl, if_neg (by decide)]
      have := ih (i + c.len) 0 (acc ++ flushG (i - p) p) (by omega) hok'
      rw [List.append_assoc] at this
      simpa [flushG] using this
    · rw [if_neg (by decide), if_pos rfl]
      have := ih (i + c.len) (p + c.len) acc (by omega) hok'
      rw [show i + c.len - (p + c.len) = i - p by omega] at this
      rw [decide_eq_true (by omega)] at this
      rw [← this]
      by_cases h0 : p = 0
      · rw [if_neg (by simp [h0])]
        subst h0
        have e1 : flushG (i - 0) 0 = [] := rfl
        have e2 : flushG (i - 0) (0 + c.len) = [⟨i, c.len⟩] := by unfold flushG; rw [if_neg (by omega)]; simp
        rw [e1, e2, List.append_nil]
      · rw [if_pos (by simp; omega)]
        simp only [flushG]
        rw [if_neg h0, if_neg (by omega), bump_snoc]
        congr 3
theorem gapsL_chunks {cs : List Chk} (hok : ∀ c ∈ cs, c.ok) : gapsL (spotsFrom 0 cs) = gapsP 0 0 cs := by
  have := gapsA_chunks cs 0 0 [] (by omega) hok
  simpa [flushG, gapsL] using this
theorem gapsP_mem : ∀ (cs : List Chk) (i p : Nat), p ≤ i → ∀ r ∈ gapsP i p cs, ∃ a n : Nat, r = ⟨a, n⟩ ∧ 1 ≤ n ∧ i - p ≤ a ∧ a + n ≤ i + (chunksW cs).length := by
  intro cs
  have hfl : ∀ (i p m : Nat), p ≤ i → ∀ r ∈ flushG (i - p) p, ∃ a n : Nat, r = ⟨a, n⟩ ∧ 1 ≤ n ∧ i - p ≤ a ∧ a + n ≤ i + m := by
    intro i p m hp r h
    unfold flushG at h
    split at h
    · cases h
    · exact ⟨i - p, p, List.mem_singleton.1 h, by omega, by omega, by omega⟩
  induction cs with
  | nil => intro i p hp r h; exact hfl i p _ hp r h
  | cons c cs ih =>
    intro i p hp r h
    simp only [gapsP] at h
    rw [chunksW_cons, List.length_append, chkW_length]
    split at h
    · obtain ⟨a, n, h1, h2, h3, h4⟩ := ih _ _ (by omega) r h
      exact ⟨a, n, h1, h2, by omega, by omega⟩
    · rcases List.mem_append.1 h with h | h
      · exact hfl i p _ hp r h
      · obtain ⟨a, n, h1, h2, h3, h4⟩ := ih _ _ (by omega) r h
        exact ⟨a, n, h1, h2, by omega, by omega⟩
def layL (a : List Int) (i n : Nat) : List Int := if n = 0 then a else (fillL a i n 0).set i (wordOf 0 ((n : Int) - 1) 0 true)
theorem layL_length (a : List Int) (i n : Nat) (h : i + n ≤ a.length) : (layL a i n).length = a.length := by
  unfold layL
  split
  · rfl
  · rw [List.length_set, fillL_length _ _ _ _ h]
theorem layL_mid (pre X post : List Int) : layL (pre ++ X ++ post) pre.length X.length = pre ++ chunksW (flushC X.length) ++ post := by
  unfold layL flushC
  by_cases h : X.length = 0
  · rw [if_pos h, if_pos h, List.eq_nil_of_length_eq_zero h]; simp [chunksW]
  · rw [if_neg h, if_neg h]
    unfold fillL
    rw [show (pre ++ X ++ post).take pre.length = pre by rw [List.append_assoc]; simp, show (pre ++ X ++ post).drop (pre.length + X.length) = post by rw [show pre.length + X.length = (pre ++ X).length by simp, List.drop_left]]
    rw [List.append_assoc, List.set_append_right _ _ (Nat.le_refl _), Nat.sub_self]
    obtain ⟨m, hm⟩ : ∃ m, X.length = m + 1 := ⟨X.length - 1, by omega⟩
    rw [hm, List.replicate_succ, List.cons_append, List.set_cons_zero, List.append_assoc]
    simp [chunksW, chkW, freeC]
theorem layL_out {a : List Int} {i n k : Nat} (h : i + n ≤ a.length) (hk : k < i ∨ i + n ≤ k) : (layL a i n)[k]? = a[k]? := by
  unfold layL
  split
  · rfl
  · rw [List.getElem?_set_ne (by omega)]
    unfold fillL
    rcases hk with hk | hk
    · rw [List.append_assoc, List.getElem?_append_left (by rw [List.length_take]; omega), List.getElem?_take, if_pos hk]
    · rw [List.getElem?_append_right (by rw [List.length_append, List.length_take, List.length_replicate]; omega), List.length_append, List.length_take, List.length_replicate, Nat.min_eq_left (by omega), List.getElem?_drop]
      congr 1
      omega
def joinL (a : List Int) (l : List Rn) : List Int := l.foldl (fun a r => layL a r.loc.toNat r.len.toNat) a
theorem joinL_append (a : List Int) (l m : List Rn) : joinL a (l ++ m) = joinL (joinL a l) m := List.foldl_append
theorem joinL_flush (pre X post : List Int) : joinL (pre ++ X ++ post) (flushG pre.length X.length) = pre ++ chunksW (flushC X.length) ++ post := by
  rw [← layL_mid]
  unfold flushG joinL
  by_cases h : X.length = 0
  · rw [if_pos h]; unfold layL; rw [if_pos h]; rfl
  · rw [if_neg h]; simp
theorem joinL_chunks : ∀ (cs : List Chk) (pre X : List Int), joinL (pre ++ X ++ chunksW cs) (gapsP (pre.length + X.length) X.length cs) = pre ++ chunksW (joinP X.length cs) := by
  intro cs
  induction cs with
  | nil =>
    intro pre X
    simp only [gapsP, joinP]
    rw [Nat.add_sub_cancel, joinL_flush]
    simp [chunksW]
  | cons c cs ih =>
    intro pre X
    simp only [gapsP, joinP]
    cases hf : c.f
    · rw [if_neg (by decide), if_neg (by decide), joinL_append, Nat.add_sub_cancel, joinL_flush]
      have := ih (pre ++ chunksW (flushC X.length) ++ chkW c) []
      rw [List.length_append, List.length_append, flushC_length, chkW_length] at this
      simp only [List.append_nil, List.length_nil, Nat.add_zero, List.append_assoc] at this
      rw [chunksW_append, chunksW_cons, chunksW_cons, List.append_assoc]
      exact this
    · rw [if_pos rfl, if_pos rfl]
      have := ih pre (X ++ chkW c)
      rw [List.length_append, chkW_length, ← Nat.add_assoc] at this
      rw [← this, chunksW_cons]
      simp
theorem joinL_out {k : Nat} : ∀ (l : List Rn) (a : List Int), (∀ r ∈ l, ∃ i n : Nat, r = ⟨i, n⟩ ∧ i + n ≤ a.length) → (joinL a l)[k]? = a[k]? ∨ ∃ r ∈ l, r.loc ≤ (k : Int) ∧ (k : Int) - r.loc < r.len := by
  intro l
  induction l with
  | nil => intro a _; exact .inl rfl
  | cons r l ih =>
    intro a h
    obtain ⟨i, n, rfl, hin⟩ := h r List.mem_cons_self
    have hl := layL_length a i n hin
    by_cases hk : k < i ∨ i + n ≤ k
    · rcases ih (layL a i n) (fun s hs => by rw [hl]; exact h s (List.mem_cons_of_mem _ hs)) with h1 | ⟨s, hs, h2⟩
      · left
        rw [← layL_out hin hk]
        exact h1
      · exact .inr ⟨s, List.mem_cons_of_mem _ hs, h2⟩
    · exact .inr ⟨⟨i, n⟩, List.mem_cons_self, by dsimp only; omega, by dsimp only; omega⟩
theorem gapsP_join : ∀ (cs : List Chk) (i p : Nat), p ≤ i → gapsP (i - p) 0 (joinP p cs) = gapsP i p cs := by
  intro cs
  have key : ∀ (i p : Nat) (R : List Chk), p ≤ i → (R = [] ∨ ∃ c T, R = c :: T ∧ c.f = false) → gapsP (i - p) 0 (flushC p ++ R) = gapsP i p R := by
    intro i p R hp hR
    unfold flushC
    by_cases h0 : p = 0
    · rw [if_pos h0, h0]; rfl
    · rw [if_neg h0]
      simp only [List.cons_append, List.nil_append, gapsP]
      rw [if_pos (freeC_f p), freeC_len h0, show i - p + p = i by omega, Nat.zero_add]
  induction cs with
  | nil => intro i p hp; simp only [joinP]; have := key i p [] hp (.inl rfl); rwa [List.append_nil] at this
  | cons c cs ih =>
    intro i p hp
    simp only [joinP]
    cases hf : c.f
    · rw [if_neg (by decide), key i p _ hp (.inr ⟨c, _, rfl, hf⟩)]
      simp only [gapsP]
      rw [hf, if_neg (by decide), if_neg (by decide)]
      have := ih (i + c.len) 0 (by omega)
      rw [Nat.sub_zero] at this
      rw [this]
    · rw [if_pos rfl]
      simp only [gapsP]
      rw [hf, if_pos rfl, ← ih (i + c.len) (p + c.len) (by omega)]
      congr 1
      omega
theorem joinP_join : ∀ (cs : List Chk) (p : Nat), joinP 0 (joinP p cs) = joinP p cs := by
  intro cs
  induction cs with
  | nil =>
    intro p
    simp only [joinP]
    unfold flushC
    by_cases h0 : p = 0
    · rw [if_pos h0]; rfl
    · rw [if_neg h0]
      simp only [joinP]
      rw [if_pos (freeC_f p), freeC_len h0, Nat.zero_add]
      unfold flushC
      rw [if_neg h0]
  | cons c cs ih =>
    intro p
    simp only [joinP]
    cases hf : c.f
    · rw [if_neg (by decide)]
      unfold flushC
      by_cases h0 : p = 0
      · rw [if_pos h0]
        simp only [List.nil_append, joinP]
        rw [hf, if_neg (by decide), ih]
        rfl
      · rw [if_neg h0]
        simp only [List.cons_append, List.nil_append, joinP]
        rw [if_pos (freeC_f p), freeC_len h0, Nat.zero_add, hf, if_neg (by decide), ih]
        unfold flushC
        rw [if_neg h0]
        rfl
    · rw [if_pos rfl]
      exact ih _
theorem starts_join : ∀ (cs : List Chk) (i p : Nat), p ≤ i → starts (i - p) (joinP p cs) = starts i cs := by
  intro cs
  have key : ∀ (i p : Nat) (R : List Chk), p ≤ i → starts (i - p) (flushC p ++ R) = starts i R := by
    intro i p R hp
    unfold flushC
    by_cases h0 : p = 0
    · rw [if_pos h0, h0]; rfl
    · rw [if_neg h0]
      simp only [List.cons_append, List.nil_append, starts]
      rw [freeC_len h0, show i - p + p = i by omega]
      rfl
  induction cs with
  | nil => intro i p hp; simp only [joinP]; have := key i p [] hp; rwa [List.append_nil] at this
  | cons c cs ih =>
    intro i p hp
    simp only [joinP]
    cases hf : c.f
    · rw [if_neg (by decide), key i p _ hp]
      simp only [starts]
      have := ih (i + c.len) 0 (by omega)
      rw [Nat.sub_zero] at this
      rw [this]
    · rw [if_pos rfl]
      simp only [starts]
      rw [hf, if_pos rfl, List.nil_append, ← ih (i + c.len) (p + c.len) (by omega)]
      congr 1
      omega
theorem free_join : ∀ (cs : List Chk) (i p j : Nat), ((spotsFrom j (joinP p cs)).filter (·.f)).length = (gapsP i p cs).length := by
  intro cs
  have key : ∀ (i p j : Nat) (R : List Chk), ((spotsFrom j (flushC p ++ R)).filter (·.f)).length = (flushG i p).length + ((spotsFrom (j + p) R).filter (·.f)).length := by
    intro i p j R
    unfold flushC flushG
    by_cases h0 : p = 0
    · rw [if_pos h0, if_pos h0, h0]; simp
    · rw [if_neg h0, if_neg h0]
      simp only [List.cons_append, List.nil_append, spotsFrom]
      rw [freeC_len h0, List.filter_cons, if_pos (by rfl)]
      simp only [List.length_cons, List.length_nil]
      omega
  induction cs with
  | nil => intro i p j; simp only [joinP, gapsP]; have := key (i - p) p j []; rw [List.append_nil] at this; rw [this]; rfl
  | cons c cs ih =>
    intro i p j
    simp only [joinP, gapsP]
    cases hf : c.f
    · rw [if_neg (by decide), if_neg (by decide), key (i - p) p j, List.length_append]
      simp only [spotsFrom]
      rw [List.filter_cons, if_neg (by simp [Chk.spot, hf]), ih (i + c.len) 0]
    · rw [if_pos rfl, if_pos rfl]
      exact ih _ _ _
theorem joinP_ok {cs : List Chk} (hok : ∀ c ∈ cs, c.ok) (hl : (chunksW cs).length ≤ 256) : ∀ d ∈ joinP 0 cs, d.ok := by
  intro d hd
  rcases joinP_mem cs 0 d hd with ⟨q, h1, h2, rfl⟩ | ⟨h1, -⟩
  · exact freeC_ok h1 (by omega)
  · exact hok d h1
theorem refsC_join {cs : List Chk} (h : refsC cs) : refsC (joinP 0 cs) := by
  intro d hd v hv
  have hs := starts_join cs 0 0 (by omega)
  rw [Nat.sub_zero] at hs
  rw [hs]
  rcases joinP_mem cs 0 d hd with ⟨q, h1, h2, rfl⟩ | ⟨h1, -⟩
  · simp [freeC] at hv
  · exact h d h1 v hv
structure JoinOk (a b : List Int) (l : List Rn) : Prop where
  len : b.length = a.length
  check : checkE b = 0
  gaps : gapsL (spotsL b) = l
  again : joinL b l = b
  free : ((spotsL b).filter (·.f)).length = l.length
  out : ∀ k : Nat, b[k]? = a[k]? ∨ ∃ r ∈ l, r.loc ≤ (k : Int) ∧ (k : Int) - r.loc < r.len
  runs : ∀ r ∈ l, ∃ i n : Nat, r = ⟨i, n⟩ ∧ 1 ≤ n ∧ i + n ≤ a.length
theorem join_ok {a : List Int} (h : checkE a = 0) : JoinOk a (joinL a (gapsL (spotsL a))) (gapsL (spotsL a)) := by
  obtain ⟨cs, hok, rfl, hs, hl, hr⟩ := check_chunks h
  have hg : gapsL (spotsL (chunksW cs)) = gapsP 0 0 cs := by rw [hs, gapsL_chunks hok]
  rw [hg]
  have hj := joinL_chunks cs [] []
  simp only [List.nil_append, List.length_nil, Nat.add_zero] at hj
  have hok2 := joinP_ok hok hl
  have hlen := joinP_length cs 0
  rw [Nat.zero_add] at hlen
  have hm := gapsP_mem cs 0 0 (by omega)
  have hm' : ∀ r ∈ gapsP 0 0 cs, ∃ i n : Nat, r = ⟨i, n⟩ ∧ 1 ≤ n ∧ i + n ≤ (chunksW cs).length := fun r hr => by
    obtain ⟨i, n, h1, h2, h3, h4⟩ := hm r hr
    exact ⟨i, n, h1, h2, by omega⟩
  obtain ⟨hs1, hs2⟩ := chunks_spots hok2 (by omega)
  have hg2 := gapsP_join cs 0 0 (by omega)
  rw [Nat.sub_zero] at hg2
  refine ⟨by rw [hj, hlen], by rw [hj, checkE_chunks hok2 (by omega)]; exact refsC_join hr, by rw [hj, hs2, gapsL_chunks hok2, hg2], ?_, ?_, fun k => ?_, hm'⟩
  · have hj2 := joinL_chunks (joinP 0 cs) [] []
    simp only [List.nil_append, List.length_nil, Nat.add_zero] at hj2
    rw [hg2, joinP_join] at hj2
    rw [hj, hj2]
  · rw [hj, hs2, free_join cs 0 0 0]
  · exact joinL_out _ _ (fun r hr => by
      obtain ⟨i, n, h1, h2, h3⟩ := hm' r hr
      exact ⟨i, n, h1, h3⟩)
end Go.Proofs.Ytaclnkcohifpiaa

namespace Go.Proofs.Ytaclnkcohifpiaa
open Go.RowKit
set_option maxHeartbeats 400000 in
theorem glay_ok (A : Option Addr) (n c B : Nat) (a : List Int) (i m : Nat) (w : World) (hr : Reads w B 1 A n (a.map (.int .u64))) (hB : B ≤ w.heap.size) (hn : n ≤ 256) (him : i + m ≤ n) (h1 : 1 ≤ m) :
    Calls Try.prog 26 #[.slice A n c, .int .i64 i, .int .i64 m] w fun e w' => Below w.heap.size w w' ∧ ∃ A' c', e = .returned (.slice A' n c') ∧ w'.ownsRow w.heap.size 25 1 (.slice A' n c') n ((layL a i m).map (.int .u64)) := by
  have hE : headE 0 ((m : Int) - 1) 0 true = 0 := headE_ok.2 ⟨by omega, by omega, by omega, by omega, by omega, by omega, by omega, fun _ => ⟨rfl, rfl⟩⟩
  have HW := Lib.hid (fun w => hword_ok 0 ((m : Int) - 1) 0 true w hE)
  have hF : fillE n i m = 0 := fillE_ok.2 ⟨by omega, by omega, by omega, by omega, by omega⟩
  have HF := Lib.hid (fun w hr hB => fill_ok A n c B a i m 0 w hr hB hF)
  have HL : Hid (layL a i m = (fillL a i m 0).set i (wordOf 0 ((m : Int) - 1) 0 true)) := by show _ = _; unfold layL; rw [if_neg (by omega)]
  have w1 : IntKind.i64.wrap ((m : Int) - 1) = (m : Int) - 1 := IntWalk.i64_in _ (by omega)
  have hm0 : ((m : Int) == 0) = false := by simp; omega
  simp only [Int.toNat_natCast] at HF
  generalize fillL a i m 0 = F at *
  generalize wordOf 0 ((m : Int) - 1) 0 true = v at *
  clear hE hF
  go_enter Try.func26, Try.ntmps26
  go_wp2_with fail
  refine (HW.out _).mono ?_
  rintro e w1 ⟨rfl, hb1⟩
  go_wp2_with fail
  refine (HF.out _ (hr.below (hb1.mono hB)) (by have := hb1.size; omega)).mono ?_
  rintro e w2 ⟨hb2, A', c', rfl, hown⟩
  obtain ⟨g, cap, hv, hg, -⟩ := hown.form (by omega)
  obtain ⟨rfl, rfl⟩ : A' = some ⟨g, 0, none⟩ ∧ c' = cap := by simpa using hv
  have hF0 := hown.frozenAt i
  have hl := hown.1
  simp only [List.length_map] at hl
  have hc0 := hown.cellAt i (by omega)
  rw [List.getElem?_map, List.getElem?_eq_getElem (by omega)] at hc0
  have hc1 : w2.cell? ⟨g, i, none⟩ = some (.int .u64 (F[i]'(by omega))) := hc0
  have hin : i < n := by omega
  have HOW := Lib.hid hown
  clear hv hc0 hown
  go_wp2
  go_ret
  refine ⟨(below_step hb1 hb2).setCell (p := ⟨g, i, none⟩) (by have := hb1.size; exact Nat.le_trans this hg) _, some ⟨g, 0, none⟩, c', rfl, ?_⟩
  rw [HL.out, List.map_set]
  exact own_mono (HOW.out.stored i (.int .u64 v)).1 hb1.size
set_option maxHeartbeats 400000 in
theorem gjoin_bad (A : Option Addr) (n c : Nat) (a : List Int) (w : World) (hr : Reads w w.heap.size 1 A n (a.map (.int .u64))) (hnc : n ≤ c) (ha : ∀ x ∈ a, (Lit.int .u64 x).wf = true) (hE : checkE a ≠ 0) :
    Calls Try.prog 9 #[.slice A n c] w fun e w' => e = .returned (.tuple #[.slice none 0 0, .int .i64 (checkE a)]) ∧ Below w.heap.size w w' := by
  have H1 := Lib.hid (fun w hr => gspots_any A n c a w hr hnc ha)
  generalize checkE a = E at *
  have hE1 : (E != 0) = true := by simpa using hE
  go_enter Try.func9, Try.ntmps9
  go_wp2_with fail
  refine (H1.out _ hr).mono ?_
  rintro e w1 ⟨hb1, A', c', rfl, hown⟩
  clear hown
  go_wp2
  go_ret2
  exact ⟨rfl, hb1⟩
set_option maxRecDepth 100000 in
set_option maxHeartbeats 1000000 in
theorem gjoin_ok (A : Option Addr) (n c : Nat) (a : List Int) (w : World) (hr : Reads w w.heap.size 1 A n (a.map (.int .u64))) (hnc : n ≤ c) (ha : ∀ x ∈ a, (Lit.int .u64 x).wf = true) (hE : checkE a = 0) :
    Calls Try.prog 9 #[.slice A n c] w fun e w' => Below w.heap.size w w' ∧ ∃ A' c', e = .returned (.tuple #[.slice A' n c', .int .i64 0]) ∧ w'.ownsRow w.heap.size 25 1 (.slice A' n c') n ((joinL a (gapsL (spotsL a))).map (.int .u64)) := by
  have H1 := fun w hr => gspots_any A n c a w hr hnc ha
  obtain ⟨s1, s2, s3, s4⟩ := gspots_small a
  have hgs : gspotsL a = spotsL a := by unfold gspotsL; rw [if_pos hE]
  rw [hE] at H1
  rw [hgs] at H1 s1 s2
  have H1 := Lib.hid H1
  have H2 := Lib.hid (fun A' c' w hr => ggaps_any A' (spotsL a).length c' (spotsL a) w hr s1 s2)
  have hal : a.length = n := by have := hr.1; simpa using this
  have hn : n ≤ 256 := by have := (parse_ok (checkE_ok.1 hE).1).1; omega
  have hJ := join_ok hE
  have HR := Lib.hid hJ.runs
  have hGl : (gapsL (spotsL a)).length ≤ 256 := by have := gapsA_length [] false (spotsL a); unfold gapsL; simp only [List.length_nil] at this; omega
  have H3 := Lib.hid (fun w hr hB => clone_u64 A n c w.heap.size (a.map (.int .u64)) w hr hB (u64s_one a) (by omega))
  generalize spotsL a = L at *
  generalize gapsL L = G at *
  obtain ⟨k, hk⟩ : ∃ k, k = G.length := ⟨_, rfl⟩
  have HK := Lib.hid hk
  rw [← hk] at H2 hGl
  have HAL := Lib.hid hal
  clear s1 s2 s3 s4 hgs hJ hE hk hal
  go_enter Try.func9, Try.ntmps9
  go_wp2_with fail
  refine (H1.out _ hr).mono ?_
  rintro e w1 ⟨hb1, A1, c1, rfl, hown1⟩
  have hrl := Reads.of_own hown1
  clear hown1
  go_wp2_with fail
  refine (H3.out _ ((hr.below hb1).more hb1.size) (Nat.le_refl _)).mono ?_
  rintro e w2 ⟨A2, c2, rfl, hown2, hb2⟩
  have hb02 := below_step hb1 hb2
  go_wp2_with fail
  refine (H2.out _ _ _ ((hrl.below hb2).more hb2.size)).mono ?_
  rintro e w3 ⟨hb3, A3, c3, rfl, hown3⟩
  have hrG := Reads.of_own hown3
  have hown23 := own_mono (own_below hown2 hb3) hb1.size
  have hb03 := below_step hb02 hb3
  clear hown3 hown2 hrl hb1 hb2 hb3 hb02
  go_wp2
  go_loopw [0, 7, 21] (fun o _ i wr => ∃ (j : Nat) (A' : Option Addr) (c' : Nat) (cur : List Int), j ≤ k ∧ i = .int .i64 j ∧ o = .slice A' n c' ∧ Hid (joinL a G = joinL cur (G.drop j)) ∧ wr.ownsRow w.heap.size 25 1 (.slice A' n c') n (cur.map (.int .u64)) ∧ Below w3.heap.size w3 wr) (fun _ _ i _ => k - (intOf i).toNat)
  case atStart => exact ⟨0, A2, c2, a, Nat.zero_le _, rfl, rfl, rfl, hown23, Below.refl _ _⟩
  case round =>
    obtain ⟨j, A', c', cur, hj, rfl, rfl, hJ, hown, hb⟩ := hrel
    by_cases hlt : j < k
    · obtain ⟨ad, r, rfl, had, hs, c0, c1⟩ := (hrG.below hb).run hlt
      obtain ⟨i, m, rfl, h1, him⟩ := HR.out r (List.mem_of_getElem? hs)
      rw [HAL.out] at him
      have HD := Lib.hid (drop_of_get hs)
      have HJ2 : Hid (joinL a G = joinL (layL cur i m) (G.drop (j + 1))) := by
        show _ = _
        rw [hJ.out, HD.out]
        rfl
      dsimp only at c0 c1
      have hrc := (Reads.of_own hown).alloc (Nat.le_refl _) (.cells #[.int .i64 i, .int .i64 m] 64)
      have HL := Lib.hid (glay_ok A' n c' _ cur i m _ hrc (by simp) hn him h1)
      have hb0 := hb.alloc hb.size (.cells #[.int .i64 i, .int .i64 m] 64)
      have hbs : w.heap.size ≤ (wr.alloc (.cells #[.int .i64 i, .int .i64 m] 64)).heap.size := by have := hb0.size; have := hb03.size; omega
      clear hs hrc hown hJ
      go_wp2_with fail
      refine HL.out.mono ?_
      rintro e w4 ⟨hb4, A4, c4, rfl, hown4⟩
      go_wp2
      go_roundw
      case rel => exact ⟨j + 1, A4, c4, layL cur i m, by omega, by go_num, rfl, HJ2, own_mono hown4 hbs, hb0.trans (hb4.mono hb0.size)⟩
      case measure => simp [intOf]; omega
    · have hjk : j = k := by omega
      subst hjk
      rw [List.drop_of_length_le (by rw [← HK.out]; exact Nat.le_refl _)] at hJ
      have hJ : Hid (joinL a G = cur) := hJ
      go_wp2
      go_ret2
      rw [hJ.out]
      exact ⟨below_step hb03 hb, A', c', rfl, hown⟩
end Go.Proofs.Ytaclnkcohifpiaa
