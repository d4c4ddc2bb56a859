/-
  package walk: refs, places, check, Check.
-/
import Derived.Test.YtbmkbnalembbjaaSpots
import Derived.Test.YtbmkbnalembbjaaArena2
namespace Go.Proofs.Ytbmkbnalembbjaa
open Go.RowKit

def spotV (s : Spot) : Value := .agg #[.int .i64 s.loc, .int .i64 s.r, .int .i64 s.b, .int .i64 s.t, .bool s.f]

set_option maxHeartbeats 400000 in
theorem refs_any (A : Option Addr) (n c B : Nat) (a : List Int) (s : Spot) (w : World) (hr : Reads w B 1 A n (a.map (.int .u64))) (hB : B ≤ w.heap.size) (hc : n ≤ c) (hn : n ≤ 256) (hs : SpotOk a s) :
    Calls Try.prog 95 #[.slice A n c, .agg #[.int .i64 s.loc, .int .i64 s.r, .int .i64 s.b, .int .i64 s.t, .bool s.f]] w fun e w' => Below w.heap.size w w' ∧ ∃ A' c', e = .returned (.slice A' s.r.toNat c') ∧ s.r.toNat ≤ c' ∧ Reads w' B 1 A' s.r.toNat ((refsOf a s).map (.int .u64)) := by
  have hal : a.length = n := by have := hr.1; simpa using this
  have l0 := hs.loc0
  have r0 := hs.r0
  have b0 := hs.b0
  have ft := hs.fits
  clear hs
  obtain ⟨loc, r, b, t, f⟩ := s
  simp only [Spot.long] at ft l0 r0 b0 ⊢
  obtain ⟨i, rfl⟩ := Int.eq_ofNat_of_zero_le l0
  obtain ⟨k, rfl⟩ := Int.eq_ofNat_of_zero_le r0
  rw [hal] at ft
  have HS := Lib.hid (hr.sub (lo := i + 1) (hi := i + 1 + k) (by omega) (by omega) hc)
  have hpos : 0 < n := by omega
  obtain ⟨ad, rfl, had, -⟩ := hr.2 hpos
  rw [Int.toNat_natCast]
  have ek : ∀ (A : Option Addr) (c : Nat), Ending.returned (.slice A (i + 1 + k - (i + 1)) c) = .returned (.slice A k c) := fun A c => by rw [show i + 1 + k - (i + 1) = k by omega]
  have EK := Lib.hid ek
  clear ek
  have HR : Hid ((refsOf a ⟨i, k, b, t, f⟩).map (Value.int .u64) = ((a.map (Value.int .u64)).drop (i + 1)).take (i + 1 + k - (i + 1))) := by
    show _ = _
    simp only [refsOf, Int.toNat_natCast, List.map_take, List.map_drop]
    rw [show i + 1 + k - (i + 1) = k by omega]
  have h1 : i + 1 + k ≤ n := by omega
  clear hal hr l0 r0
  by_cases hci : c = i + 1
  · have HS := HS.out
    rw [if_pos hci, ← HR.out, show i + 1 + k - (i + 1) = k by omega] at HS
    have HS := Lib.hid (HS.alloc hB (.cells #[.int .i64 i, .int .i64 k, .int .i64 b, .int .i64 t, .bool f] 146))
    go_enter Try.func95, Try.ntmps95
    go_wp2
    go_ret
    exact ⟨below_new _ _, _, _, EK.out _ _, by omega, HS.out⟩
  · have HS := HS.out
    rw [if_neg hci, ← HR.out, show i + 1 + k - (i + 1) = k by omega] at HS
    have HS := Lib.hid (HS.alloc hB (.cells #[.int .i64 i, .int .i64 k, .int .i64 b, .int .i64 t, .bool f] 146))
    go_enter Try.func95, Try.ntmps95
    go_wp2
    go_ret
    exact ⟨below_new _ _, _, _, EK.out _ _, by omega, HS.out⟩

theorem underlying_u64 : Try.prog.underlying 37 = some (.int .u64) := Try.underlying37
theorem zero_int (w : World) : (zeroValue 3).run Try.prog w = .ok (.int .i64 0) w := by kernel_rfl

set_option maxRecDepth 100000 in
set_option maxHeartbeats 1000000 in
theorem places_any (A : Option Addr) (n c : Nat) (l : List Spot) (w : World) (hr : Reads w w.heap.size 5 A n (spotsC l)) (hn : n ≤ 256) (hl : l.Pairwise (fun s t => s.loc < t.loc)) (hb : ∀ s ∈ l, 0 ≤ s.loc ∧ s.loc ≤ 256) :
    Calls Try.prog 94 #[.slice A n c] w fun e w' => Below w.heap.size w w' ∧ ∃ b, e = .returned (.map (some b)) ∧ w.heap.size ≤ b ∧ MapIs w' Try.prog 37 .u64 b 300 (placeV l) := by
  have hll : l.length = n := by have := hr.1; rw [spotsC_length] at this; omega
  have HL := Lib.hid hll
  have HO := Lib.hid hl
  have HB := Lib.hid hb
  clear hll hl hb
  obtain ⟨w1, hins, hM, hg1⟩ := (MapIs.made w Try.prog 37 .u64).store (k := 37) (t := 141) Try.underlying37 Try.underlying141 (by decide) (x := 0) (by decide) (.int .i64 (-1))
  rw [← placeV_nil] at hM
  have hb1 : Below w.heap.size w w1 := (below_new w _).grown hg1 (by simp) (by simp)
  have HM := Lib.hid (hM.mono (show 0 + 1 ≤ 1 by omega))
  clear hM
  have hmm := @run_makeMap Try.prog
  go_enter Try.func94, Try.ntmps94
  go_wp2
  clear hins
  go_loopw [4, 5, 10] (fun _ _ i wr => ∃ j : Nat, j ≤ n ∧ i = .int .i64 j ∧ MapIs wr Try.prog 37 .u64 w.heap.size (j + 1) (placeV (l.take j)) ∧ Below w.heap.size w wr) (fun _ _ i _ => n - (intOf i).toNat)
  case atStart => exact ⟨0, Nat.zero_le _, rfl, HM.out, hb1⟩
  case round =>
    obtain ⟨j, hj, rfl, hM, hb⟩ := hrel
    by_cases hlt : j < n
    · obtain ⟨ad, s, rfl, had, hs, c0, c1, c2, c3, c4⟩ := (hr.below hb).spot hlt
      have hq := HB.out s (List.mem_of_getElem? hs)
      have HT : Hid (l.take (j + 1) = l.take j ++ [s]) := by
        show _ = _
        obtain ⟨h1, rfl⟩ := List.getElem?_eq_some_iff.1 hs
        exact List.take_succ_eq_append_getElem h1
      have HJ : Hid (∀ x ∈ l.take j, x.loc < s.loc) := by
        intro x hx
        rw [List.mem_take_iff_getElem] at hx
        obtain ⟨k, hk, rfl⟩ := hx
        obtain ⟨h1, rfl⟩ := List.getElem?_eq_some_iff.1 hs
        exact List.pairwise_iff_getElem.1 HO.out k j (by omega) h1 (by omega)
      obtain ⟨loc, r, b, t, f⟩ := s
      dsimp only at c0 c1 c2 c3 c4 hq
      have hM0 := hM.alloc (.cells #[.int .i64 loc, .int .i64 r, .int .i64 b, .int .i64 t, .bool f] 146)
      have hb0 := hb.alloc hb.size (.cells #[.int .i64 loc, .int .i64 r, .int .i64 b, .int .i64 t, .bool f] 146)
      clear hM hs
      cases f
      · have hlen : (l.take j).length = j := by rw [List.length_take, HL.out]; omega
        have hP := placeV_snoc (l := l.take j) (s := ⟨loc, r, b, t, false⟩) rfl hq.1 HJ.out
        rw [← HT.out, hlen] at hP
        obtain ⟨w2, hupd, hM2, hg2⟩ := hM0.store (k := 37) (t := 141) Try.underlying37 Try.underlying141 (by unfold maxLen; omega) (x := loc + 1) (by simp [Lit.wf, IntKind.min, IntKind.max, IntKind.signed, IntKind.bits]; omega) (.int .i64 j)
        rw [← hP] at hM2
        have HM2 := Lib.hid hM2
        have hb2 := hb0.grown hg2 hb0.size (by simp)
        clear hP hlen hM2 hM0 hb0
        obtain ⟨q0, q1⟩ := hq
        go_wp2
        go_roundw
        case rel => exact ⟨j + 1, by omega, by go_num, HM2.out, hb2⟩
        case measure => simp [intOf]; omega
      · have HP : Hid (placeV (l.take (j + 1)) = placeV (l.take j)) := by show _ = _; rw [HT.out]; exact placeV_free rfl
        go_wp2
        go_roundw
        case rel => exact ⟨j + 1, by omega, by go_num, by rw [HP.out]; exact hM0.mono (by omega), hb0⟩
        case measure => simp [intOf]; omega
    · have hjn : j = n := by omega
      subst hjn
      rw [List.take_of_length_le (by rw [HL.out]; exact Nat.le_refl _)] at hM
      go_wp2
      go_ret
      exact ⟨hb, _, rfl, Nat.le_refl _, hM.mono (by omega)⟩

theorem spots_bounds {a : List Int} (h : spotsE a = 0) : ∀ s ∈ spotsL a, 0 ≤ s.loc ∧ s.loc ≤ 256 := by
  intro s hs
  obtain ⟨hlen, hp⟩ := parse_ok h
  have := (parse_mem hp s hs).1
  have h1 := this.loc0
  have h2 := this.fits
  have h3 := this.r0
  have h4 := this.b0
  unfold Spot.long at h2
  omega

set_option maxHeartbeats 400000 in
theorem check_bad0 (A : Option Addr) (n c : Nat) (a : List Int) (w : World) (hr : Reads w w.heap.size 1 A n (a.map (.int .u64))) (ha : ∀ x ∈ a, (Lit.int .u64 x).wf = true) (hE : spotsE a ≠ 0) :
    Calls Try.prog 74 #[.slice A n c] w fun e w' => e = .returned (.tuple #[.slice none 0 0, .map none, .int .i64 (checkE a)]) ∧ Below w.heap.size w w' := by
  have H := fun w hr => spots_any A n c a w hr ha
  rw [spotsL_bad hE] at H
  have HH := Lib.hid H
  have hc : checkE a = spotsE a := by unfold checkE; rw [if_pos hE]
  rw [hc]
  clear H hc
  generalize spotsE a = E at *
  have hE1 : (E != 0) = true := by simpa using hE
  go_enter Try.func74, Try.ntmps74
  go_wp2_with (go_at_call 79; refine (HH.out _ hr).mono ?_; rintro e w2 ⟨hb2, A', c', rfl, -⟩)
  go_ret3
  exact ⟨rfl, hb2⟩

set_option maxRecDepth 100000 in
set_option maxHeartbeats 1000000 in
theorem check_parse (A : Option Addr) (n c : Nat) (a : List Int) (w : World) (hr : Reads w w.heap.size 1 A n (a.map (.int .u64))) (hnc : n ≤ c) (ha : ∀ x ∈ a, (Lit.int .u64 x).wf = true) (hE : spotsE a = 0) :
    Calls Try.prog 74 #[.slice A n c] w fun e w' => Below w.heap.size w w' ∧ ((refsOk (spotsL a) a = false ∧ e = .returned (.tuple #[.slice none 0 0, .map none, .int .i64 5])) ∨
      (refsOk (spotsL a) a = true ∧ ∃ A' c' b, e = .returned (.tuple #[.slice A' (spotsL a).length c', .map (some b), .int .i64 0]) ∧ w.heap.size ≤ b ∧ w'.ownsRow w.heap.size 146 5 (.slice A' (spotsL a).length c') (spotsL a).length (spotsC (spotsL a)) ∧ MapIs w' Try.prog 37 .u64 b 300 (placeV (spotsL a)))) := by
  have H := fun w hr => spots_any A n c a w hr ha
  obtain ⟨hlen, hP⟩ := parse_ok hE
  have hrise := spots_rise hE
  have hbnd := spots_bounds hE
  rw [hE] at H
  have HH := Lib.hid H
  have hal : a.length = n := by have := hr.1; simpa using this
  have hn : n ≤ 256 := by omega
  have hm256 := spotsL_length a
  generalize spotsL a = l at *
  have HS := Lib.hid (fun s hs => (parse_mem hP s hs).1)
  have HPl := Lib.hid (fun A n c w hr hn => places_any A n c l w hr hn hrise hbnd)
  clear H hP hE hal hlen hrise hbnd
  go_enter Try.func74, Try.ntmps74
  go_wp2_with (go_at_call 79; refine (HH.out _ hr).mono ?_; rintro e w1 ⟨hb1, A', c', rfl, hown⟩)
  have hrl := Reads.of_own hown
  obtain ⟨m, hm⟩ : ∃ m, m = l.length := ⟨_, rfl⟩
  rw [← hm] at hrl hm256 hown
  rw [← hm]
  have HM := Lib.hid hm
  clear hm
  go_wp2_with fail
  refine (HPl.out _ _ _ _ hrl hm256).mono ?_
  rintro e w2 ⟨hb2, b, rfl, hbb, hMp⟩
  have hown2 := own_below hown hb2
  have hrl2 := (hrl.below hb2).more hb2.size
  have hb02 := below_step hb1 hb2
  have hbw : w.heap.size ≤ b := Nat.le_trans hb1.size hbb
  have hblt := hMp.lt
  clear hown hrl hb1 hb2 hbb
  go_wp2
  go_loopw [26] (fun i wr => ∃ j : Nat, j ≤ m ∧ i = .int .i64 j ∧ Below w2.heap.size w2 wr ∧ Hid (∀ s ∈ l.take j, (refsOf a s).all (fun v => (placeF l v).isSome) = true)) (fun i _ => m - (intOf i).toNat)
  case atStart => exact ⟨0, Nat.zero_le _, rfl, Below.refl _ _, by intro s hs; simp at hs⟩
  case round =>
    obtain ⟨j, hj, rfl, hb, hD⟩ := hrel
    by_cases hlt : j < m
    · obtain ⟨ad, s, rfl, had, hs, c0, c1, c2, c3, c4⟩ := (hrl2.below hb).spot hlt
      have hok := HS.out s (List.mem_of_getElem? hs)
      have hbw2 := hb02.trans (hb.mono hb02.size)
      have HT : Hid (l.take (j + 1) = l.take j ++ [s]) := by
        show _ = _
        obtain ⟨h1, rfl⟩ := List.getElem?_eq_some_iff.1 hs
        exact List.take_succ_eq_append_getElem h1
      have HSM : Hid (s ∈ l) := List.mem_of_getElem? hs
      have hb0 := hb.alloc hb.size (.cells (spotC s).toArray 146)
      have hbw0 := hbw2.alloc hbw2.size (.cells (spotC s).toArray 146)
      have HR := Lib.hid (refs_any A n c _ a s _ ((hr.below hbw0).more hbw0.size) (Nat.le_refl _) hnc hn hok)
      have hr0 := hok.r0
      have HF := Lib.hid (refsOf_length hok)
      have hr256 : s.r.toNat ≤ 256 := by have h1 := hok.fit256; unfold Spot.long at h1; have := hok.b0; omega
      clear hs hok hb hbw2
      have HRef : Hid (∃ rs, rs = refsOf a s) := ⟨_, rfl⟩
      go_wp2_with fail
      refine HR.out.mono ?_
      rintro e w3 ⟨hb3, A3, c3, rfl, hc3, hrr⟩
      have hb13 := hb0.trans (hb3.mono hb0.size)
      obtain ⟨q, hq⟩ : ∃ q, q = s.r.toNat := ⟨_, rfl⟩
      rw [← hq] at hrr hr256 hc3
      rw [← hq]
      have HQ := Lib.hid hq
      obtain ⟨rs, hrs⟩ : ∃ rs, rs = refsOf a s := ⟨_, rfl⟩
      rw [← hrs] at hrr
      have HRS := Lib.hid hrs
      have hrr' := hrr.more hb3.size
      have hb03 := hbw0.trans (hb3.mono hbw0.size)
      have hMr := hMp.below hb13 hblt
      have hbl3 : b < w3.heap.size := hMr.lt
      obtain ⟨wo, rfl⟩ : ∃ wo : World, wo = wr := ⟨_, rfl⟩
      clear hb0 hbw0 hb3 hrr hq hrs hr0
      go_wp2
      go_loopw [11, 34] (fun _ i wr => ∃ p : Nat, p ≤ q ∧ i = .int .i64 p ∧ Below w3.heap.size w3 wr ∧ Hid (∀ v ∈ rs.take p, (placeF l v).isSome = true)) (fun _ i _ => q - (intOf i).toNat)
      case atStart => exact ⟨0, Nat.zero_le _, rfl, Below.refl _ _, by intro s hs; simp at hs⟩
      case round =>
        obtain ⟨p, hp, rfl, hb, hD2⟩ := hrel
        by_cases hlt2 : p < q
        · obtain ⟨ad3, v, rfl, had3, hv, hc⟩ := (hrr'.below hb).num hlt2
          have hvm : v ∈ a := by
            have := List.mem_of_getElem? hv
            rw [HRS.out] at this
            unfold refsOf at this
            exact List.mem_of_mem_drop (List.mem_of_mem_take this)
          have hvw := ha v hvm
          have hlook := (hMr.below hb hbl3).look_ok Try.underlying37 Try.underlying141 (zero_int _) hvw
          have hpv : (placeV l v).isSome = (placeF l v).isSome := by unfold placeV; rw [Option.isSome_map]
          rw [hpv] at hlook
          have HV := Lib.hid hv
          clear hv hvm hvw hpv
          generalize hgd : (placeV l v).getD (.int .i64 0) = gd at hlook
          clear hgd
          cases hsome : (placeF l v).isSome
          · rw [hsome] at hlook
            have HSo := Lib.hid hsome
            clear hsome
            go_wp2
            go_ret3
            refine ⟨hb03.trans (hb.mono hb03.size), .inl ⟨?_, rfl⟩⟩
            unfold refsOk
            rw [List.all_eq_false]
            refine ⟨s, HSM.out, ?_⟩
            rw [Bool.not_eq_true, List.all_eq_false]
            exact ⟨v, by rw [← HRS.out]; exact List.mem_of_getElem? HV.out, by rw [HSo.out]; decide⟩
          · rw [hsome] at hlook
            have HSo := Lib.hid hsome
            clear hsome
            go_wp2
            go_roundw
            case rel => exact ⟨p + 1, by omega, by go_num, hb, fun x hx => by
              rcases take_succ_mem HV.out x hx with h | rfl
              · exact hD2.out x h
              · exact HSo.out⟩
            case measure => simp [intOf]; omega
        · have hpq : p = q := by omega
          subst hpq
          have HA : Hid (∀ x ∈ l.take (j + 1), (refsOf a x).all (fun v => (placeF l v).isSome) = true) := by
            intro x hx
            rw [HT.out, List.mem_append, List.mem_singleton] at hx
            rcases hx with hx | rfl
            · exact hD.out x hx
            · rw [List.all_eq_true]
              intro v hv
              refine hD2.out v ?_
              rw [← HRS.out] at hv
              rw [List.take_of_length_le (by rw [HRS.out, HF.out, ← HQ.out]; exact Nat.le_refl _)]
              exact hv
          have hb15 := hb13.trans (hb.mono hb13.size)
          clear hD2 hb
          go_wp2
          go_roundw
          case rel => exact ⟨j + 1, by omega, by go_num, hb15, HA⟩
          case measure => simp [intOf]; omega
    · have hjm : j = m := by omega
      subst hjm
      have HA : Hid (refsOk l a = true) := by
        show _ = _
        unfold refsOk
        rw [List.all_eq_true]
        intro s hs
        exact hD.out s (by rw [List.take_of_length_le (by rw [← HM.out]; exact Nat.le_refl _)]; exact hs)
      have hown3 := own_below hown2 hb
      have hM3 := hMp.below hb hblt
      clear hD
      go_wp2
      go_ret3
      have e := HM.out
      subst e
      exact ⟨hb02.trans (hb.mono hb02.size), .inr ⟨HA.out, A', c', b, rfl, hbw, hown3, hM3⟩⟩

theorem refsOk_false {a : List Int} (h0 : spotsE a = 0) (h : refsOk (spotsL a) a = false) : checkE a = 5 := by
  unfold checkE
  rw [if_neg (by simp [h0]), if_neg (by simp [h])]
theorem refsOk_true {a : List Int} (h0 : spotsE a = 0) (h : refsOk (spotsL a) a = true) : checkE a = 0 := checkE_ok.2 ⟨h0, h⟩

theorem check_bad (A : Option Addr) (n c : Nat) (a : List Int) (w : World) (hr : Reads w w.heap.size 1 A n (a.map (.int .u64))) (hnc : n ≤ c) (ha : ∀ x ∈ a, (Lit.int .u64 x).wf = true) (hE : checkE a ≠ 0) :
    Calls Try.prog 74 #[.slice A n c] w fun e w' => e = .returned (.tuple #[.slice none 0 0, .map none, .int .i64 (checkE a)]) ∧ Below w.heap.size w w' := by
  by_cases h0 : spotsE a = 0
  · refine (check_parse A n c a w hr hnc ha h0).mono ?_
    rintro e w' ⟨hb, ⟨h1, h2⟩ | ⟨h1, _⟩⟩
    · rw [refsOk_false h0 h1]
      exact ⟨h2, hb⟩
    · exact absurd (refsOk_true h0 h1) hE
  · exact check_bad0 A n c a w hr ha h0

theorem check_ok (A : Option Addr) (n c : Nat) (a : List Int) (w : World) (hr : Reads w w.heap.size 1 A n (a.map (.int .u64))) (hnc : n ≤ c) (ha : ∀ x ∈ a, (Lit.int .u64 x).wf = true) (hE : checkE a = 0) :
    Calls Try.prog 74 #[.slice A n c] w fun e w' => Below w.heap.size w w' ∧ ∃ A' c' b, e = .returned (.tuple #[.slice A' (spotsL a).length c', .map (some b), .int .i64 0]) ∧ w.heap.size ≤ b ∧ w'.ownsRow w.heap.size 146 5 (.slice A' (spotsL a).length c') (spotsL a).length (spotsC (spotsL a)) ∧ MapIs w' Try.prog 37 .u64 b 300 (placeV (spotsL a)) := by
  obtain ⟨h0, h1⟩ := checkE_ok.1 hE
  refine (check_parse A n c a w hr hnc ha h0).mono ?_
  rintro e w' ⟨hb, ⟨h2, _⟩ | ⟨_, h2⟩⟩
  · rw [h1] at h2; cases h2
  · exact ⟨hb, h2⟩

set_option maxHeartbeats 400000 in
theorem checkFn_any (A : Option Addr) (n c : Nat) (a : List Int) (w : World) (hr : Reads w w.heap.size 1 A n (a.map (.int .u64))) (hnc : n ≤ c) (ha : ∀ x ∈ a, (Lit.int .u64 x).wf = true) :
    Calls Try.prog 58 #[.slice A n c] w fun e w' => e = .returned (.int .i64 (checkE a)) ∧ Below w.heap.size w w' := by
  by_cases hE : checkE a = 0
  · have H := Lib.hid (check_ok A n c a w hr hnc ha hE)
    rw [hE]
    clear hE
    go_enter Try.func58, Try.ntmps58
    go_wp2_with fail
    refine H.out.mono ?_
    rintro e w1 ⟨hb, A', c', b, rfl, -, -, -⟩
    go_wp2
    go_ret
    exact ⟨rfl, hb⟩
  · have H := Lib.hid (check_bad A n c a w hr hnc ha hE)
    generalize checkE a = E at *
    clear hE
    go_enter Try.func58, Try.ntmps58
    go_wp2_with fail
    refine H.out.mono ?_
    rintro e w1 ⟨rfl, hb⟩
    go_wp2
    go_ret
    exact ⟨rfl, hb⟩
end Go.Proofs.Ytbmkbnalembbjaa
