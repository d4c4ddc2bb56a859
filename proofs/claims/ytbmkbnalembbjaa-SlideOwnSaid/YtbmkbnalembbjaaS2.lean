/-
  Texts joined: Check CloneInt TintHeap OwnI TintEach TintAdd.
-/
import Derived.Test.YtbmkbnalembbjaaRows
import Derived.Deep.RegionHeld3
import Derived.StillTailTactics
import Derived.IntWalk
import Derived.OwnWalkIn
import Derived.BigQuiet
import Derived.Test.YtbmkbnalembbjaaS0
import Derived.Test.YtbmkbnalembbjaaS1
namespace Go.Proofs.Ytbmkbnalembbjaa
open Go.RowKit
def spotV (s : Spot) : Value := .agg #[.int .i64 s.loc, .int .i64 s.r, .int .i64 s.b, .int .i64 s.t, .bool s.f]
set_option maxHeartbeats 400000 in
theorem refs_any (A : Option Addr) (n c B : Nat) (a : List Int) (s : Spot) (w : World) (hr : Reads w B 1 A n (a.map (.int .u64))) (hB : B ≤ w.heap.size) (hc : n ≤ c) (hn : n ≤ 256) (hs : SpotOk a s) :
    Calls Try.prog 95 #[.slice A n c, .agg #[.int .i64 s.loc, .int .i64 s.r, .int .i64 s.b, .int .i64 s.t, .bool s.f]] w fun e w' => Below w.heap.size w w' ∧ ∃ A' c', e = .returned (.slice A' s.r.toNat c') ∧ s.r.toNat ≤ c' ∧ Reads w' B 1 A' s.r.toNat ((refsOf a s).map (.int .u64)) := by
  have hal : a.length = n := by have := hr.1; simpa using this
  have l0 := hs.loc0
  have r0 := hs.r0
  have b0 := hs.b0
  have ft := hs.fits
  clear hs
  obtain ⟨loc, r, b, t, f⟩ := s
  simp only [Spot.long] at ft l0 r0 b0 ⊢
  obtain ⟨i, rfl⟩ := Int.eq_ofNat_of_zero_le l0
  obtain ⟨k, rfl⟩ := Int.eq_ofNat_of_zero_le r0
  rw [hal] at ft
  have HS := Lib.hid (hr.sub (lo := i + 1) (hi := i + 1 + k) (by omega) (by omega) hc)
  have hpos : 0 < n := by omega
  obtain ⟨ad, rfl, had, -⟩ := hr.2 hpos
  rw [Int.toNat_natCast]
  have ek : ∀ (A : Option Addr) (c : Nat), Ending.returned (.slice A (i + 1 + k - (i + 1)) c) = .returned (.slice A k c) := fun A c => by rw [show i + 1 + k - (i + 1) = k by omega]
  have EK := Lib.hid ek
  clear ek
  have HR : Hid ((refsOf a ⟨i, k, b, t, f⟩).map (Value.int .u64) = ((a.map (Value.int .u64)).drop (i + 1)).take (i + 1 + k - (i + 1))) := by
    show _ = _
    simp only [refsOf, Int.toNat_natCast, List.map_take, List.map_drop]
    rw [show i + 1 + k - (i + 1) = k by omega]
  have h1 : i + 1 + k ≤ n := by omega
  clear hal hr l0 r0
  by_cases hci : c = i + 1
  · have HS := HS.out
    rw [if_pos hci, ← HR.out, show i + 1 + k - (i + 1) = k by omega] at HS
    have HS := Lib.hid (HS.alloc hB (.cells #[.int .i64 i, .int .i64 k, .int .i64 b, .int .i64 t, .bool f] 146))
    go_enter Try.func95, Try.ntmps95
    go_wp2
    go_ret
    exact ⟨below_new _ _, _, _, EK.out _ _, by omega, HS.out⟩
  · have HS := HS.out
    rw [if_neg hci, ← HR.out, show i + 1 + k - (i + 1) = k by omega] at HS
    have HS := Lib.hid (HS.alloc hB (.cells #[.int .i64 i, .int .i64 k, .int .i64 b, .int .i64 t, .bool f] 146))
    go_enter Try.func95, Try.ntmps95
    go_wp2
    go_ret
    exact ⟨below_new _ _, _, _, EK.out _ _, by omega, HS.out⟩
theorem zero_int (w : World) : (zeroValue 3).run Try.prog w = .ok (.int .i64 0) w := by kernel_rfl
set_option maxRecDepth 100000 in
set_option maxHeartbeats 1000000 in
theorem places_any (A : Option Addr) (n c : Nat) (l : List Spot) (w : World) (hr : Reads w w.heap.size 5 A n (spotsC l)) (hn : n ≤ 256) (hl : l.Pairwise (fun s t => s.loc < t.loc)) (hb : ∀ s ∈ l, 0 ≤ s.loc ∧ s.loc ≤ 256) :
    Calls Try.prog 94 #[.slice A n c] w fun e w' => Below w.heap.size w w' ∧ ∃ b, e = .returned (.map (some b)) ∧ w.heap.size ≤ b ∧ MapIs w' Try.prog 37 .u64 b 300 (placeV l) := by
  have hll : l.length = n := by have := hr.1; rw [spotsC_length] at this; omega
  have HL := Lib.hid hll
  have HO := Lib.hid hl
  have HB := Lib.hid hb
  clear hll hl hb
  obtain ⟨w1, hins, hM, hg1⟩ := (MapIs.made w Try.prog 37 .u64).store (k := 37) (t := 141) Try.underlying37 Try.underlying141 (by decide) (x := 0) (by decide) (.int .i64 (-1))
  rw [← placeV_nil] at hM
  have hb1 : Below w.heap.size w w1 := (below_new w _).grown hg1 (by simp) (by simp)
  have HM := Lib.hid (hM.mono (show 0 + 1 ≤ 1 by omega))
  clear hM
  have hmm := @run_makeMap Try.prog
  go_enter Try.func94, Try.ntmps94
  go_wp2
  clear hins
  go_loopw [4, 5, 10] (fun _ _ i wr => ∃ j : Nat, j ≤ n ∧ i = .int .i64 j ∧ MapIs wr Try.prog 37 .u64 w.heap.size (j + 1) (placeV (l.take j)) ∧ Below w.heap.size w wr) (fun _ _ i _ => n - (intOf i).toNat)
  case atStart => exact ⟨0, Nat.zero_le _, rfl, HM.out, hb1⟩
  case round =>
    obtain ⟨j, hj, rfl, hM, hb⟩ := hrel
    by_cases hlt : j < n
    · obtain ⟨ad, s, rfl, had, hs, c0, c1, c2, c3, c4⟩ := (hr.below hb).spot hlt
      have hq := HB.out s (List.mem_of_getElem? hs)
      have HT : Hid (l.take (j + 1) = l.take j ++ [s]) := by
        show _ = _
        obtain ⟨h1, rfl⟩ := List.getElem?_eq_some_iff.1 hs
        exact List.take_succ_eq_append_getElem h1
      have HJ : Hid (∀ x ∈ l.take j, x.loc < s.loc) := by
        intro x hx
        rw [List.mem_take_iff_getElem] at hx
        obtain ⟨k, hk, rfl⟩ := hx
        obtain ⟨h1, rfl⟩ := List.getElem?_eq_some_iff.1 hs
        exact List.pairwise_iff_getElem.1 HO.out k j (by omega) h1 (by omega)
      obtain ⟨loc, r, b, t, f⟩ := s
      dsimp only at c0 c1 c2 c3 c4 hq
      have hM0 := hM.alloc (.cells #[.int .i64 loc, .int .i64 r, .int .i64 b, .int .i64 t, .bool f] 146)
      have hb0 := hb.alloc hb.size (.cells #[.int .i64 loc, .int .i64 r, .int .i64 b, .int .i64 t, .bool f] 146)
      clear hM hs
      cases f
      · have hlen : (l.take j).length = j := by rw [List.length_take, HL.out]; omega
        have hP := placeV_snoc (l := l.take j) (s := ⟨loc, r, b, t, false⟩) rfl hq.1 HJ.out
        rw [← HT.out, hlen] at hP
        obtain ⟨w2, hupd, hM2, hg2⟩ := hM0.store (k := 37) (t := 141) Try.underlying37 Try.underlying141 (by unfold maxLen; omega) (x := loc + 1) (by simp [Lit.wf, IntKind.min, IntKind.max, IntKind.signed, IntKind.bits]; omega) (.int .i64 j)
        rw [← hP] at hM2
        have HM2 := Lib.hid hM2
        have hb2 := hb0.grown hg2 hb0.size (by simp)
        clear hP hlen hM2 hM0 hb0
        obtain ⟨q0, q1⟩ := hq
        go_wp2
        go_roundw
        case rel => exact ⟨j + 1, by omega, by go_num, HM2.out, hb2⟩
        case measure => simp [intOf]; omega
      · have HP : Hid (placeV (l.take (j + 1)) = placeV (l.take j)) := by show _ = _; rw [HT.out]; exact placeV_free rfl
        go_wp2
        go_roundw
        case rel => exact ⟨j + 1, by omega, by go_num, by rw [HP.out]; exact hM0.mono (by omega), hb0⟩
        case measure => simp [intOf]; omega
    · have hjn : j = n := by omega
      subst hjn
      rw [List.take_of_length_le (by rw [HL.out]; exact Nat.le_refl _)] at hM
      go_wp2
      go_ret
      exact ⟨hb, _, rfl, Nat.le_refl _, hM.mono (by omega)⟩
theorem spots_bounds {a : List Int} (h : spotsE a = 0) : ∀ s ∈ spotsL a, 0 ≤ s.loc ∧ s.loc ≤ 256 := by
  intro s hs
  obtain ⟨hlen, hp⟩ := parse_ok h
  have := (parse_mem hp s hs).1
  have h1 := this.loc0
  have h2 := this.fits
  have h3 := this.r0
  have h4 := this.b0
  unfold Spot.long at h2
  omega
set_option maxHeartbeats 400000 in
theorem check_bad0 (A : Option Addr) (n c : Nat) (a : List Int) (w : World) (hr : Reads w w.heap.size 1 A n (a.map (.int .u64))) (ha : ∀ x ∈ a, (Lit.int .u64 x).wf = true) (hE : spotsE a ≠ 0) :
    Calls Try.prog 74 #[.slice A n c] w fun e w' => e = .returned (.tuple #[.slice none 0 0, .map none, .int .i64 (checkE a)]) ∧ Below w.heap.size w w' := by
  have H := fun w hr => spots_any A n c a w hr ha
  rw [spotsL_bad hE] at H
  have HH := Lib.hid H
  have hc : checkE a = spotsE a := by unfold checkE; rw [if_pos hE]
  rw [hc]
  clear H hc
  generalize spotsE a = E at *
  have hE1 : (E != 0) = true := by simpa using hE
  go_enter Try.func74, Try.ntmps74
  go_wp2_with (go_at_call 79; refine (HH.out _ hr).mono ?_; rintro e w2 ⟨hb2, A', c', rfl, -⟩)
  go_ret3
  exact ⟨rfl, hb2⟩
set_option maxRecDepth 100000 in
set_option maxHeartbeats 1000000 in
theorem check_parse (A : Option Addr) (n c : Nat) (a : List Int) (w : World) (hr : Reads w w.heap.size 1 A n (a.map (.int .u64))) (hnc : n ≤ c) (ha : ∀ x ∈ a, (Lit.int .u64 x).wf = true) (hE : spotsE a = 0) :
    Calls Try.prog 74 #[.slice A n c] w fun e w' => Below w.heap.size w w' ∧ ((refsOk (spotsL a) a = false ∧ e = .returned (.tuple #[.slice none 0 0, .map none, .int .i64 5])) ∨
      (refsOk (spotsL a) a = true ∧ ∃ A' c' b, e = .returned (.tuple #[.slice A' (spotsL a).length c', .map (some b), .int .i64 0]) ∧ w.heap.size ≤ b ∧ w'.ownsRow w.heap.size 146 5 (.slice A' (spotsL a).length c') (spotsL a).length (spotsC (spotsL a)) ∧ MapIs w' Try.prog 37 .u64 b 300 (placeV (spotsL a)))) := by
  have H := fun w hr => spots_any A n c a w hr ha
  obtain ⟨hlen, hP⟩ := parse_ok hE
  have hrise := spots_rise hE
  have hbnd := spots_bounds hE
  rw [hE] at H
  have HH := Lib.hid H
  have hal : a.length = n := by have := hr.1; simpa using this
  have hn : n ≤ 256 := by omega
  have hm256 := spotsL_length a
  generalize spotsL a = l at *
  have HS := Lib.hid (fun s hs => (parse_mem hP s hs).1)
  have HPl := Lib.hid (fun A n c w hr hn => places_any A n c l w hr hn hrise hbnd)
  clear H hP hE hal hlen hrise hbnd
  go_enter Try.func74, Try.ntmps74
  go_wp2_with (go_at_call 79; refine (HH.out _ hr).mono ?_; rintro e w1 ⟨hb1, A', c', rfl, hown⟩)
  have hrl := Reads.of_own hown
  obtain ⟨m, hm⟩ : ∃ m, m = l.length := ⟨_, rfl⟩
  rw [← hm] at hrl hm256 hown
  rw [← hm]
  have HM := Lib.hid hm
  clear hm
  go_wp2_with fail
  refine (HPl.out _ _ _ _ hrl hm256).mono ?_
  rintro e w2 ⟨hb2, b, rfl, hbb, hMp⟩
  have hown2 := own_below hown hb2
  have hrl2 := (hrl.below hb2).more hb2.size
  have hb02 := below_step hb1 hb2
  have hbw : w.heap.size ≤ b := Nat.le_trans hb1.size hbb
  have hblt := hMp.lt
  clear hown hrl hb1 hb2 hbb
  go_wp2
  go_loopw [26] (fun i wr => ∃ j : Nat, j ≤ m ∧ i = .int .i64 j ∧ Below w2.heap.size w2 wr ∧ Hid (∀ s ∈ l.take j, (refsOf a s).all (fun v => (placeF l v).isSome) = true)) (fun i _ => m - (intOf i).toNat)
  case atStart => exact ⟨0, Nat.zero_le _, rfl, Below.refl _ _, by intro s hs; simp at hs⟩
  case round =>
    obtain ⟨j, hj, rfl, hb, hD⟩ := hrel
    by_cases hlt : j < m
    · obtain ⟨ad, s, rfl, had, hs, c0, c1, c2, c3, c4⟩ := (hrl2.below hb).spot hlt
      have hok := HS.out s (List.mem_of_getElem? hs)
      have hbw2 := hb02.trans (hb.mono hb02.size)
      have HT : Hid (l.take (j + 1) = l.take j ++ [s]) := by
        show _ = _
        obtain ⟨h1, rfl⟩ := List.getElem?_eq_some_iff.1 hs
        exact List.take_succ_eq_append_getElem h1
      have HSM : Hid (s ∈ l) := List.mem_of_getElem? hs
      have hb0 := hb.alloc hb.size (.cells (spotC s).toArray 146)
      have hbw0 := hbw2.alloc hbw2.size (.cells (spotC s).toArray 146)
      have HR := Lib.hid (refs_any A n c _ a s _ ((hr.below hbw0).more hbw0.size) (Nat.le_refl _) hnc hn hok)
      have hr0 := hok.r0
      have HF := Lib.hid (refsOf_length hok)
      have hr256 : s.r.toNat ≤ 256 := by have h1 := hok.fit256; unfold Spot.long at h1; have := hok.b0; omega
      clear hs hok hb hbw2
      have HRef : Hid (∃ rs, rs = refsOf a s) := ⟨_, rfl⟩
      go_wp2_with fail
      refine HR.out.mono ?_
      rintro e w3 ⟨hb3, A3, c3, rfl, hc3, hrr⟩
      have hb13 := hb0.trans (hb3.mono hb0.size)
      obtain ⟨q, hq⟩ : ∃ q, q = s.r.toNat := ⟨_, rfl⟩
      rw [← hq] at hrr hr256 hc3
      rw [← hq]
      have HQ := Lib.hid hq
      obtain ⟨rs, hrs⟩ : ∃ rs, rs = refsOf a s := ⟨_, rfl⟩
      rw [← hrs] at hrr
      have HRS := Lib.hid hrs
      have hrr' := hrr.more hb3.size
      have hb03 := hbw0.trans (hb3.mono hbw0.size)
      have hMr := hMp.below hb13 hblt
      have hbl3 : b < w3.heap.size := hMr.lt
      obtain ⟨wo, rfl⟩ : ∃ wo : World, wo = wr := ⟨_, rfl⟩
      clear hb0 hbw0 hb3 hrr hq hrs hr0
      go_wp2
      go_loopw [11, 34] (fun _ i wr => ∃ p : Nat, p ≤ q ∧ i = .int .i64 p ∧ Below w3.heap.size w3 wr ∧ Hid (∀ v ∈ rs.take p, (placeF l v).isSome = true)) (fun _ i _ => q - (intOf i).toNat)
      case atStart => exact ⟨0, Nat.zero_le _, rfl, Below.refl _ _, by intro s hs; simp at hs⟩
      case round =>
        obtain ⟨p, hp, rfl, hb, hD2⟩ := hrel
        by_cases hlt2 : p < q
        · obtain ⟨ad3, v, rfl, had3, hv, hc⟩ := (hrr'.below hb).num hlt2
          have hvm : v ∈ a := by
            have := List.mem_of_getElem? hv
            rw [HRS.out] at this
            unfold refsOf at this
            exact List.mem_of_mem_drop (List.mem_of_mem_take this)
          have hvw := ha v hvm
          have hlook := (hMr.below hb hbl3).look_ok Try.underlying37 Try.underlying141 (zero_int _) hvw
          have hpv : (placeV l v).isSome = (placeF l v).isSome := by unfold placeV; rw [Option.isSome_map]
          rw [hpv] at hlook
          have HV := Lib.hid hv
          clear hv hvm hvw hpv
          generalize hgd : (placeV l v).getD (.int .i64 0) = gd at hlook
          clear hgd
          cases hsome : (placeF l v).isSome
          · rw [hsome] at hlook
            have HSo := Lib.hid hsome
            clear hsome
            go_wp2
            go_ret3
            refine ⟨hb03.trans (hb.mono hb03.size), .inl ⟨?_, rfl⟩⟩
            unfold refsOk
            rw [List.all_eq_false]
            refine ⟨s, HSM.out, ?_⟩
            rw [Bool.not_eq_true, List.all_eq_false]
            exact ⟨v, by rw [← HRS.out]; exact List.mem_of_getElem? HV.out, by rw [HSo.out]; decide⟩
          · rw [hsome] at hlook
            have HSo := Lib.hid hsome
            clear hsome
            go_wp2
            go_roundw
            case rel => exact ⟨p + 1, by omega, by go_num, hb, fun x hx => by
              rcases take_succ_mem HV.out x hx with h | rfl
              · exact hD2.out x h
              · exact HSo.out⟩
            case measure => simp [intOf]; omega
        · have hpq : p = q := by omega
          subst hpq
          have HA : Hid (∀ x ∈ l.take (j + 1), (refsOf a x).all (fun v => (placeF l v).isSome) = true) := by
            intro x hx
            rw [HT.out, List.mem_append, List.mem_singleton] at hx
            rcases hx with hx | rfl
            · exact hD.out x hx
            · rw [List.all_eq_true]
              intro v hv
              refine hD2.out v ?_
              rw [← HRS.out] at hv
              rw [List.take_of_length_le (by rw [HRS.out, HF.out, ← HQ.out]; exact Nat.le_refl _)]
              exact hv
          have hb15 := hb13.trans (hb.mono hb13.size)
          clear hD2 hb
          go_wp2
          go_roundw
          case rel => exact ⟨j + 1, by omega, by go_num, hb15, HA⟩
          case measure => simp [intOf]; omega
    · have hjm : j = m := by omega
      subst hjm
      have HA : Hid (refsOk l a = true) := by
        show _ = _
        unfold refsOk
        rw [List.all_eq_true]
        intro s hs
        exact hD.out s (by rw [List.take_of_length_le (by rw [← HM.out]; exact Nat.le_refl _)]; exact hs)
      have hown3 := own_below hown2 hb
      have hM3 := hMp.below hb hblt
      clear hD
      go_wp2
      go_ret3
      have e := HM.out
      subst e
      exact ⟨hb02.trans (hb.mono hb02.size), .inr ⟨HA.out, A', c', b, rfl, hbw, hown3, hM3⟩⟩
theorem refsOk_false {a : List Int} (h0 : spotsE a = 0) (h : refsOk (spotsL a) a = false) : checkE a = 5 := by
  unfold checkE
  rw [if_neg (by simp [h0]), if_neg (by simp [h])]
theorem refsOk_true {a : List Int} (h0 : spotsE a = 0) (h : refsOk (spotsL a) a = true) : checkE a = 0 := checkE_ok.2 ⟨h0, h⟩
theorem check_bad (A : Option Addr) (n c : Nat) (a : List Int) (w : World) (hr : Reads w w.heap.size 1 A n (a.map (.int .u64))) (hnc : n ≤ c) (ha : ∀ x ∈ a, (Lit.int .u64 x).wf = true) (hE : checkE a ≠ 0) :
    Calls Try.prog 74 #[.slice A n c] w fun e w' => e = .returned (.tuple #[.slice none 0 0, .map none, .int .i64 (checkE a)]) ∧ Below w.heap.size w w' := by
  by_cases h0 : spotsE a = 0
  · refine (check_parse A n c a w hr hnc ha h0).mono ?_
    rintro e w' ⟨hb, ⟨h1, h2⟩ | ⟨h1, _⟩⟩
    · rw [refsOk_false h0 h1]
      exact ⟨h2, hb⟩
    · exact absurd (refsOk_true h0 h1) hE
  · exact check_bad0 A n c a w hr ha h0
theorem check_ok (A : Option Addr) (n c : Nat) (a : List Int) (w : World) (hr : Reads w w.heap.size 1 A n (a.map (.int .u64))) (hnc : n ≤ c) (ha : ∀ x ∈ a, (Lit.int .u64 x).wf = true) (hE : checkE a = 0) :
    Calls Try.prog 74 #[.slice A n c] w fun e w' => Below w.heap.size w w' ∧ ∃ A' c' b, e = .returned (.tuple #[.slice A' (spotsL a).length c', .map (some b), .int .i64 0]) ∧ w.heap.size ≤ b ∧ w'.ownsRow w.heap.size 146 5 (.slice A' (spotsL a).length c') (spotsL a).length (spotsC (spotsL a)) ∧ MapIs w' Try.prog 37 .u64 b 300 (placeV (spotsL a)) := by
  obtain ⟨h0, h1⟩ := checkE_ok.1 hE
  refine (check_parse A n c a w hr hnc ha h0).mono ?_
  rintro e w' ⟨hb, ⟨h2, _⟩ | ⟨_, h2⟩⟩
  · rw [h1] at h2; cases h2
  · exact ⟨hb, h2⟩
set_option maxHeartbeats 400000 in
theorem checkFn_any (A : Option Addr) (n c : Nat) (a : List Int) (w : World) (hr : Reads w w.heap.size 1 A n (a.map (.int .u64))) (hnc : n ≤ c) (ha : ∀ x ∈ a, (Lit.int .u64 x).wf = true) :
    Calls Try.prog 58 #[.slice A n c] w fun e w' => e = .returned (.int .i64 (checkE a)) ∧ Below w.heap.size w w' := by
  by_cases hE : checkE a = 0
  · have H := Lib.hid (check_ok A n c a w hr hnc ha hE)
    rw [hE]
    clear hE
    go_enter Try.func58, Try.ntmps58
    go_wp2_with fail
    refine H.out.mono ?_
    rintro e w1 ⟨hb, A', c', b, rfl, -, -, -⟩
    go_wp2
    go_ret
    exact ⟨rfl, hb⟩
  · have H := Lib.hid (check_bad A n c a w hr hnc ha hE)
    generalize checkE a = E at *
    clear hE
    go_enter Try.func58, Try.ntmps58
    go_wp2_with fail
    refine H.out.mono ?_
    rintro e w1 ⟨rfl, hb⟩
    go_wp2
    go_ret
    exact ⟨rfl, hb⟩
end Go.Proofs.Ytbmkbnalembbjaa

namespace Go.Proofs.Ytbmkbnalembbjaa
open Go.RowKit
theorem info_int : (Try.prog.info? 3).map (fun i => (i.zero, i.size, i.bytes)) = some (some (.int .i64 0), 1, 8) := by kernel_rfl
set_option maxHeartbeats 400000 in
theorem clone_int (A : Option Addr) (n c B : Nat) (xs : List Value) (w : World) (hr : Reads w B 1 A n xs) (hB : B ≤ w.heap.size) (h1 : ∀ u ∈ xs, u.oneCell' = true) (hn : n * 8 ≤ 140737488355328) :
    Calls Try.prog 25 #[.slice A n c] w fun e w' => ∃ A' c', e = .returned (.slice A' n c') ∧ w'.ownsRow w.heap.size 3 1 (.slice A' n c') n xs ∧ Below w.heap.size w w' := by
  obtain ⟨i0, hi, hz0, hz1, hz2⟩ := info_parts info_int
  rcases A with _ | ad
  · have hm : n = 0 := by
      rcases Nat.eq_zero_or_pos n with h0 | h0
      · exact h0
      · obtain ⟨ad, h, _⟩ := hr.2 h0
        cases h
    subst hm
    have hx : xs = [] := List.eq_nil_of_length_eq_zero (by simpa using hr.1)
    subst hx
    have hnil := fun (w : World) => Lib.run_eql_slice_nil (P := Try.prog) w 24 3 none 0 c 0 0 Try.underlying24
    go_enter Try.func25, Try.ntmps25
    go_wp2
    go_ret
    exact ⟨none, 0, rfl, World.ownsRow_nil _ _ _ _, Below.refl _ _⟩
  · have hnil := fun (w : World) => Lib.run_eql_slice_nil (P := Try.prog) w 24 3 (some ad) n c 0 0 Try.underlying24
    have hmade := World.ownsRow_made (e := 3) (size := 1) w #[] 0 (Nat.le_refl w.heap.size) (Nat.zero_le _) rfl
    go_enter Try.func25, Try.ntmps25
    go_wp2_with (at_builtin; refine wpList_append_any _ rfl (.tmp 5) (.tmp 6) 24 rfl w.heap.size 3 i0 (.int .i64 0) 1 8 Try.underlying24 hi hz0 hz1 hz2 rfl (by decide) (.slice (some ⟨w.heap.size, 0, none⟩) 0 0) 0 [] rfl hmade B (some ad) n c xs rfl (hr.alloc hB _) h1 (by simp [maxLen]; omega) (by simpa using hn) (by simp) ?_; rintro v' w1 hown hgr hbl -; obtain ⟨A', c', rfl⟩ := own_slice hown)
    go_ret
    exact ⟨A', c', rfl, by simpa using hown, ((Below.refl _ _).alloc (Nat.le_refl _) _).grown hgr (by simp) (by simp [Value.ownBlock])⟩
theorem ints_one (l : List Int) : ∀ u ∈ l.map (Value.int .i64), u.oneCell' = true := by
  intro u hu
  obtain ⟨x, _, rfl⟩ := List.mem_map.1 hu
  rfl
end Go.Proofs.Ytbmkbnalembbjaa

namespace Go.Proofs.Ytbmkbnalembbjaa
open Go.RowKit
def HeapIs (w : World) (base gh : Nat) (A : Option Addr) (n c : Nat) (S : List Spot) : Prop :=
  ∃ b Ao k co, Blk w gh 152 #[.slice A n c, .map (some b), .slice Ao k co] ∧ base ≤ gh ∧ base ≤ b ∧ MapIs w Try.prog 3 .i64 b 300 (headF S) ∧ w.ownsRow base 3 1 (.slice Ao k co) k ((begsL S).map (.int .i64))
theorem HeapIs.below {w w' : World} {base gh n c : Nat} {A : Option Addr} {S : List Spot} (h : HeapIs w base gh A n c S) (hb : Below w.heap.size w w') : HeapIs w' base gh A n c S := by
  obtain ⟨b, Ao, k, co, h1, h2, h3, h4, h5⟩ := h
  exact ⟨b, Ao, k, co, h1.below hb h1.lt, h2, h3, h4.below hb h4.lt, own_below h5 hb⟩
theorem HeapIs.mono {w : World} {base base' gh n c : Nat} {A : Option Addr} {S : List Spot} (h : HeapIs w base' gh A n c S) (hb : base ≤ base') : HeapIs w base gh A n c S := by
  obtain ⟨b, Ao, k, co, h1, h2, h3, h4, h5⟩ := h
  exact ⟨b, Ao, k, co, h1, by omega, by omega, h4, own_mono h5 hb⟩
theorem own_kinds {w : World} {base base' size size' n n' : Nat} {e e' : TypeId} {v v' : Value} {xs xs' : List Value} (h : w.ownsRow base e size v n xs) (h' : w.ownsRow base' e' size' v' n' xs') (hne : e ≠ e') {g : Nat} (hg : v.ownBlock = some g) : v'.ownBlock ≠ some g := by
  intro hg'
  rcases h.2 with ⟨rfl, _⟩ | ⟨g1, cap, cur, rfl, _, hh, _⟩
  · cases hg
  · rcases h'.2 with ⟨rfl, _⟩ | ⟨g2, cap2, cur2, rfl, _, hh2, _⟩
    · cases hg'
    · simp only [Value.ownBlock, Option.some.injEq] at hg hg'
      subst hg hg'
      rw [hh] at hh2
      injection hh2 with hh2
      injection hh2 with _ ht
      exact hne ht
theorem own_off {w : World} {base size n b : Nat} {e : TypeId} {v : Value} {xs : List Value} (h : w.ownsRow base e size v n xs) (hb : b < base) : v.ownBlock ≠ some b := fun hg => by have := (h.lt b hg).1; omega
theorem zero_head (w : World) : (zeroValue 110).run Try.prog w = .ok (.agg #[.int .i64 0, .int .i64 0, .int .i64 0, .bool false]) w := by kernel_rfl
set_option maxHeartbeats 400000 in
theorem heap_bad (A : Option Addr) (n c : Nat) (a : List Int) (A2 : Option Addr) (n2 c2 : Nat) (w : World) (hr : Reads w w.heap.size 1 A n (a.map (.int .u64))) (hnc : n ≤ c) (ha : ∀ x ∈ a, (Lit.int .u64 x).wf = true) (hE : checkE a ≠ 0) :
    Calls Try.prog 54 #[.slice A n c, .slice A2 n2 c2] w fun e w' => e = .returned (.tuple #[.pointer none, .int .i64 (checkE a)]) ∧ Below w.heap.size w w' := by
  have H := Lib.hid (checkFn_any A n c a w hr hnc ha)
  have hE1 : (checkE a != 0) = true := by simpa using hE
  generalize checkE a = E at *
  clear hE hr
  go_enter Try.func54, Try.ntmps54
  go_wp2_with fail
  refine H.out.mono ?_
  rintro e w1 ⟨rfl, hb1⟩
  go_wp2
  go_ret2
  exact ⟨rfl, hb1⟩
set_option maxRecDepth 100000 in
set_option maxHeartbeats 2000000 in
theorem heap_ok (A : Option Addr) (n c : Nat) (a : List Int) (A2 : Option Addr) (n2 c2 : Nat) (f : List Int) (w : World) (hr : Reads w w.heap.size 1 A n (a.map (.int .u64))) (hnc : n ≤ c) (ha : ∀ x ∈ a, (Lit.int .u64 x).wf = true)
    (hr2 : Reads w w.heap.size 1 A2 n2 (f.map (.int .i64))) (hn2 : n2 ≤ 1000000000000000000) (hx2 : ∀ x ∈ f, (Lit.int .i64 x).wf = true) (hE : checkE a = 0) :
    Calls Try.prog 54 #[.slice A n c, .slice A2 n2 c2] w fun e w' => Below w.heap.size w w' ∧
      (((∀ x ∈ f, x ∈ begsL (spotsL a)) ∧ ∃ gh, e = .returned (.tuple #[.pointer (some ⟨gh, 0, none⟩), .int .i64 0]) ∧ HeapIs w' w.heap.size gh A n c (spotsL a)) ∨
       ((∃ x ∈ f, x ∉ begsL (spotsL a)) ∧ e = .returned (.tuple #[.pointer none, .int .i64 5]))) := by
  have H := checkFn_any A n c a w hr hnc ha
  rw [hE] at H
  have H := Lib.hid H
  have h0 := (checkE_ok.1 hE).1
  have H2 := fun w hr => spots_any A n c a w hr ha
  rw [h0] at H2
  have hrise := spots_rise h0
  have hbnd := spots_bounds h0
  have hm256 := spotsL_length a
  generalize spotsL a = S at *
  obtain ⟨m, hm⟩ : ∃ m, m = S.length := ⟨_, rfl⟩
  rw [← hm] at H2 hm256
  have HM := Lib.hid hm
  have HR := Lib.hid hrise
  have HB := Lib.hid hbnd
  have H2 := Lib.hid H2
  have hfl : f.length = n2 := by have := hr2.1; simpa using this
  have HFL := Lib.hid hfl
  have HX := Lib.hid hx2
  have hmm := @run_makeMap Try.prog
  obtain ⟨i0, hi, hz0, hz1, hz2⟩ := info_parts info_int
  clear hE h0 hm hrise hbnd hfl hx2 ha
  go_enter Try.func54, Try.ntmps54
  go_wp2_with fail
  refine H.out.mono ?_
  rintro e w1 ⟨rfl, hb1⟩
  have hbA := below_step hb1 (below_new w1 (.map #[] 0))
  have hM0 := MapIs.made w1 Try.prog 3 .i64
  have hMz := hM0.alloc (.cells #[.slice A n c, .map (some w1.heap.size), .slice none 0 0] 152)
  have hBh := Blk.new (w1.alloc (.map #[] 0)) 152 #[.slice A n c, .map (some w1.heap.size), .slice none 0 0]
  have hbB := below_step hbA (below_new (w1.alloc (.map #[] 0)) (.cells #[.slice A n c, .map (some w1.heap.size), .slice none 0 0] 152))
  simp only [World.size_alloc] at hBh
  clear hM0 hbA
  go_wp2_with fail
  refine (H2.out _ ((hr.below hbB).more hbB.size)).mono ?_
  rintro e w2 ⟨hb2, A3, c3, rfl, hown⟩
  have hMz := hMz.below hb2 hMz.lt
  have hBh := hBh.below hb2 hBh.lt
  have hb02 := below_step hbB hb2
  have HS0 := Lib.hid hown
  simp only [World.size_alloc] at HS0
  have hw1 := hb1.size
  have hBlt : w1.heap.size + 1 < w2.heap.size := hBh.lt
  clear hown hb2 hbB
  go_wp2
  go_loopw [32] (fun i wr => ∃ (j k co : Nat) (Ao : Option Addr), j ≤ m ∧ i = .int .i64 j ∧ k ≤ j ∧ Blk wr (w1.heap.size + 1) 152 #[.slice A n c, .map (some w1.heap.size), .slice Ao k co] ∧ MapIs wr Try.prog 3 .i64 w1.heap.size j (headF (S.take j)) ∧
      Hid (wr.ownsRow (w1.heap.size + 1 + 1) 3 1 (.slice Ao k co) k ((begsL (S.take j)).map (.int .i64))) ∧ Below w.heap.size w wr ∧ Hid (wr.ownsRow (w1.heap.size + 1 + 1) 146 5 (.slice A3 m c3) m (spotsC S))) (fun i _ => m - (intOf i).toNat)
  case atStart => exact ⟨0, 0, 0, none, Nat.zero_le _, rfl, Nat.zero_le _, hBh, hMz, World.ownsRow_nil _ _ _ _, hb02, HS0⟩
  case round =>
    obtain ⟨j, k, co, Ao, hj, rfl, hkj, hBh, hM, HO, hb, HRS⟩ := hrel
    by_cases hlt : j < m
    · obtain ⟨ad, s, rfl, had, hs, c0, c1, c2', c3', c4⟩ := (Reads.of_own HRS.out).spot hlt
      have hq := HB.out s (List.mem_of_getElem? hs)
      have HT : Hid (S.take (j + 1) = S.take j ++ [s]) := by
        show _ = _
        obtain ⟨h1, rfl⟩ := List.getElem?_eq_some_iff.1 hs
        exact List.take_succ_eq_append_getElem h1
      have HJ : Hid (∀ x ∈ S.take j, x.loc < s.loc) := by
        intro x hx
        rw [List.mem_take_iff_getElem] at hx
        obtain ⟨i, hi, rfl⟩ := hx
        obtain ⟨h1, rfl⟩ := List.getElem?_eq_some_iff.1 hs
        exact List.pairwise_iff_getElem.1 HR.out i j (by omega) h1 (by omega)
      obtain ⟨loc, r, b, t, fr⟩ := s
      dsimp only at c0 c1 c2' c3' c4 hq
      have hMx := hM.alloc (.cells #[.int .i64 loc, .int .i64 r, .int .i64 b, .int .i64 t, .bool fr] 146)
      have hbx := hb.alloc hb.size (.cells #[.int .i64 loc, .int .i64 r, .int .i64 b, .int .i64 t, .bool fr] 146)
      have hBx := hBh.alloc (.cells #[.int .i64 loc, .int .i64 r, .int .i64 b, .int .i64 t, .bool fr] 146)
      have hSx := Blk.new wr 146 #[.int .i64 loc, .int .i64 r, .int .i64 b, .int .i64 t, .bool fr]
      have HOx := Lib.hid (HO.out.alloc (.cells #[.int .i64 loc, .int .i64 r, .int .i64 b, .int .i64 t, .bool fr] 146))
      have hbs := below_new wr (.cells #[.int .i64 loc, .int .i64 r, .int .i64 b, .int .i64 t, .bool fr] 146)
      have HRx := Lib.hid (HRS.out.alloc (.cells #[.int .i64 loc, .int .i64 r, .int .i64 b, .int .i64 t, .bool fr] 146))
      have hj1 : j + 1 ≤ m := hlt
      have hws := hb.size
      have k0 := hBx.cell 0
      have k1 := hBx.cell 1
      have k2 := hBx.cell 2
      have s0 := hSx.cell 0
      have s1 := hSx.cell 1
      have s2 := hSx.cell 2
      have s3 := hSx.cell 3
      have s4 := hSx.cell 4
      simp only [List.getElem?_toArray, List.getElem?_cons_zero, List.getElem?_cons_succ] at k0 k1 k2 s0 s1 s2 s3 s4
      clear hs hbs HRS HO
      cases fr
      · have HP := Lib.hid (headF_snoc (l := S.take j) (s := ⟨loc, r, b, t, false⟩) rfl HJ.out)
        have HQ := Lib.hid (begsL_snoc (S.take j) ⟨loc, r, b, t, false⟩)
        rw [← HT.out] at HP HQ
        have hwl := hBh.lt
        obtain ⟨w3, hupd, hM3, hg3⟩ := hMx.drew.store (k := 3) (t := 150) Try.underlying3 Try.underlying150 (by unfold maxLen; omega) (x := loc) (by simp [Lit.wf, IntKind.min, IntKind.max, IntKind.signed, IntKind.bits]; omega) (.agg #[.int .i64 r, .int .i64 b, .int .i64 t, .bool false])
        have hB3 := hBx.drew.grown hg3 (fun h => by injection h with h; omega)
        have hS3 := hSx.drew.grown hg3 (fun h => by injection h with h; omega)
        have hb3 := hbx.drew.grown hg3 (by exact hbx.size) (fun g hg => by injection hg with hg; omega)
        have hO3 := own_grown HOx.out.drew hg3 (fun g hg h => by injection h with h; have := (HOx.out.lt g hg).1; omega)
        have hR3 := own_grown HRx.out.drew hg3 (fun g hg h => by injection h with h; have := (HRx.out.lt g hg).1; omega)
        -- the list grows by one
        have hB4 := (hB3.alloc (.cells #[.int .i64 loc] 3)).drew
        have hM4 := (hM3.alloc (.cells #[.int .i64 loc] 3)).drew
        have hb4 := (hb3.alloc hb3.size (.cells #[.int .i64 loc] 3)).drew
        have hO4 := (hO3.alloc (.cells #[.int .i64 loc] 3)).drew
        have hR4 := (hR3.alloc (.cells #[.int .i64 loc] 3)).drew
        have hw3 : w1.heap.size + 1 < w3.heap.size := hB3.lt
        obtain ⟨v5, w5, hrun, hO5, hg5, -, -⟩ := run_append_any (P := Try.prog) (w3.alloc (.cells #[.int .i64 loc] 3)).drew (w1.heap.size + 1 + 1) 24 24 3 i0 (.int .i64 0) 1 8 Try.underlying24 hi hz0 hz1 hz2 rfl (by decide) (.slice Ao k co) k _ hO4 _ (some ⟨w3.heap.size, 0, none⟩) 1 1 [.int .i64 loc] (reads_new w3 [.int .i64 loc] 3 1 1 rfl) (by simp [Value.oneCell']) (by unfold maxLen; omega) (by omega) (by show _ ≤ (w3.alloc _).heap.size; rw [World.size_alloc]; omega)
        obtain ⟨A5, c5, rfl⟩ := own_slice hO5
        have hB5 := hB4.grown hg5 (fun h => own_off hO4 (by omega) h.symm)
        have hM5 := hM4.kept hg5 (fun h => own_off hO4 (by omega) h.symm)
        have hb5 := hb4.grown hg5 hb4.size (fun g hg => by have := (hO4.lt g hg).1; omega)
        have hR5 := own_grown hR4 hg5 (fun g hg => own_kinds hR4 hO4 (by decide) hg)
        have hB6 : Blk (w5.setCell ⟨w1.heap.size + 1, 2, none⟩ (.slice A5 (k + 1) c5)) (w1.heap.size + 1) 152 #[.slice A n c, .map (some w1.heap.size), .slice A5 (k + 1) c5] := by simpa using hB5.set_ 2 (.slice A5 (k + 1) c5)
        have hM6 := hM5.setCell (a := ⟨w1.heap.size + 1, 2, none⟩) (by dsimp only; omega) (.slice A5 (k + 1) c5)
        have hb6 := hb5.setCell (p := ⟨w1.heap.size + 1, 2, none⟩) (by dsimp only; omega) (.slice A5 (k + 1) c5)
        have hO6 := own_apart hO5 (p := ⟨w1.heap.size + 1, 2, none⟩) (own_off hO5 (by dsimp only; omega)) (.slice A5 (k + 1) c5)
        have hR6 := own_apart hR5 (p := ⟨w1.heap.size + 1, 2, none⟩) (own_off hR5 (by dsimp only; omega)) (.slice A5 (k + 1) c5)
        have q0 := hB3.cell 0
        have q2 := hB3.cell 2
        have q1 := hB3.cell 1
        have u0 := hS3.cell 0
        have u1 := hS3.cell 1
        have u2 := hS3.cell 2
        have u3 := hS3.cell 3
        have u4 := hS3.cell 4
        have p2 := hB5.cell 2
        have pf := hB5.frozen 2
        have q2' := (hB3.alloc (.cells #[.int .i64 loc] 3)).cell 2
        have u0' := (hS3.alloc (.cells #[.int .i64 loc] 3)).cell 0
        simp only [List.getElem?_toArray, List.getElem?_cons_zero, List.getElem?_cons_succ] at q0 q1 q2 u0 u1 u2 u3 u4 p2 q2' u0'
        have HM6 := Lib.hid hM6
        have HO6 : Hid ((w5.setCell ⟨w1.heap.size + 1, 2, none⟩ (.slice A5 (k + 1) c5)).ownsRow (w1.heap.size + 1 + 1) 3 1 (.slice A5 (k + 1) c5) (k + 1) ((begsL (S.take (j + 1))).map (.int .i64))) := by
          rw [HQ.out, if_neg (by simp), List.map_append]
          exact hO6
        have HR6 := Lib.hid hR6
        have HRun := Lib.hid hrun
        clear hM hb hM3 hB3 hS3 hb3 hO3 hR3 hB4 hM4 hb4 hO4 hR4 hB5 hM5 hb5 hR5 hM6 hO6 hO5 hR6 hrun hg5 hg3 hMx hbx HOx HRx
        go_wp2
        go_region_held3 (fun w' => w'.cell? ⟨w1.heap.size + 1, 1, none⟩ = some (.map (some w1.heap.size)) ∧ w'.cell? ⟨wr.heap.size, 0, none⟩ = some (.int .i64 loc) ∧ w'.cell? ⟨wr.heap.size, 1, none⟩ = some (.int .i64 r) ∧ w'.cell? ⟨wr.heap.size, 2, none⟩ = some (.int .i64 b) ∧ w'.cell? ⟨wr.heap.size, 3, none⟩ = some (.int .i64 t) ∧ w'.cell? ⟨wr.heap.size, 4, none⟩ = some (.bool false)) (go_keep) (fail)
        go_wp2
        go_region_law (refine step_append_run rfl (.tmp 52) (.tmp 55) 24 24 rfl (.slice Ao k co) (.slice (some ⟨w3.heap.size, 0, none⟩) 1 1) (by simp [Act.eval]) (by simp [Act.eval]) HRun.out ?_)
        all_goals
          try simp only [Act.put, Act.eval, List.getElem_toArray, List.getElem_cons_zero, List.getElem_cons_succ, List.setIfInBounds_toArray, List.set_cons_zero, List.set_cons_succ]
          clear q0 q1 q2 u0 u1 u2 u3 u4 p2 pf q2' u0'
          go_wp2
          go_roundw
          case rel => exact ⟨j + 1, k + 1, c5, A5, hj1, by go_num, by omega, hB6, by rw [HP.out]; exact HM6.out, HO6, hb6, HR6⟩
          case measure => simp [intOf]; omega
      · have HP : Hid (headF (S.take (j + 1)) = headF (S.take j)) := by show _ = _; rw [HT.out]; exact headF_free rfl
        have HQ : Hid (begsL (S.take (j + 1)) = begsL (S.take j)) := by show _ = _; rw [HT.out, begsL_snoc]; rfl
        clear hM hb
        go_wp2
        go_roundw
        case rel => exact ⟨j + 1, k, co, Ao, hj1, by go_num, by omega, hBx, by rw [HP.out]; exact hMx.mono (by omega), by rw [HQ.out]; exact HOx, hbx, HRx⟩
        case measure => simp [intOf]; omega
    · have hjm : j = m := by omega
      have hM : MapIs wr Try.prog 3 .i64 w1.heap.size 300 (headF S) := by
        rw [hjm, List.take_of_length_le (by rw [HM.out]; exact Nat.le_refl _)] at hM
        exact hM.mono (by omega)
      have HI : Hid (HeapIs wr w.heap.size (w1.heap.size + 1) A n c S) := by
        refine ⟨w1.heap.size, Ao, k, co, hBh, by omega, by omega, hM, ?_⟩
        have := HO.out
        rw [hjm, List.take_of_length_le (by rw [HM.out]; exact Nat.le_refl _)] at this
        exact own_mono this (by omega)
      obtain ⟨wo, hwo⟩ : ∃ x, x = wr := ⟨wr, rfl⟩
      subst hwo
      have hr2' := hr2.below hb
      have hwl := hM.lt
      have g0 : decide (j < m) = false := decide_eq_false hlt
      have hgh := hBh.lt
      clear HO HRS hjm hb02 hMz
      go_wp2
      go_loopw [62] (fun i wr => ∃ j : Nat, j ≤ n2 ∧ i = .int .i64 j ∧ Hid (∀ x ∈ f.take j, x ∈ begsL S) ∧ Below wo.heap.size wo wr) (fun i _ => n2 - (intOf i).toNat)
      case atStart => exact ⟨0, Nat.zero_le _, rfl, by intro x hx; simp at hx, Below.refl _ _⟩
      case round =>
        obtain ⟨j2, hj2, rfl, HA, hb2⟩ := hrel
        have hb02 := below_step hb hb2
        have hMr := hM.below hb2 hwl
        have hBr := hBh.below hb2 hgh
        have k1 := hBr.cell 1
        simp only [List.getElem?_toArray, List.getElem?_cons_zero, List.getElem?_cons_succ] at k1
        by_cases hlt2 : j2 < n2
        · obtain ⟨ad, x, rfl, had, hx, cx⟩ := (hr2.below hb02).num hlt2
          have hlook := hMr.look_ok (k := 3) (t := 150) Try.underlying3 Try.underlying150 (zero_head _) (HX.out x (List.mem_of_getElem? hx))
          have hj3 : j2 + 1 ≤ n2 := hlt2
          by_cases hm : x ∈ begsL S
          · obtain ⟨s, hs⟩ := begsL_iff.1 hm
            have e1 : headF S x = some (headC s) := by unfold headF; rw [hs]; rfl
            rw [e1] at hlook
            obtain ⟨loc, r, b, t, fr⟩ := s
            have hlook2 : (Instr.lookup 150 (.map (some w1.heap.size)) (.int .i64 x) true).run Try.prog wr = .ok (.tuple #[.agg #[.int .i64 r, .int .i64 b, .int .i64 t, .bool fr], .bool true]) wr := hlook
            clear hlook
            have HA2 : Hid (∀ x ∈ f.take (j2 + 1), x ∈ begsL S) := by
              intro y hy
              obtain ⟨q1, q2⟩ := List.getElem?_eq_some_iff.1 hx
              rw [List.take_succ_eq_append_getElem q1, List.mem_append] at hy
              rcases hy with hy | hy
              · exact HA.out y hy
              · simp only [List.mem_cons, List.not_mem_nil, or_false] at hy
                rw [hy, q2]; exact hm
            have hbx := hb2.alloc hb2.size (.cells #[.int .i64 r, .int .i64 b, .int .i64 t, .bool fr] 110)
            clear hx hm hs e1 HA
            go_wp2
            go_roundw
            case rel => exact ⟨j2 + 1, hj3, by go_num, HA2, hbx⟩
            case measure => simp [intOf]; omega
          · have e1 : headF S x = none := by
              cases hh : headF S x with
              | none => rfl
              | some v => exact absurd (headF_isSome.1 (by rw [hh]; rfl)) hm
            rw [e1] at hlook
            have hlook2 : (Instr.lookup 150 (.map (some w1.heap.size)) (.int .i64 x) true).run Try.prog wr = .ok (.tuple #[.agg #[.int .i64 0, .int .i64 0, .int .i64 0, .bool false], .bool false]) wr := hlook
            clear hlook
            have hex : ∃ x ∈ f, x ∉ begsL S := ⟨x, List.mem_of_getElem? hx, hm⟩
            have HEx := Lib.hid hex
            have hbx := hb02.alloc hb02.size (.cells #[.int .i64 0, .int .i64 0, .int .i64 0, .bool false] 110)
            clear hx hm e1 HA hex
            go_wp2
            go_ret2
            exact ⟨hbx, .inr ⟨HEx.out, rfl⟩⟩
        · have HAll : Hid (∀ x ∈ f, x ∈ begsL S) := by
            have := HA.out
            rw [List.take_of_length_le (by rw [HFL.out]; omega)] at this
            exact this
          have g2 : decide (j2 < n2) = false := decide_eq_false hlt2
          clear HA
          go_wp2
          go_ret2
          exact ⟨hb02, .inl ⟨HAll.out, _, rfl, HI.out.below hb2⟩⟩
end Go.Proofs.Ytbmkbnalembbjaa

namespace Go.Proofs.Ytbmkbnalembbjaa
open Go.RowKit
def isN (_ : Nat) (u : Value) : Prop := ∃ x, u = .int .i64 x
theorem isN_zero : ∀ j u, (Value.int .i64 0).cells[j]? = some u → isN j u := by
  intro j u hu
  have hc : (Value.int .i64 0).cells = #[.int .i64 0] := rfl
  rw [hc] at hu
  rcases j with _ | j
  · exact ⟨0, by simpa using hu.symm⟩
  · simp at hu
theorem isN_one (x : Int) : ∀ j u, [Value.int .i64 x][j]? = some u → isN (j % 1) u := by
  intro j u hu
  rcases j with _ | j
  · exact ⟨x, by simpa using hu.symm⟩
  · simp at hu
section
variable {w w' : World} {base base' n : Nat} {e : TypeId} {size : Nat} {ok : Nat → Value → Prop} {v : Value} {xs : List Value}
theorem OwnT.lt (h : OwnT w base e size ok v n xs) : ∀ g, v.ownBlock = some g → base ≤ g ∧ g < w.heap.size := h.1.lt
theorem own_sliceT (h : OwnT w base e size ok v n xs) : ∃ A c, v = .slice A n c := own_slice h.1
theorem own_belowT (h : OwnT w base e size ok v n xs) (hb : Below w.heap.size w w') : OwnT w' base e size ok v n xs := h.below hb
theorem own_monoT (h : OwnT w base' e size ok v n xs) (hb : base ≤ base') : OwnT w base e size ok v n xs := h.mono hb
theorem own_apartT (h : OwnT w base e size ok v n xs) {p : Addr} (hp : v.ownBlock ≠ some p.block) (u : Value) : OwnT (w.setCell p u) base e size ok v n xs := h.apart hp u
theorem own_farT (h : OwnT w base e size ok v n xs) {p : Addr} (hp : p.block < base) (u : Value) : OwnT (w.setCell p u) base e size ok v n xs :=
  h.apart (fun hg => by have := (h.1.lt _ hg).1; omega) u
theorem own_offT {b : Nat} (h : OwnT w base e size ok v n xs) (hb : b < base) : v.ownBlock ≠ some b := own_off h.1 hb
theorem own_blk_neT {g : Nat} {t : TypeId} {cs : Array Value} (h : OwnT w base e size ok v n xs) (hg : Blk w g t cs) (hne : e ≠ t) : v.ownBlock ≠ some g := own_blk_ne h.1 hg hne
theorem own_grownT {row : Option Nat} (h : OwnT w base e size ok v n xs) (hg : w.grownBy w' row) (hne : ∀ g, v.ownBlock = some g → row ≠ some g) : OwnT w' base e size ok v n xs :=
  h.kept hg (by
    cases hv : v.ownBlock with
    | none => exact .inl rfl
    | some g => exact .inr (fun e => hne g hv e.symm))
theorem OwnT.drew (h : OwnT w base e size ok v n xs) : OwnT w.drew base e size ok v n xs := h.drewN 1
theorem reads_ofT {A : Option Addr} {c : Nat} (h : OwnT w base e size ok (.slice A n c) n xs) : Reads w w.heap.size size A n xs := Reads.of_own h.1
end
open Go.Sort in
theorem ownN_putRow {enc : Int → Value} {w : World} {base : Nat} {e : TypeId} {ok : Nat → Value → Prop} {g n cap q k : Nat} {zs ys : List Int} (h : OwnT w base e 1 ok (.slice (some ⟨g, 0, none⟩) n cap) n (zs.map enc)) (hy : ys.length = n) (hk : k ≤ n) (ho : ∀ y ∈ ys, ok 0 (enc y)) :
    OwnT (putRow enc (Sort.ahead w q) g 0 ys.toArray) base e 1 ok (.slice (some ⟨g, 0, none⟩) k cap) k ((ys.take k).map enc) := by
  refine ⟨Lib.ownsRow_putRow h.1 hy hk, ?_⟩
  obtain ⟨cur, -, h2, -, -, -, -, h7⟩ := h.open
  intro g' cur' hg hc i u hu
  simp only [Value.ownBlock, Option.some.injEq] at hg
  subst hg
  have hb : (putRow enc (Sort.ahead w q) g 0 ys.toArray).heap[g]? = some (.cells (putCells enc 0 ys.toArray cur.toArray) e (0, 0)) := by
    simp [putRow, mapBlock, Sort.ahead, Array.getElem?_modify, h2, onCells]
  rw [hb] at hc
  simp only [Option.some.injEq, Obj.cells.injEq, and_true] at hc
  subst hc
  rw [Nat.mod_one]
  have hi : i < cur.length := by
    have := (Array.getElem?_eq_some_iff.1 hu).1
    simpa [putCells] using this
  simp only [putCells, Array.getElem?_mapIdx, Array.getElem?_eq_getElem (show i < cur.toArray.size by simpa using hi), Option.map_some, Option.some.injEq] at hu
  split at hu
  · rename_i hc
    rw [← hu]
    refine ho _ ?_
    have hl : i - 0 < ys.toArray.size := by have := hc; simp at this ⊢; omega
    rw [getElem!_pos ys.toArray (i - 0) hl]
    simp
  · have h8 := h7 i u (by rw [List.getElem?_eq_getElem hi]; simpa using hu)
    rwa [Nat.mod_one] at h8
open Go.Sort in
theorem sort_intN (base : Nat) (A : Option Addr) (n c : Nat) (xs : List Int) (w : World) (hown : OwnT w base 3 1 isN (.slice A n c) n (xs.map (.int .i64))) (hn : n ≤ 1000000) :
    Calls Try.prog 57 #[.slice A n c] w fun e w' => e = .returned (.tuple #[]) ∧ OwnT w' base 3 1 isN (.slice A n c) n ((sortL xs).map (.int .i64)) ∧ w.grownBy w' (Value.slice A n c).ownBlock := by
  by_cases hnil : Value.slice A n c = .slice none 0 0
  · injection hnil with h1 h2 h3
    subst h1 h2 h3
    have hx : xs = [] := List.eq_nil_of_length_eq_zero (by have := hown.1.1; simpa using this)
    subst hx
    have H := AnyM.slices_Sort_int_none Try.sortI none 0 w
    refine Calls.mono H ?_
    rintro e w' ⟨rfl, rfl⟩
    exact ⟨rfl, by simpa [sortL] using hown, ⟨rfl, rfl, rfl, Nat.le_refl _, fun _ _ _ => rfl⟩⟩
  · obtain ⟨g, cap, hv, hb, hg, h1, h2, h3, hH⟩ := Lib.holds_of_ownsRow hown.1 hnil
    injection hv with e1 _ e3
    subst e1 e3
    have H := AnyM.slices_Sort_int Try.sortI g 0 c xs w hH hg (by omega)
    rw [h3] at H
    refine Calls.mono H ?_
    rintro e w' ⟨rfl, q, os, rfl⟩
    refine ⟨rfl, ?_, grownBy_sortedI _⟩
    have := ownN_putRow (q := q) (k := n) hown (ys := sortL xs) (by rw [sortL_length, h3]) (Nat.le_refl _) (fun y hy => ⟨y, rfl⟩)
    rw [List.take_of_length_le (by rw [sortL_length]; omega)] at this
    exact this.kept (row := none) ⟨rfl, rfl, rfl, by simp, fun k hk _ => heap_grow_old _ _ hk⟩ (.inr (by simp [Value.ownBlock]))
end Go.Proofs.Ytbmkbnalembbjaa

namespace Go.Proofs.Ytbmkbnalembbjaa
open Go.RowKit
def linksP (rs : List Int) : List Int := (rs.filter fun v => v != 0).map fun v => v - 1
theorem linksP_zero {rs : List Int} {j : Nat} (h : rs[j]? = some 0) : linksP (rs.take (j + 1)) = linksP (rs.take j) := by
  obtain ⟨h1, h2⟩ := List.getElem?_eq_some_iff.1 h
  unfold linksP
  rw [List.take_succ_eq_append_getElem h1, List.filter_append, List.map_append, h2]
  simp
theorem linksP_succ {rs : List Int} {j : Nat} {v : Int} (h : rs[j]? = some v) (h0 : v ≠ 0) : linksP (rs.take (j + 1)) = linksP (rs.take j) ++ [v - 1] := by
  obtain ⟨h1, h2⟩ := List.getElem?_eq_some_iff.1 h
  unfold linksP
  rw [List.take_succ_eq_append_getElem h1, List.filter_append, List.map_append, h2]
  simp [h0]
theorem field_head (r b t : Int) (f : Bool) (w : World) : (Instr.field 110 (.agg #[.int .i64 r, .int .i64 b, .int .i64 t, .bool f]) 0).run Try.prog w = .ok (.int .i64 r) w := by kernel_rfl
set_option maxRecDepth 100000 in
set_option maxHeartbeats 2000000 in
theorem each_any (F : Nat) (cap1 cap2 : Value) (gh b B : Nat) (A Ao : Option Addr) (n c k co : Nat) (a : List Int) (S : List Spot) (s : Spot) (w : World) (hBh : Blk w gh 152 #[.slice A n c, .map (some b), .slice Ao k co]) (hM : MapIs w Try.prog 3 .i64 b 300 (headF S))
    (hs : spotAt S s.loc = some s) (hok : SpotOk a s) (hr : Reads w B 1 A n (a.map (.int .u64))) (hnc : n ≤ c) (hn : n ≤ 256) (hP : Plain Try.prog F) (hlk : ∀ v ∈ refsOf a s, v = 0 ∨ 1 ≤ v ∧ v ≤ 256)
    (Inv : List Int → World → Prop) (hI : Inv [] w) (hID : ∀ l w q, Inv l w → Inv l (w.drewN q)) (hIR : ∀ l w', Inv l w' → Reads w' B 1 A n (a.map (.int .u64)))
    (HC : ∀ (l : List Int) (y : Int) (w' : World), Inv l w' → y ∈ linksL a s → Calls Try.prog F #[.int .i64 y, cap1, cap2] w' fun e w'' => e = .returned (.tuple #[]) ∧ Inv (l ++ [y]) w'') :
    Calls Try.prog 56 #[.pointer (some ⟨gh, 0, none⟩), .int .i64 s.loc, .func (.func F) #[] #[cap1, cap2]] w fun e w' => e = .returned (.tuple #[]) ∧ Inv (linksL a s) w' := by
  have hal : a.length = n := by have := hr.1; simpa using this
  have l0 := hok.loc0
  have r0 := hok.r0
  have b0 := hok.b0
  have ft := hok.fits
  have hrl := refsOf_length hok
  have e1 : headF S s.loc = some (headC s) := by unfold headF; rw [hs]; rfl
  have HLOOK := fun q => (hM.drewN q).look (k := 3) (t := 150) Try.underlying3 Try.underlying150 (zero_head _) (x := s.loc) (by unfold Spot.long at ft; simp [Lit.wf, IntKind.min, IntKind.max, IntKind.signed, IntKind.bits]; omega)
  rw [e1] at HLOOK
  have hL : linksL a s = linksP (refsOf a s) := rfl
  rw [hL]
  rw [hL] at HC
  have hR : (refsOf a s) = (a.drop (s.loc.toNat + 1)).take s.r.toNat := rfl
  have HRS := Lib.hid hR
  clear hR hL hM e1 hs hok
  generalize refsOf a s = rs at *
  obtain ⟨loc, r, bb, t, fr⟩ := s
  simp only [Spot.long] at ft l0 r0 b0 ⊢
  obtain ⟨i, rfl⟩ := Int.eq_ofNat_of_zero_le l0
  obtain ⟨m, rfl⟩ := Int.eq_ofNat_of_zero_le r0
  simp only [Int.toNat_natCast] at hrl HRS
  rw [hal] at ft
  obtain ⟨p1, hp1⟩ : ∃ p1, p1 = i + 1 := ⟨_, rfl⟩
  obtain ⟨p2, hp2⟩ : ∃ p2, p2 = p1 + m := ⟨_, rfl⟩
  have w1 : IntKind.i64.wrap ((i : Int) + 1) = p1 := by rw [IntWalk.i64_in _ (by omega)]; omega
  have w2 : IntKind.i64.wrap ((p1 : Int) + m) = p2 := by rw [IntWalk.i64_in _ (by omega)]; omega
  have hlook2 : ∀ q, (Instr.lookup 150 (.map (some b)) (.int .i64 i) false).run Try.prog (w.drewN q) = .ok (.agg #[.int .i64 m, .int .i64 bb, .int .i64 t, .bool fr]) (w.drewN q) := fun q => HLOOK q
  have hfield := fun w => field_head m bb t fr w
  have hpos : 0 < n := by omega
  obtain ⟨ad, rfl, had, -⟩ := hr.2 hpos
  have k0 := hBh.cell 0
  have k1 := hBh.cell 1
  simp only [List.getElem?_toArray, List.getElem?_cons_zero, List.getElem?_cons_succ] at k0 k1
  have q1 : p1 ≤ p2 := by omega
  have q2 : p2 ≤ n := by omega
  have q3 : p2 ≤ c := by omega
  have q4 : p1 ≤ c := by omega
  have q5 : p2 - p1 = m := by omega
  have HC := Lib.hid HC
  have HIR := Lib.hid hIR
  have HID := Lib.hid hID
  have HLK := Lib.hid hlk
  have HRL := Lib.hid hrl
  have hcf := fun (x : Value) (w : World) => hP #[x, cap1, cap2] w
  have HP1 := Lib.hid hp1
  have HAL := Lib.hid hal
  clear HLOOK hrl hlk hIR hID hp1 hp2 hP hal hBh
  by_cases hci : c = p1
  · have hci2 : (c == p1) = true := by simpa using hci
    have hm0 : m = 0 := by omega
    have hrs : rs = [] := List.eq_nil_of_length_eq_zero (by rw [HRL.out]; exact hm0)
    subst hrs
    have g0 : decide (0 < m) = false := decide_eq_false (by omega)
    have HI0 := Lib.hid hI
    clear hI hcf hm0
    go_enter Try.func56, Try.ntmps56
    go_wp2
    go_quiet (fail)
    go_wp2
    go_loopw [26] (fun i wr => i = .int .i64 0 ∧ wr = w.drewN nq) (fun _ _ => 0)
    case atStart => exact ⟨by first | rfl | simp, rfl⟩
    case round =>
      obtain ⟨rfl, rfl⟩ := hrel
      go_wp2
      go_end0
      exact ⟨rfl, HID.out _ _ _ HI0.out⟩
  · have HI0 := Lib.hid hI
    have HG : Hid (∀ (wr : World) (j : Nat), j < m → Reads wr B 1 (some ad) n (a.map (.int .u64)) → ∃ v, rs[j]? = some v ∧ 0 ≤ v ∧ wr.cell? ((ad.add p1).add j) = some (.int .u64 v)) := by
      intro wr j hj hrr
      have h1 := hrr.sub (lo := p1) (hi := p2) q1 q2 hnc
      rw [if_neg hci, q5] at h1
      have h2 : ((a.map (Value.int .u64)).drop p1).take m = rs.map (Value.int .u64) := by rw [HRS.out, List.map_take, List.map_drop, HP1.out]
      rw [h2] at h1
      obtain ⟨ad2, v, e2, -, hv, hc⟩ := h1.num hj
      simp only [Option.map_some, Option.some.injEq] at e2
      subst e2
      refine ⟨v, hv, ?_, hc⟩
      rcases HLK.out v (List.mem_of_getElem? hv) with h | h <;> omega
    clear hI
    go_enter Try.func56, Try.ntmps56
    go_wp2
    go_quiet (fail)
    go_wp2
    go_loopw [7, 26] (fun _ i wr => ∃ j : Nat, j ≤ m ∧ i = .int .i64 j ∧ Hid (Inv (linksP (rs.take j)) wr)) (fun _ i _ => m - (intOf i).toNat)
    case atStart => exact ⟨0, Nat.zero_le _, rfl, HID.out _ _ _ HI0.out⟩
    case round =>
      obtain ⟨j, hj, rfl, HI⟩ := hrel
      by_cases hlt : j < m
      · obtain ⟨v, hv, hv0, hc⟩ := HG.out wr j hlt (HIR.out _ _ HI.out)
        have hlk := HLK.out v (List.mem_of_getElem? hv)
        have hj1 : j + 1 ≤ m := hlt
        by_cases h0 : v = 0
        · subst h0
          have HI2 : Hid (Inv (linksP (rs.take (j + 1))) wr) := by
            show Inv _ _
            rw [linksP_zero hv]
            exact HI.out
          clear hv HI
          go_wp2
          go_roundw
          case rel => exact ⟨j + 1, hj1, by go_num, HI2⟩
          case measure => simp [intOf]; omega
        · obtain ⟨y, hy⟩ : ∃ y : Nat, v = ((y + 1 : Nat) : Int) := ⟨(v - 1).toNat, by omega⟩
          have hyl : ((y : Nat) : Int) ∈ linksP rs := List.mem_map.2 ⟨v, List.mem_filter.2 ⟨List.mem_of_getElem? hv, by simpa using h0⟩, by omega⟩
          have HQ := HC.out (linksP (rs.take j)) y wr HI.out hyl
          have hst := linksP_succ hv h0
          rw [show v - 1 = ((y : Nat) : Int) by omega] at hst
          rw [← hst] at HQ
          have HQ := Lib.hid HQ
          obtain ⟨V, hV⟩ : ∃ V : Nat, V = y + 1 := ⟨_, rfl⟩
          rw [← hV] at hy
          subst hy
          have z1 : ((V : Int) != 0) = true := by simp; omega
          have z2 : (V != 0) = true := by simp; omega
          have z3 : ¬ V = 0 := by omega
          have w3 : IntKind.i64.wrap (V : Int) = V := IntWalk.i64_in _ (by omega)
          have w4 : IntKind.i64.wrap ((V : Int) - 1) = y := by rw [IntWalk.i64_in _ (by omega)]; omega
          have w5 : (V : Int) - 1 = y := by omega
          have w6 : IntKind.i64.wrap (y : Int) = y := IntWalk.i64_in _ (by omega)
          clear hv HI hyl hst hV hlk
          go_wp2_with fail
          refine HQ.out.mono ?_
          rintro e w9 ⟨rfl, hI9⟩
          have HI9 := Lib.hid hI9
          go_wp2
          go_roundw
          case rel => exact ⟨j + 1, hj1, by go_num, HI9⟩
          case measure => simp [intOf]; omega
      · have hjm : j = m := by omega
        have HI2 : Hid (Inv (linksP rs) wr) := by
          have := HI.out
          rw [hjm, List.take_of_length_le (by rw [HRL.out]; exact Nat.le_refl _)] at this
          exact this
        have g0 : decide (j < m) = false := decide_eq_false hlt
        clear hjm HI
        go_wp2
        go_end0
        exact ⟨rfl, HI2.out⟩
end Go.Proofs.Ytbmkbnalembbjaa

namespace Go.Proofs.Ytbmkbnalembbjaa
open Go.RowKit
def seenF (out : List Int) : Int → Option Value := fun x => if x ∈ out then some (.bool true) else none
theorem seenF_snoc (out : List Int) (x : Int) : seenF (out ++ [x]) = upd (seenF out) x (.bool true) := by
  funext y
  unfold seenF upd
  by_cases h : y = x
  · subst h; simp
  · simp [h]
def AddSt (w0 : World) (out : List Int) (w : World) : Prop :=
  ∃ Ao co, Blk w (w0.heap.size + 1) 114 #[.map (some w0.heap.size)] ∧ Blk w (w0.heap.size + 1 + 1) 24 #[.slice Ao out.length co] ∧ MapIs w Try.prog 3 .i64 w0.heap.size out.length (seenF out) ∧
    w.ownsRow (w0.heap.size + 1 + 1 + 1) 3 1 (.slice Ao out.length co) out.length (out.map (.int .i64)) ∧ Below w0.heap.size w0 w
theorem AddSt.drewN {w0 w : World} {out : List Int} (h : AddSt w0 out w) (q : Nat) : AddSt w0 out (w.drewN q) := by
  obtain ⟨Ao, co, h1, h2, h3, h4, h5⟩ := h
  exact ⟨Ao, co, h1.drewN q, h2.drewN q, h3.drewN q, own_below h4 (below_drewN (Below.refl _ _) q), below_drewN h5 q⟩
theorem zero_bool (w : World) : (zeroValue 4).run Try.prog w = .ok (.bool false) w := by kernel_rfl
set_option maxRecDepth 100000 in
set_option maxHeartbeats 1000000 in
theorem add_any (w0 : World) (out : List Int) (x : Int) (w : World) (h : AddSt w0 out w) (hx : (Lit.int .i64 x).wf = true) (hl : out.length ≤ 100000) :
    Calls Try.prog 55 #[.int .i64 x, .pointer (some ⟨w0.heap.size + 1, 0, none⟩), .pointer (some ⟨w0.heap.size + 1 + 1, 0, none⟩)] w fun e w' => e = .returned (.tuple #[]) ∧ AddSt w0 (addL out x) w' := by
  obtain ⟨Ao, co, h1, h2, h3, h4, h5⟩ := h
  have hlook := h3.look (k := 3) (t := 114) Try.underlying3 Try.underlying114 (zero_bool _) hx
  have k0 := h1.cell 0
  simp only [List.getElem?_toArray, List.getElem?_cons_zero] at k0
  by_cases hm : x ∈ out
  · have e1 : seenF out x = some (.bool true) := by unfold seenF; rw [if_pos hm]
    have e2 : addL out x = out := by unfold addL; rw [if_pos hm]
    rw [e1] at hlook
    rw [e2]
    have hlook2 : (Instr.lookup 114 (.map (some w0.heap.size)) (.int .i64 x) false).run Try.prog w = .ok (.bool true) w := hlook
    have HS : Hid (AddSt w0 out w) := ⟨Ao, co, h1, h2, h3, h4, h5⟩
    clear hlook e1 e2 hm h1 h2 h3 h4 h5
    go_enter Try.func55, Try.ntmps55
    go_wp2
    go_end0
    exact ⟨rfl, HS.out⟩
  · have e1 : seenF out x = none := by unfold seenF; rw [if_neg hm]
    have e2 : addL out x = out ++ [x] := by unfold addL; rw [if_neg hm]
    rw [e1] at hlook
    rw [e2]
    have hlook2 : (Instr.lookup 114 (.map (some w0.heap.size)) (.int .i64 x) false).run Try.prog w = .ok (.bool false) w := hlook
    obtain ⟨w1, hupd, hM1, hg1⟩ := h3.store (k := 3) (t := 114) Try.underlying3 Try.underlying114 (by unfold maxLen; omega) (x := x) hx (.bool true)
    rw [← seenF_snoc] at hM1
    have hwl := h2.lt
    have hB1 := h1.grown hg1 (fun h => by injection h with h; omega)
    have hD1 := h2.grown hg1 (fun h => by injection h with h; omega)
    have hO1 := own_grown h4 hg1 (fun g hg h => by injection h with h; have := (h4.lt g hg).1; omega)
    have hb1 := h5.grown hg1 h5.size (fun g hg => by injection hg with hg; omega)
    have hw1 : w0.heap.size + 1 + 1 < w1.heap.size := hD1.lt
    have hB2 := hB1.alloc (.cells #[.int .i64 x] 3)
    have hD2 := hD1.alloc (.cells #[.int .i64 x] 3)
    have hM2 := hM1.alloc (.cells #[.int .i64 x] 3)
    have hO2 := hO1.alloc (.cells #[.int .i64 x] 3)
    have hb2 := hb1.alloc hb1.size (.cells #[.int .i64 x] 3)
    have d0 := hD1.cell 0
    have q0 := hB1.cell 0
    simp only [List.getElem?_toArray, List.getElem?_cons_zero] at d0 q0
    obtain ⟨i0, hi, hz0, hz1, hz2⟩ := info_parts info_int
    obtain ⟨k, hk⟩ : ∃ k, k = out.length := ⟨_, rfl⟩
    rw [← hk] at hO2 hD2 hM2 d0 hl
    have HK := Lib.hid hk
    have HM2 := Lib.hid hM2
    have HB2 := Lib.hid hB2
    have HD2 := Lib.hid hD2
    clear hlook e1 e2 hm h1 h2 h3 h4 h5 hM1 hB1 hD1 hO1 hb1 hB2 hD2 hM2 hg1 hk hwl
    go_enter Try.func55, Try.ntmps55
    go_wp2_with (at_builtin; refine wpList_append_any _ rfl (.tmp 10) (.tmp 12) 24 rfl (w0.heap.size + 1 + 1 + 1) 3 i0 (.int .i64 0) 1 8 Try.underlying24 hi hz0 hz1 hz2 rfl (by decide) (.slice Ao k co) k _ rfl hO2 (w1.heap.size + 1) (some ⟨w1.heap.size, 0, none⟩) 1 1 [.int .i64 x] rfl (reads_new w1 [.int .i64 x] 3 1 1 rfl) (by simp [Value.oneCell']) (by unfold maxLen; omega) (by omega) (by simp; omega) ?_; rintro v' w3 hown3 hgr - -; obtain ⟨A5, c5, rfl⟩ := own_slice hown3; have hD3 := HD2.out.grown hgr (fun h => own_off hO2 (by omega) h.symm); have p0 := hD3.cell 0; have pf := hD3.frozen 0; simp only [List.getElem?_toArray, List.getElem?_cons_zero] at p0)
    go_end0
    have hB3 := HB2.out.grown hgr (fun h => own_off hO2 (by omega) h.symm)
    have hM3 := HM2.out.kept hgr (fun h => own_off hO2 (by omega) h.symm)
    have hb3 := hb2.grown hgr hb2.size (fun g hg => by have := (hO2.lt g hg).1; omega)
    have hD4 : Blk (w3.setCell ⟨w0.heap.size + 1 + 1, 0, none⟩ (.slice A5 (k + 1) c5)) (w0.heap.size + 1 + 1) 24 #[.slice A5 (k + 1) c5] := by simpa using hD3.set_ 0 (.slice A5 (k + 1) c5)
    refine ⟨rfl, A5, c5, hB3.far (by dsimp only; omega) _, ?_, ?_, ?_, hb3.setCell (p := ⟨w0.heap.size + 1 + 1, 0, none⟩) (by dsimp only; omega) _⟩
    · rw [List.length_append, List.length_singleton, ← HK.out]
      exact hD4
    · rw [List.length_append, List.length_singleton, ← HK.out]
      exact hM3.setCell (by dsimp only; omega) _
    · rw [List.length_append, List.length_singleton, ← HK.out, List.map_append]
      exact own_apart hown3 (own_off hown3 (by dsimp only; omega)) _
end Go.Proofs.Ytbmkbnalembbjaa
