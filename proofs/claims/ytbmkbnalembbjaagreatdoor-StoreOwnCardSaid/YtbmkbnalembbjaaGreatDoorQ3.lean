/-
  Texts joined: Spots Check TintHeap StoreFrom Word.
-/
import Derived.Deep.RegionHeld3
import Derived.StillTailTactics
import Derived.IntWalk
import Derived.Test.YtbmkbnalembbjaaGreatDoorRows
import Derived.Test.YtbmkbnalembbjaaGreatDoorQ0
import Derived.Test.YtbmkbnalembbjaaGreatDoorQ1
import Derived.Test.YtbmkbnalembbjaaGreatDoorQ2
namespace Go.Proofs.YtbmkbnalembbjaaGreatDoor
open Go.RowKit
theorem info_spot : (Tryz.prog.info? 165).map (fun i => (i.zero, i.size, i.bytes)) = some (some (.agg #[.int .i64 0, .int .i64 0, .int .i64 0, .int .i64 0, .bool false]), 5, 40) := by kernel_rfl
set_option maxHeartbeats 400000 in
theorem spots_big (A : Option Addr) (n c : Nat) (w : World) (hn : 256 < n) :
    Calls Tryz.prog 117 #[.slice A n c] w fun e w' => e = .returned (.tuple #[.slice none 0 0, .int .i64 2]) ∧ w = w' := by
  go_enter Tryz.func117, Tryz.ntmps117
  go_wp2
  go_ret2
  exact ⟨rfl, rfl⟩
set_option maxRecDepth 100000 in
set_option maxHeartbeats 1000000 in
theorem spots_small (A : Option Addr) (n c : Nat) (a : List Int) (w : World) (hr : Reads w w.heap.size 1 A n (a.map (.int .u64))) (hn : n ≤ 256) (ha : ∀ x ∈ a, (Lit.int .u64 x).wf = true) :
    Calls Tryz.prog 117 #[.slice A n c] w fun e w' => Below w.heap.size w w' ∧ ∃ A' c', e = .returned (.tuple #[.slice A' (spotsL a).length c', .int .i64 (spotsE a)]) ∧ w'.ownsRow w.heap.size 165 5 (.slice A' (spotsL a).length c') (spotsL a).length (spotsC (spotsL a)) := by
  have hal : a.length = n := by have := hr.1; simpa using this
  have HL := Lib.hid hal
  obtain ⟨i0, hi, hz0, hz1, hz2⟩ := info_parts info_spot
  clear hal
  go_enter Tryz.func117, Tryz.ntmps117
  go_wp2
  go_loopw [4, 5] (fun o i wr => ∃ (j : Nat) (A' : Option Addr) (k c' : Nat) (acc : List Spot), j ≤ n ∧ i = .int .i64 j ∧ o = .slice A' k c' ∧ k ≤ j ∧ Hid (k = acc.length) ∧ Hid (spotsAt a 0 = (spotsAt a j).map (acc ++ ·)) ∧ wr.ownsRow w.heap.size 165 5 (.slice A' k c') k (spotsC acc) ∧ Below w.heap.size w wr) (fun _ i _ => n - (intOf i).toNat)
  case atStart => exact ⟨0, none, 0, 0, [], Nat.zero_le _, rfl, rfl, Nat.le_refl _, rfl, by show _ = _; simp, World.ownsRow_nil _ _ _ _, Below.refl _ _⟩
  case round =>
    obtain ⟨j, A', k, c', acc, hj, rfl, rfl, hkj, hk, hS, hown, hb⟩ := hrel
    by_cases hlt : j < n
    · obtain ⟨ad, v, rfl, had, hv, hc⟩ := (hr.below hb).num hlt
      have HV : Hid (a.getD j 0 = v) := by show _ = _; rw [List.getD_eq_getElem?_getD, hv]; rfl
      obtain ⟨v0, v1⟩ : 0 ≤ v ∧ v < 18446744073709551616 := by have := ha v (List.mem_of_getElem? hv); simp [Lit.wf, IntKind.min, IntKind.max, IntKind.signed, IntKind.bits] at this; omega
      clear hv
      by_cases hok : readOk v
      · have hE := headE_ok.1 hok.2
        have HR := Lib.hid (fun w => hread_ok v w v0 v1 hok)
        have HG := Lib.hid (fun w => hlongc_ok (rdR v) (rdB v) (rdT v) (rdF v) w hok.2)
        have HO := Lib.hid hok
        have HH : Hid (((hlen v : Nat) : Int) = 1 + rdR v + rdB v) := by show _ = _; unfold hlen; omega
        have HP : Hid (spotOf j v = ⟨j, rdR v, rdB v, rdT v, rdF v⟩) := rfl
        obtain ⟨r0, r1, b0, b1, t0, t1, l1, _⟩ := hE
        generalize rdR v = r at *
        generalize rdB v = b at *
        generalize rdT v = t at *
        generalize rdF v = f at *
        clear hok
        by_cases hfit : 1 + r + b ≤ (n : Int) - j
        · go_wp2_with fail
          refine (HR.out _).mono ?_
          rintro e w1 ⟨rfl, hb1⟩
          have hown1 := (own_below hown hb1).alloc (.cells #[.int .i64 r, .int .i64 b, .int .i64 t, .bool f] 50)
          have hb01 := hb.trans (hb1.mono hb.size)
          have hb02 := hb01.alloc hb01.size (.cells #[.int .i64 r, .int .i64 b, .int .i64 t, .bool f] 50)
          have hbl := Blk.new w1 50 #[.int .i64 r, .int .i64 b, .int .i64 t, .bool f]
          clear hown hb hb1
          go_wp2_with fail
          refine (HG.out _).mono ?_
          rintro e w2 ⟨rfl, hb2⟩
          have hbl2 := hbl.below hb2 (by simp)
          have k0 := hbl2.cell 0
          have k1 := hbl2.cell 1
          have k2 := hbl2.cell 2
          have k3 := hbl2.cell 3
          simp only [List.getElem?_toArray, List.getElem?_cons_zero, List.getElem?_cons_succ] at k0 k1 k2 k3
          have hown2 := (own_below hown1 hb2).alloc (.cells (spotC ⟨j, r, b, t, f⟩).toArray 165)
          have hb03 := hb02.trans (hb2.mono hb02.size)
          have hb04 := hb03.alloc hb03.size (.cells (spotC ⟨j, r, b, t, f⟩).toArray 165)
          have hnew := reads_new w2 (spotC ⟨j, r, b, t, f⟩) 165 1 5 rfl
          clear hown1 hb01 hb02 hb2 hbl hbl2
          go_wp2_with (at_builtin; refine wpList_append_any _ rfl (.tmp 40) (.tmp 44) 153 rfl w.heap.size 165 i0 _ 5 40 Tryz.underlying153 hi hz0 hz1 hz2 rfl (by decide) (.slice A' k c') k _ rfl hown2 (w2.heap.size + 1) (some ⟨w2.heap.size, 0, none⟩) 1 1 (spotC ⟨j, r, b, t, f⟩) rfl hnew (by simp [spotC, Value.oneCell']) (by simp [maxLen]; omega) (by omega) (by have := hb04.size; exact this) ?_; rintro v' w3 hown3 hgr hbl -; obtain ⟨A'', c'', rfl⟩ := own_slice hown3)
          have hb3 : Below w.heap.size w w3 := hb04.grown hgr hb04.size (fun g hg => (hown2.lt g hg).1)
          have hjl : j + hlen v ≤ n := by have := HH.out; omega
          go_roundw
          case rel => exact ⟨j + hlen v, A'', k + 1, c'', acc ++ [spotOf j v], hjl, by rw [Int.natCast_add, HH.out], rfl, by have := HH.out; omega, by show _ = _; rw [List.length_append, ← hk.out]; rfl, by
            show _ = _
            rw [hS.out, spotsAt_step (by rw [HL.out]; exact hlt) (by rw [HV.out]; exact HO.out) (by rw [HV.out, HL.out]; exact hjl), HV.out, Option.map_map]
            congr 1
            funext x
            simp, by rw [spotsC_snoc, HP.out]; exact hown3, hb3⟩
          case measure => have := HH.out; simp [intOf]; omega
        · have HZ : Hid (spotsAt a 0 = none) := by
            show _ = _
            rw [hS.out, spotsAt_bad (by rw [HL.out]; exact hlt) (by rw [HV.out, HL.out]; rintro ⟨_, h⟩; have := HH.out; omega)]
            rfl
          clear hown hS
          go_wp2_with fail
          refine (HR.out _).mono ?_
          rintro e w1 ⟨rfl, hb1⟩
          have hb01 := hb.trans (hb1.mono hb.size)
          go_wp2_with fail
          refine (HG.out _).mono ?_
          rintro e w2 ⟨rfl, hb2⟩
          go_wp2
          go_ret2
          have he : spotsE a = 3 := by unfold spotsE; rw [if_neg (by rw [HL.out]; omega), if_pos HZ.out]
          have hl : spotsL a = [] := spotsL_bad (by rw [he]; decide)
          rw [he, hl]
          exact ⟨(hb01.alloc hb01.size _).trans (hb2.mono (by have := hb01.size; simp; omega)), none, 0, rfl, World.ownsRow_nil _ _ _ _⟩
      · have HR := Lib.hid (fun w => hread_bad v w v0 v1 hok)
        have HG := Lib.hid (fun w => hlongc_ok 0 0 0 false w (by decide))
        have HZ : Hid (spotsAt a 0 = none) := by
          show _ = _
          rw [hS.out, spotsAt_bad (by rw [HL.out]; exact hlt) (by rw [HV.out]; rintro ⟨h, _⟩; exact hok h)]
          rfl
        clear hown hS hok
        go_wp2_with fail
        refine (HR.out _).mono ?_
        rintro e w1 ⟨rfl, hb1⟩
        have hb01 := hb.trans (hb1.mono hb.size)
        go_wp2_with fail
        refine (HG.out _).mono ?_
        rintro e w2 ⟨rfl, hb2⟩
        go_wp2
        go_ret2
        have he : spotsE a = 3 := by unfold spotsE; rw [if_neg (by rw [HL.out]; omega), if_pos HZ.out]
        have hl : spotsL a = [] := spotsL_bad (by rw [he]; decide)
        rw [he, hl]
        exact ⟨(hb01.alloc hb01.size _).trans (hb2.mono (by have := hb01.size; simp; omega)), none, 0, rfl, World.ownsRow_nil _ _ _ _⟩
    · have hjn : j = n := by omega
      subst hjn
      have HZ : Hid (spotsAt a 0 = some acc) := by
        show _ = _
        rw [hS.out, spotsAt_end (by rw [HL.out]; exact Nat.le_refl _)]
        simp
      clear hS
      go_wp2
      go_ret2
      have he : spotsE a = 0 := by unfold spotsE; rw [if_neg (by rw [HL.out]; omega), if_neg (by rw [HZ.out]; exact fun h => by cases h)]
      have hl : spotsL a = acc := by unfold spotsL; rw [if_neg (by rw [HL.out]; omega), HZ.out]; rfl
      rw [he, hl, ← hk.out]
      exact ⟨hb, A', c', rfl, hown⟩
theorem spots_any (A : Option Addr) (n c : Nat) (a : List Int) (w : World) (hr : Reads w w.heap.size 1 A n (a.map (.int .u64))) (ha : ∀ x ∈ a, (Lit.int .u64 x).wf = true) :
    Calls Tryz.prog 117 #[.slice A n c] w fun e w' => Below w.heap.size w w' ∧ ∃ A' c', e = .returned (.tuple #[.slice A' (spotsL a).length c', .int .i64 (spotsE a)]) ∧ w'.ownsRow w.heap.size 165 5 (.slice A' (spotsL a).length c') (spotsL a).length (spotsC (spotsL a)) := by
  by_cases hn : n ≤ 256
  · exact spots_small A n c a w hr hn ha
  · have hal : a.length = n := by have := hr.1; simpa using this
    refine (spots_big A n c w (by omega)).mono ?_
    rintro e w' ⟨rfl, rfl⟩
    have he : spotsE a = 2 := by unfold spotsE; rw [if_pos (by omega)]
    have hl : spotsL a = [] := spotsL_bad (by rw [he]; decide)
    rw [he, hl]
    exact ⟨Below.refl _ _, none, 0, rfl, World.ownsRow_nil _ _ _ _⟩
end Go.Proofs.YtbmkbnalembbjaaGreatDoor

namespace Go.Proofs.YtbmkbnalembbjaaGreatDoor
open Go.RowKit
def spotV (s : Spot) : Value := .agg #[.int .i64 s.loc, .int .i64 s.r, .int .i64 s.b, .int .i64 s.t, .bool s.f]
set_option maxHeartbeats 400000 in
theorem refs_any (A : Option Addr) (n c B : Nat) (a : List Int) (s : Spot) (w : World) (hr : Reads w B 1 A n (a.map (.int .u64))) (hB : B ≤ w.heap.size) (hc : n ≤ c) (hn : n ≤ 256) (hs : SpotOk a s) :
    Calls Tryz.prog 119 #[.slice A n c, .agg #[.int .i64 s.loc, .int .i64 s.r, .int .i64 s.b, .int .i64 s.t, .bool s.f]] w fun e w' => Below w.heap.size w w' ∧ ∃ A' c', e = .returned (.slice A' s.r.toNat c') ∧ s.r.toNat ≤ c' ∧ Reads w' B 1 A' s.r.toNat ((refsOf a s).map (.int .u64)) := by
  have hal : a.length = n := by have := hr.1; simpa using this
  have l0 := hs.loc0
  have r0 := hs.r0
  have b0 := hs.b0
  have ft := hs.fits
  clear hs
  obtain ⟨loc, r, b, t, f⟩ := s
  simp only [Spot.long] at ft l0 r0 b0 ⊢
  obtain ⟨i, rfl⟩ := Int.eq_ofNat_of_zero_le l0
  obtain ⟨k, rfl⟩ := Int.eq_ofNat_of_zero_le r0
  rw [hal] at ft
  have HS := Lib.hid (hr.sub (lo := i + 1) (hi := i + 1 + k) (by omega) (by omega) hc)
  have hpos : 0 < n := by omega
  obtain ⟨ad, rfl, had, -⟩ := hr.2 hpos
  rw [Int.toNat_natCast]
  have ek : ∀ (A : Option Addr) (c : Nat), Ending.returned (.slice A (i + 1 + k - (i + 1)) c) = .returned (.slice A k c) := fun A c => by rw [show i + 1 + k - (i + 1) = k by omega]
  have EK := Lib.hid ek
  clear ek
  have HR : Hid ((refsOf a ⟨i, k, b, t, f⟩).map (Value.int .u64) = ((a.map (Value.int .u64)).drop (i + 1)).take (i + 1 + k - (i + 1))) := by
    show _ = _
    simp only [refsOf, Int.toNat_natCast, List.map_take, List.map_drop]
    rw [show i + 1 + k - (i + 1) = k by omega]
  have h1 : i + 1 + k ≤ n := by omega
  clear hal hr l0 r0
  by_cases hci : c = i + 1
  · have HS := HS.out
    rw [if_pos hci, ← HR.out, show i + 1 + k - (i + 1) = k by omega] at HS
    have HS := Lib.hid (HS.alloc hB (.cells #[.int .i64 i, .int .i64 k, .int .i64 b, .int .i64 t, .bool f] 165))
    go_enter Tryz.func119, Tryz.ntmps119
    go_wp2
    go_ret
    exact ⟨below_new _ _, _, _, EK.out _ _, by omega, HS.out⟩
  · have HS := HS.out
    rw [if_neg hci, ← HR.out, show i + 1 + k - (i + 1) = k by omega] at HS
    have HS := Lib.hid (HS.alloc hB (.cells #[.int .i64 i, .int .i64 k, .int .i64 b, .int .i64 t, .bool f] 165))
    go_enter Tryz.func119, Tryz.ntmps119
    go_wp2
    go_ret
    exact ⟨below_new _ _, _, _, EK.out _ _, by omega, HS.out⟩
theorem zero_int (w : World) : (zeroValue 3).run Tryz.prog w = .ok (.int .i64 0) w := by kernel_rfl
set_option maxRecDepth 100000 in
set_option maxHeartbeats 1000000 in
theorem places_any (A : Option Addr) (n c : Nat) (l : List Spot) (w : World) (hr : Reads w w.heap.size 5 A n (spotsC l)) (hn : n ≤ 256) (hl : l.Pairwise (fun s t => s.loc < t.loc)) (hb : ∀ s ∈ l, 0 ≤ s.loc ∧ s.loc ≤ 256) :
    Calls Tryz.prog 118 #[.slice A n c] w fun e w' => Below w.heap.size w w' ∧ ∃ b, e = .returned (.map (some b)) ∧ w.heap.size ≤ b ∧ MapIs w' Tryz.prog 45 .u64 b 300 (placeV l) := by
  have hll : l.length = n := by have := hr.1; rw [spotsC_length] at this; omega
  have HL := Lib.hid hll
  have HO := Lib.hid hl
  have HB := Lib.hid hb
  clear hll hl hb
  obtain ⟨w1, hins, hM, hg1⟩ := (MapIs.made w Tryz.prog 45 .u64).store (k := 45) (t := 154) Tryz.underlying45 Tryz.underlying154 (by decide) (x := 0) (by decide) (.int .i64 (-1))
  rw [← placeV_nil] at hM
  have hb1 : Below w.heap.size w w1 := (below_new w _).grown hg1 (by simp) (by simp)
  have HM := Lib.hid (hM.mono (show 0 + 1 ≤ 1 by omega))
  clear hM
  have hmm := @run_makeMap Tryz.prog
  go_enter Tryz.func118, Tryz.ntmps118
  go_wp2
  clear hins
  go_loopw [4, 5, 10] (fun _ _ i wr => ∃ j : Nat, j ≤ n ∧ i = .int .i64 j ∧ MapIs wr Tryz.prog 45 .u64 w.heap.size (j + 1) (placeV (l.take j)) ∧ Below w.heap.size w wr) (fun _ _ i _ => n - (intOf i).toNat)
  case atStart => exact ⟨0, Nat.zero_le _, rfl, HM.out, hb1⟩
  case round =>
    obtain ⟨j, hj, rfl, hM, hb⟩ := hrel
    by_cases hlt : j < n
    · obtain ⟨ad, s, rfl, had, hs, c0, c1, c2, c3, c4⟩ := (hr.below hb).spot hlt
      have hq := HB.out s (List.mem_of_getElem? hs)
      have HT : Hid (l.take (j + 1) = l.take j ++ [s]) := by
        show _ = _
        obtain ⟨h1, rfl⟩ := List.getElem?_eq_some_iff.1 hs
        exact List.take_succ_eq_append_getElem h1
      have HJ : Hid (∀ x ∈ l.take j, x.loc < s.loc) := by
        intro x hx
        rw [List.mem_take_iff_getElem] at hx
        obtain ⟨k, hk, rfl⟩ := hx
        obtain ⟨h1, rfl⟩ := List.getElem?_eq_some_iff.1 hs
        exact List.pairwise_iff_getElem.1 HO.out k j (by omega) h1 (by omega)
      obtain ⟨loc, r, b, t, f⟩ := s
      dsimp only at c0 c1 c2 c3 c4 hq
      have hM0 := hM.alloc (.cells #[.int .i64 loc, .int .i64 r, .int .i64 b, .int .i64 t, .bool f] 165)
      have hb0 := hb.alloc hb.size (.cells #[.int .i64 loc, .int .i64 r, .int .i64 b, .int .i64 t, .bool f] 165)
      clear hM hs
      cases f
      · have hlen : (l.take j).length = j := by rw [List.length_take, HL.out]; omega
        have hP := placeV_snoc (l := l.take j) (s := ⟨loc, r, b, t, false⟩) rfl hq.1 HJ.out
        rw [← HT.out, hlen] at hP
        obtain ⟨w2, hupd, hM2, hg2⟩ := hM0.store (k := 45) (t := 154) Tryz.underlying45 Tryz.underlying154 (by unfold maxLen; omega) (x := loc + 1) (by simp [Lit.wf, IntKind.min, IntKind.max, IntKind.signed, IntKind.bits]; omega) (.int .i64 j)
        rw [← hP] at hM2
        have HM2 := Lib.hid hM2
        have hb2 := hb0.grown hg2 hb0.size (by simp)
        clear hP hlen hM2 hM0 hb0
        obtain ⟨q0, q1⟩ := hq
        go_wp2
        go_roundw
        case rel => exact ⟨j + 1, by omega, by go_num, HM2.out, hb2⟩
        case measure => simp [intOf]; omega
      · have HP : Hid (placeV (l.take (j + 1)) = placeV (l.take j)) := by show _ = _; rw [HT.out]; exact placeV_free rfl
        go_wp2
        go_roundw
        case rel => exact ⟨j + 1, by omega, by go_num, by rw [HP.out]; exact hM0.mono (by omega), hb0⟩
        case measure => simp [intOf]; omega
    · have hjn : j = n := by omega
      subst hjn
      rw [List.take_of_length_le (by rw [HL.out]; exact Nat.le_refl _)] at hM
      go_wp2
      go_ret
      exact ⟨hb, _, rfl, Nat.le_refl _, hM.mono (by omega)⟩
theorem spots_bounds {a : List Int} (h : spotsE a = 0) : ∀ s ∈ spotsL a, 0 ≤ s.loc ∧ s.loc ≤ 256 := by
  intro s hs
  obtain ⟨hlen, hp⟩ := parse_ok h
  have := (parse_mem hp s hs).1
  have h1 := this.loc0
  have h2 := this.fits
  have h3 := this.r0
  have h4 := this.b0
  unfold Spot.long at h2
  omega
set_option maxHeartbeats 400000 in
theorem check_bad0 (A : Option Addr) (n c : Nat) (a : List Int) (w : World) (hr : Reads w w.heap.size 1 A n (a.map (.int .u64))) (ha : ∀ x ∈ a, (Lit.int .u64 x).wf = true) (hE : spotsE a ≠ 0) :
    Calls Tryz.prog 84 #[.slice A n c] w fun e w' => e = .returned (.tuple #[.slice none 0 0, .map none, .int .i64 (checkE a)]) ∧ Below w.heap.size w w' := by
  have H := fun w hr => spots_any A n c a w hr ha
  rw [spotsL_bad hE] at H
  have HH := Lib.hid H
  have hc : checkE a = spotsE a := by unfold checkE; rw [if_pos hE]
  rw [hc]
  clear H hc
  generalize spotsE a = E at *
  have hE1 : (E != 0) = true := by simpa using hE
  go_enter Tryz.func84, Tryz.ntmps84
  go_wp2_with (go_at_call 117; refine (HH.out _ hr).mono ?_; rintro e w2 ⟨hb2, A', c', rfl, -⟩)
  go_ret3
  exact ⟨rfl, hb2⟩
set_option maxRecDepth 100000 in
set_option maxHeartbeats 1000000 in
theorem check_parse (A : Option Addr) (n c : Nat) (a : List Int) (w : World) (hr : Reads w w.heap.size 1 A n (a.map (.int .u64))) (hnc : n ≤ c) (ha : ∀ x ∈ a, (Lit.int .u64 x).wf = true) (hE : spotsE a = 0) :
    Calls Tryz.prog 84 #[.slice A n c] w fun e w' => Below w.heap.size w w' ∧ ((refsOk (spotsL a) a = false ∧ e = .returned (.tuple #[.slice none 0 0, .map none, .int .i64 5])) ∨
      (refsOk (spotsL a) a = true ∧ ∃ A' c' b, e = .returned (.tuple #[.slice A' (spotsL a).length c', .map (some b), .int .i64 0]) ∧ w.heap.size ≤ b ∧ w'.ownsRow w.heap.size 165 5 (.slice A' (spotsL a).length c') (spotsL a).length (spotsC (spotsL a)) ∧ MapIs w' Tryz.prog 45 .u64 b 300 (placeV (spotsL a)))) := by
  have H := fun w hr => spots_any A n c a w hr ha
  obtain ⟨hlen, hP⟩ := parse_ok hE
  have hrise := spots_rise hE
  have hbnd := spots_bounds hE
  rw [hE] at H
  have HH := Lib.hid H
  have hal : a.length = n := by have := hr.1; simpa using this
  have hn : n ≤ 256 := by omega
  have hm256 := spotsL_length a
  generalize spotsL a = l at *
  have HS := Lib.hid (fun s hs => (parse_mem hP s hs).1)
  have HPl := Lib.hid (fun A n c w hr hn => places_any A n c l w hr hn hrise hbnd)
  clear H hP hE hal hlen hrise hbnd
  go_enter Tryz.func84, Tryz.ntmps84
  go_wp2_with (go_at_call 117; refine (HH.out _ hr).mono ?_; rintro e w1 ⟨hb1, A', c', rfl, hown⟩)
  have hrl := Reads.of_own hown
  obtain ⟨m, hm⟩ : ∃ m, m = l.length := ⟨_, rfl⟩
  rw [← hm] at hrl hm256 hown
  rw [← hm]
  have HM := Lib.hid hm
  clear hm
  go_wp2_with fail
  refine (HPl.out _ _ _ _ hrl hm256).mono ?_
  rintro e w2 ⟨hb2, b, rfl, hbb, hMp⟩
  have hown2 := own_below hown hb2
  have hrl2 := (hrl.below hb2).more hb2.size
  have hb02 := below_step hb1 hb2
  have hbw : w.heap.size ≤ b := Nat.le_trans hb1.size hbb
  have hblt := hMp.lt
  clear hown hrl hb1 hb2 hbb
  go_wp2
  go_loopw [26] (fun i wr => ∃ j : Nat, j ≤ m ∧ i = .int .i64 j ∧ Below w2.heap.size w2 wr ∧ Hid (∀ s ∈ l.take j, (refsOf a s).all (fun v => (placeF l v).isSome) = true)) (fun i _ => m - (intOf i).toNat)
  case atStart => exact ⟨0, Nat.zero_le _, rfl, Below.refl _ _, by intro s hs; simp at hs⟩
  case round =>
    obtain ⟨j, hj, rfl, hb, hD⟩ := hrel
    by_cases hlt : j < m
    · obtain ⟨ad, s, rfl, had, hs, c0, c1, c2, c3, c4⟩ := (hrl2.below hb).spot hlt
      have hok := HS.out s (List.mem_of_getElem? hs)
      have hbw2 := hb02.trans (hb.mono hb02.size)
      have HT : Hid (l.take (j + 1) = l.take j ++ [s]) := by
        show _ = _
        obtain ⟨h1, rfl⟩ := List.getElem?_eq_some_iff.1 hs
        exact List.take_succ_eq_append_getElem h1
      have HSM : Hid (s ∈ l) := List.mem_of_getElem? hs
      have hb0 := hb.alloc hb.size (.cells (spotC s).toArray 165)
      have hbw0 := hbw2.alloc hbw2.size (.cells (spotC s).toArray 165)
      have HR := Lib.hid (refs_any A n c _ a s _ ((hr.below hbw0).more hbw0.size) (Nat.le_refl _) hnc hn hok)
      have hr0 := hok.r0
      have HF := Lib.hid (refsOf_length hok)
      have hr256 : s.r.toNat ≤ 256 := by have h1 := hok.fit256; unfold Spot.long at h1; have := hok.b0; omega
      clear hs hok hb hbw2
      have HRef : Hid (∃ rs, rs = refsOf a s) := ⟨_, rfl⟩
      go_wp2_with fail
      refine HR.out.mono ?_
      rintro e w3 ⟨hb3, A3, c3, rfl, hc3, hrr⟩
      have hb13 := hb0.trans (hb3.mono hb0.size)
      obtain ⟨q, hq⟩ : ∃ q, q = s.r.toNat := ⟨_, rfl⟩
      rw [← hq] at hrr hr256 hc3
      rw [← hq]
      have HQ := Lib.hid hq
      obtain ⟨rs, hrs⟩ : ∃ rs, rs = refsOf a s := ⟨_, rfl⟩
      rw [← hrs] at hrr
      have HRS := Lib.hid hrs
      have hrr' := hrr.more hb3.size
      have hb03 := hbw0.trans (hb3.mono hbw0.size)
      have hMr := hMp.below hb13 hblt
      have hbl3 : b < w3.heap.size := hMr.lt
      obtain ⟨wo, rfl⟩ : ∃ wo : World, wo = wr := ⟨_, rfl⟩
      clear hb0 hbw0 hb3 hrr hq hrs hr0
      go_wp2
      go_loopw [11, 34] (fun _ i wr => ∃ p : Nat, p ≤ q ∧ i = .int .i64 p ∧ Below w3.heap.size w3 wr ∧ Hid (∀ v ∈ rs.take p, (placeF l v).isSome = true)) (fun _ i _ => q - (intOf i).toNat)
      case atStart => exact ⟨0, Nat.zero_le _, rfl, Below.refl _ _, by intro s hs; simp at hs⟩
      case round =>
        obtain ⟨p, hp, rfl, hb, hD2⟩ := hrel
        by_cases hlt2 : p < q
        · obtain ⟨ad3, v, rfl, had3, hv, hc⟩ := (hrr'.below hb).num hlt2
          have hvm : v ∈ a := by
            have := List.mem_of_getElem? hv
            rw [HRS.out] at this
            unfold refsOf at this
            exact List.mem_of_mem_drop (List.mem_of_mem_take this)
          have hvw := ha v hvm
          have hlook := (hMr.below hb hbl3).look_ok Tryz.underlying45 Tryz.underlying154 (zero_int _) hvw
          have hpv : (placeV l v).isSome = (placeF l v).isSome := by unfold placeV; rw [Option.isSome_map]
          rw [hpv] at hlook
          have HV := Lib.hid hv
          clear hv hvm hvw hpv
          generalize hgd : (placeV l v).getD (.int .i64 0) = gd at hlook
          clear hgd
          cases hsome : (placeF l v).isSome
          · rw [hsome] at hlook
            have HSo := Lib.hid hsome
            clear hsome
            go_wp2
            go_ret3
            refine ⟨hb03.trans (hb.mono hb03.size), .inl ⟨?_, rfl⟩⟩
            unfold refsOk
            rw [List.all_eq_false]
            refine ⟨s, HSM.out, ?_⟩
            rw [Bool.not_eq_true, List.all_eq_false]
            exact ⟨v, by rw [← HRS.out]; exact List.mem_of_getElem? HV.out, by rw [HSo.out]; decide⟩
          · rw [hsome] at hlook
            have HSo := Lib.hid hsome
            clear hsome
            go_wp2
            go_roundw
            case rel => exact ⟨p + 1, by omega, by go_num, hb, fun x hx => by
              rcases take_succ_mem HV.out x hx with h | rfl
              · exact hD2.out x h
              · exact HSo.out⟩
            case measure => simp [intOf]; omega
        · have hpq : p = q := by omega
          subst hpq
          have HA : Hid (∀ x ∈ l.take (j + 1), (refsOf a x).all (fun v => (placeF l v).isSome) = true) := by
            intro x hx
            rw [HT.out, List.mem_append, List.mem_singleton] at hx
            rcases hx with hx | rfl
            · exact hD.out x hx
            · rw [List.all_eq_true]
              intro v hv
              refine hD2.out v ?_
              rw [← HRS.out] at hv
              rw [List.take_of_length_le (by rw [HRS.out, HF.out, ← HQ.out]; exact Nat.le_refl _)]
              exact hv
          have hb15 := hb13.trans (hb.mono hb13.size)
          clear hD2 hb
          go_wp2
          go_roundw
          case rel => exact ⟨j + 1, by omega, by go_num, hb15, HA⟩
          case measure => simp [intOf]; omega
    · have hjm : j = m := by omega
      subst hjm
      have HA : Hid (refsOk l a = true) := by
        show _ = _
        unfold refsOk
        rw [List.all_eq_true]
        intro s hs
        exact hD.out s (by rw [List.take_of_length_le (by rw [← HM.out]; exact Nat.le_refl _)]; exact hs)
      have hown3 := own_below hown2 hb
      have hM3 := hMp.below hb hblt
      clear hD
      go_wp2
      go_ret3
      have e := HM.out
      subst e
      exact ⟨hb02.trans (hb.mono hb02.size), .inr ⟨HA.out, A', c', b, rfl, hbw, hown3, hM3⟩⟩
theorem refsOk_false {a : List Int} (h0 : spotsE a = 0) (h : refsOk (spotsL a) a = false) : checkE a = 5 := by
  unfold checkE
  rw [if_neg (by simp [h0]), if_neg (by simp [h])]
theorem refsOk_true {a : List Int} (h0 : spotsE a = 0) (h : refsOk (spotsL a) a = true) : checkE a = 0 := checkE_ok.2 ⟨h0, h⟩
theorem check_bad (A : Option Addr) (n c : Nat) (a : List Int) (w : World) (hr : Reads w w.heap.size 1 A n (a.map (.int .u64))) (hnc : n ≤ c) (ha : ∀ x ∈ a, (Lit.int .u64 x).wf = true) (hE : checkE a ≠ 0) :
    Calls Tryz.prog 84 #[.slice A n c] w fun e w' => e = .returned (.tuple #[.slice none 0 0, .map none, .int .i64 (checkE a)]) ∧ Below w.heap.size w w' := by
  by_cases h0 : spotsE a = 0
  · refine (check_parse A n c a w hr hnc ha h0).mono ?_
    rintro e w' ⟨hb, ⟨h1, h2⟩ | ⟨h1, _⟩⟩
    · rw [refsOk_false h0 h1]
      exact ⟨h2, hb⟩
    · exact absurd (refsOk_true h0 h1) hE
  · exact check_bad0 A n c a w hr ha h0
theorem check_ok (A : Option Addr) (n c : Nat) (a : List Int) (w : World) (hr : Reads w w.heap.size 1 A n (a.map (.int .u64))) (hnc : n ≤ c) (ha : ∀ x ∈ a, (Lit.int .u64 x).wf = true) (hE : checkE a = 0) :
    Calls Tryz.prog 84 #[.slice A n c] w fun e w' => Below w.heap.size w w' ∧ ∃ A' c' b, e = .returned (.tuple #[.slice A' (spotsL a).length c', .map (some b), .int .i64 0]) ∧ w.heap.size ≤ b ∧ w'.ownsRow w.heap.size 165 5 (.slice A' (spotsL a).length c') (spotsL a).length (spotsC (spotsL a)) ∧ MapIs w' Tryz.prog 45 .u64 b 300 (placeV (spotsL a)) := by
  obtain ⟨h0, h1⟩ := checkE_ok.1 hE
  refine (check_parse A n c a w hr hnc ha h0).mono ?_
  rintro e w' ⟨hb, ⟨h2, _⟩ | ⟨_, h2⟩⟩
  · rw [h1] at h2; cases h2
  · exact ⟨hb, h2⟩
set_option maxHeartbeats 400000 in
theorem checkFn_any (A : Option Addr) (n c : Nat) (a : List Int) (w : World) (hr : Reads w w.heap.size 1 A n (a.map (.int .u64))) (hnc : n ≤ c) (ha : ∀ x ∈ a, (Lit.int .u64 x).wf = true) :
    Calls Tryz.prog 53 #[.slice A n c] w fun e w' => e = .returned (.int .i64 (checkE a)) ∧ Below w.heap.size w w' := by
  by_cases hE : checkE a = 0
  · have H := Lib.hid (check_ok A n c a w hr hnc ha hE)
    rw [hE]
    clear hE
    go_enter Tryz.func53, Tryz.ntmps53
    go_wp2_with fail
    refine H.out.mono ?_
    rintro e w1 ⟨hb, A', c', b, rfl, -, -, -⟩
    go_wp2
    go_ret
    exact ⟨rfl, hb⟩
  · have H := Lib.hid (check_bad A n c a w hr hnc ha hE)
    generalize checkE a = E at *
    clear hE
    go_enter Tryz.func53, Tryz.ntmps53
    go_wp2_with fail
    refine H.out.mono ?_
    rintro e w1 ⟨rfl, hb⟩
    go_wp2
    go_ret
    exact ⟨rfl, hb⟩
end Go.Proofs.YtbmkbnalembbjaaGreatDoor

namespace Go.Proofs.YtbmkbnalembbjaaGreatDoor
open Go.RowKit
def HeapIs (w : World) (base gh : Nat) (A : Option Addr) (n c : Nat) (S : List Spot) : Prop :=
  ∃ b Ao k co, Blk w gh 228 #[.slice A n c, .map (some b), .slice Ao k co] ∧ base ≤ gh ∧ base ≤ b ∧ MapIs w Tryz.prog 3 .i64 b 300 (headF S) ∧ w.ownsRow base 3 1 (.slice Ao k co) k ((begsL S).map (.int .i64))
theorem HeapIs.below {w w' : World} {base gh n c : Nat} {A : Option Addr} {S : List Spot} (h : HeapIs w base gh A n c S) (hb : Below w.heap.size w w') : HeapIs w' base gh A n c S := by
  obtain ⟨b, Ao, k, co, h1, h2, h3, h4, h5⟩ := h
  exact ⟨b, Ao, k, co, h1.below hb h1.lt, h2, h3, h4.below hb h4.lt, own_below h5 hb⟩
theorem HeapIs.mono {w : World} {base base' gh n c : Nat} {A : Option Addr} {S : List Spot} (h : HeapIs w base' gh A n c S) (hb : base ≤ base') : HeapIs w base gh A n c S := by
  obtain ⟨b, Ao, k, co, h1, h2, h3, h4, h5⟩ := h
  exact ⟨b, Ao, k, co, h1, by omega, by omega, h4, own_mono h5 hb⟩
theorem own_kinds {w : World} {base base' size size' n n' : Nat} {e e' : TypeId} {v v' : Value} {xs xs' : List Value} (h : w.ownsRow base e size v n xs) (h' : w.ownsRow base' e' size' v' n' xs') (hne : e ≠ e') {g : Nat} (hg : v.ownBlock = some g) : v'.ownBlock ≠ some g := by
  intro hg'
  rcases h.2 with ⟨rfl, _⟩ | ⟨g1, cap, cur, rfl, _, hh, _⟩
  · cases hg
  · rcases h'.2 with ⟨rfl, _⟩ | ⟨g2, cap2, cur2, rfl, _, hh2, _⟩
    · cases hg'
    · simp only [Value.ownBlock, Option.some.injEq] at hg hg'
      subst hg hg'
      rw [hh] at hh2
      injection hh2 with hh2
      injection hh2 with _ ht
      exact hne ht
theorem own_off {w : World} {base size n b : Nat} {e : TypeId} {v : Value} {xs : List Value} (h : w.ownsRow base e size v n xs) (hb : b < base) : v.ownBlock ≠ some b := fun hg => by have := (h.lt b hg).1; omega
theorem zero_head (w : World) : (zeroValue 50).run Tryz.prog w = .ok (.agg #[.int .i64 0, .int .i64 0, .int .i64 0, .bool false]) w := by kernel_rfl
set_option maxHeartbeats 400000 in
theorem heap_bad (A : Option Addr) (n c : Nat) (a : List Int) (A2 : Option Addr) (n2 c2 : Nat) (w : World) (hr : Reads w w.heap.size 1 A n (a.map (.int .u64))) (hnc : n ≤ c) (ha : ∀ x ∈ a, (Lit.int .u64 x).wf = true) (hE : checkE a ≠ 0) :
    Calls Tryz.prog 130 #[.slice A n c, .slice A2 n2 c2] w fun e w' => e = .returned (.tuple #[.pointer none, .int .i64 (checkE a)]) ∧ Below w.heap.size w w' := by
  have H := Lib.hid (checkFn_any A n c a w hr hnc ha)
  have hE1 : (checkE a != 0) = true := by simpa using hE
  generalize checkE a = E at *
  clear hE hr
  go_enter Tryz.func130, Tryz.ntmps130
  go_wp2_with fail
  refine H.out.mono ?_
  rintro e w1 ⟨rfl, hb1⟩
  go_wp2
  go_ret2
  exact ⟨rfl, hb1⟩
set_option maxRecDepth 100000 in
set_option maxHeartbeats 2000000 in
theorem heap_ok (A : Option Addr) (n c : Nat) (a : List Int) (A2 : Option Addr) (n2 c2 : Nat) (f : List Int) (w : World) (hr : Reads w w.heap.size 1 A n (a.map (.int .u64))) (hnc : n ≤ c) (ha : ∀ x ∈ a, (Lit.int .u64 x).wf = true)
    (hr2 : Reads w w.heap.size 1 A2 n2 (f.map (.int .i64))) (hn2 : n2 ≤ 1000000000000000000) (hx2 : ∀ x ∈ f, (Lit.int .i64 x).wf = true) (hE : checkE a = 0) :
    Calls Tryz.prog 130 #[.slice A n c, .slice A2 n2 c2] w fun e w' => Below w.heap.size w w' ∧
      (((∀ x ∈ f, x ∈ begsL (spotsL a)) ∧ ∃ gh, e = .returned (.tuple #[.pointer (some ⟨gh, 0, none⟩), .int .i64 0]) ∧ HeapIs w' w.heap.size gh A n c (spotsL a)) ∨
       ((∃ x ∈ f, x ∉ begsL (spotsL a)) ∧ e = .returned (.tuple #[.pointer none, .int .i64 5]))) := by
  have H := checkFn_any A n c a w hr hnc ha
  rw [hE] at H
  have H := Lib.hid H
  have h0 := (checkE_ok.1 hE).1
  have H2 := fun w hr => spots_any A n c a w hr ha
  rw [h0] at H2
  have hrise := spots_rise h0
  have hbnd := spots_bounds h0
  have hm256 := spotsL_length a
  generalize spotsL a = S at *
  obtain ⟨m, hm⟩ : ∃ m, m = S.length := ⟨_, rfl⟩
  rw [← hm] at H2 hm256
  have HM := Lib.hid hm
  have HR := Lib.hid hrise
  have HB := Lib.hid hbnd
  have H2 := Lib.hid H2
  have hfl : f.length = n2 := by have := hr2.1; simpa using this
  have HFL := Lib.hid hfl
  have HX := Lib.hid hx2
  have hmm := @run_makeMap Tryz.prog
  obtain ⟨i0, hi, hz0, hz1, hz2⟩ := info_parts info_int
  clear hE h0 hm hrise hbnd hfl hx2 ha
  go_enter Tryz.func130, Tryz.ntmps130
  go_wp2_with fail
  refine H.out.mono ?_
  rintro e w1 ⟨rfl, hb1⟩
  have hbA := below_step hb1 (below_new w1 (.map #[] 0))
  have hM0 := MapIs.made w1 Tryz.prog 3 .i64
  have hMz := hM0.alloc (.cells #[.slice A n c, .map (some w1.heap.size), .slice none 0 0] 228)
  have hBh := Blk.new (w1.alloc (.map #[] 0)) 228 #[.slice A n c, .map (some w1.heap.size), .slice none 0 0]
  have hbB := below_step hbA (below_new (w1.alloc (.map #[] 0)) (.cells #[.slice A n c, .map (some w1.heap.size), .slice none 0 0] 228))
  simp only [World.size_alloc] at hBh
  clear hM0 hbA
  go_wp2_with fail
  refine (H2.out _ ((hr.below hbB).more hbB.size)).mono ?_
  rintro e w2 ⟨hb2, A3, c3, rfl, hown⟩
  have hMz := hMz.below hb2 hMz.lt
  have hBh := hBh.below hb2 hBh.lt
  have hb02 := below_step hbB hb2
  have HS0 := Lib.hid hown
  simp only [World.size_alloc] at HS0
  have hw1 := hb1.size
  have hBlt : w1.heap.size + 1 < w2.heap.size := hBh.lt
  clear hown hb2 hbB
  go_wp2
  go_loopw [32] (fun i wr => ∃ (j k co : Nat) (Ao : Option Addr), j ≤ m ∧ i = .int .i64 j ∧ k ≤ j ∧ Blk wr (w1.heap.size + 1) 228 #[.slice A n c, .map (some w1.heap.size), .slice Ao k co] ∧ MapIs wr Tryz.prog 3 .i64 w1.heap.size j (headF (S.take j)) ∧
      Hid (wr.ownsRow (w1.heap.size + 1 + 1) 3 1 (.slice Ao k co) k ((begsL (S.take j)).map (.int .i64))) ∧ Below w.heap.size w wr ∧ Hid (wr.ownsRow (w1.heap.size + 1 + 1) 165 5 (.slice A3 m c3) m (spotsC S))) (fun i _ => m - (intOf i).toNat)
  case atStart => exact ⟨0, 0, 0, none, Nat.zero_le _, rfl, Nat.zero_le _, hBh, hMz, World.ownsRow_nil _ _ _ _, hb02, HS0⟩
  case round =>
    obtain ⟨j, k, co, Ao, hj, rfl, hkj, hBh, hM, HO, hb, HRS⟩ := hrel
    by_cases hlt : j < m
    · obtain ⟨ad, s, rfl, had, hs, c0, c1, c2', c3', c4⟩ := (Reads.of_own HRS.out).spot hlt
      have hq := HB.out s (List.mem_of_getElem? hs)
      have HT : Hid (S.take (j + 1) = S.take j ++ [s]) := by
        show _ = _
        obtain ⟨h1, rfl⟩ := List.getElem?_eq_some_iff.1 hs
        exact List.take_succ_eq_append_getElem h1
      have HJ : Hid (∀ x ∈ S.take j, x.loc < s.loc) := by
        intro x hx
        rw [List.mem_take_iff_getElem] at hx
        obtain ⟨i, hi, rfl⟩ := hx
        obtain ⟨h1, rfl⟩ := List.getElem?_eq_some_iff.1 hs
        exact List.pairwise_iff_getElem.1 HR.out i j (by omega) h1 (by omega)
      obtain ⟨loc, r, b, t, fr⟩ := s
      dsimp only at c0 c1 c2' c3' c4 hq
      have hMx := hM.alloc (.cells #[.int .i64 loc, .int .i64 r, .int .i64 b, .int .i64 t, .bool fr] 165)
      have hbx := hb.alloc hb.size (.cells #[.int .i64 loc, .int .i64 r, .int .i64 b, .int .i64 t, .bool fr] 165)
      have hBx := hBh.alloc (.cells #[.int .i64 loc, .int .i64 r, .int .i64 b, .int .i64 t, .bool fr] 165)
      have hSx := Blk.new wr 165 #[.int .i64 loc, .int .i64 r, .int .i64 b, .int .i64 t, .bool fr]
      have HOx := Lib.hid (HO.out.alloc (.cells #[.int .i64 loc, .int .i64 r, .int .i64 b, .int .i64 t, .bool fr] 165))
      have hbs := below_new wr (.cells #[.int .i64 loc, .int .i64 r, .int .i64 b, .int .i64 t, .bool fr] 165)
      have HRx := Lib.hid (HRS.out.alloc (.cells #[.int .i64 loc, .int .i64 r, .int .i64 b, .int .i64 t, .bool fr] 165))
      have hj1 : j + 1 ≤ m := hlt
      have hws := hb.size
      have k0 := hBx.cell 0
      have k1 := hBx.cell 1
      have k2 := hBx.cell 2
      have s0 := hSx.cell 0
      have s1 := hSx.cell 1
      have s2 := hSx.cell 2
      have s3 := hSx.cell 3
      have s4 := hSx.cell 4
      simp only [List.getElem?_toArray, List.getElem?_cons_zero, List.getElem?_cons_succ] at k0 k1 k2 s0 s1 s2 s3 s4
      clear hs hbs HRS HO
      cases fr
      · have HP := Lib.hid (headF_snoc (l := S.take j) (s := ⟨loc, r, b, t, false⟩) rfl HJ.out)
        have HQ := Lib.hid (begsL_snoc (S.take j) ⟨loc, r, b, t, false⟩)
        rw [← HT.out] at HP HQ
        have hwl := hBh.lt
        obtain ⟨w3, hupd, hM3, hg3⟩ := hMx.drew.store (k := 3) (t := 226) Tryz.underlying3 Tryz.underlying226 (by unfold maxLen; omega) (x := loc) (by simp [Lit.wf, IntKind.min, IntKind.max, IntKind.signed, IntKind.bits]; omega) (.agg #[.int .i64 r, .int .i64 b, .int .i64 t, .bool false])
        have hB3 := hBx.drew.grown hg3 (fun h => by injection h with h; omega)
        have hS3 := hSx.drew.grown hg3 (fun h => by injection h with h; omega)
        have hb3 := hbx.drew.grown hg3 (by exact hbx.size) (fun g hg => by injection hg with hg; omega)
        have hO3 := own_grown HOx.out.drew hg3 (fun g hg h => by injection h with h; have := (HOx.out.lt g hg).1; omega)
        have hR3 := own_grown HRx.out.drew hg3 (fun g hg h => by injection h with h; have := (HRx.out.lt g hg).1; omega)
        -- the list grows by one
        have hB4 := (hB3.alloc (.cells #[.int .i64 loc] 3)).drew
        have hM4 := (hM3.alloc (.cells #[.int .i64 loc] 3)).drew
        have hb4 := (hb3.alloc hb3.size (.cells #[.int .i64 loc] 3)).drew
        have hO4 := (hO3.alloc (.cells #[.int .i64 loc] 3)).drew
        have hR4 := (hR3.alloc (.cells #[.int .i64 loc] 3)).drew
        have hw3 : w1.heap.size + 1 < w3.heap.size := hB3.lt
        obtain ⟨v5, w5, hrun, hO5, hg5, -, -⟩ := run_append_any (P := Tryz.prog) (w3.alloc (.cells #[.int .i64 loc] 3)).drew (w1.heap.size + 1 + 1) 23 23 3 i0 (.int .i64 0) 1 8 Tryz.underlying23 hi hz0 hz1 hz2 rfl (by decide) (.slice Ao k co) k _ hO4 _ (some ⟨w3.heap.size, 0, none⟩) 1 1 [.int .i64 loc] (reads_new w3 [.int .i64 loc] 3 1 1 rfl) (by simp [Value.oneCell']) (by unfold maxLen; omega) (by omega) (by show _ ≤ (w3.alloc _).heap.size; rw [World.size_alloc]; omega)
        obtain ⟨A5, c5, rfl⟩ := own_slice hO5
        have hB5 := hB4.grown hg5 (fun h => own_off hO4 (by omega) h.symm)
        have hM5 := hM4.kept hg5 (fun h => own_off hO4 (by omega) h.symm)
        have hb5 := hb4.grown hg5 hb4.size (fun g hg => by have := (hO4.lt g hg).1; omega)
        have hR5 := own_grown hR4 hg5 (fun g hg => own_kinds hR4 hO4 (by decide) hg)
        have hB6 : Blk (w5.setCell ⟨w1.heap.size + 1, 2, none⟩ (.slice A5 (k + 1) c5)) (w1.heap.size + 1) 228 #[.slice A n c, .map (some w1.heap.size), .slice A5 (k + 1) c5] := by simpa using hB5.set_ 2 (.slice A5 (k + 1) c5)
        have hM6 := hM5.setCell (a := ⟨w1.heap.size + 1, 2, none⟩) (by dsimp only; omega) (.slice A5 (k + 1) c5)
        have hb6 := hb5.setCell (p := ⟨w1.heap.size + 1, 2, none⟩) (by dsimp only; omega) (.slice A5 (k + 1) c5)
        have hO6 := own_apart hO5 (p := ⟨w1.heap.size + 1, 2, none⟩) (own_off hO5 (by dsimp only; omega)) (.slice A5 (k + 1) c5)
        have hR6 := own_apart hR5 (p := ⟨w1.heap.size + 1, 2, none⟩) (own_off hR5 (by dsimp only; omega)) (.slice A5 (k + 1) c5)
        have q0 := hB3.cell 0
        have q2 := hB3.cell 2
        have q1 := hB3.cell 1
        have u0 := hS3.cell 0
        have u1 := hS3.cell 1
        have u2 := hS3.cell 2
        have u3 := hS3.cell 3
        have u4 := hS3.cell 4
        have p2 := hB5.cell 2
        have pf := hB5.frozen 2
        have q2' := (hB3.alloc (.cells #[.int .i64 loc] 3)).cell 2
        have u0' := (hS3.alloc (.cells #[.int .i64 loc] 3)).cell 0
        simp only [List.getElem?_toArray, List.getElem?_cons_zero, List.getElem?_cons_succ] at q0 q1 q2 u0 u1 u2 u3 u4 p2 q2' u0'
        have HM6 := Lib.hid hM6
        have HO6 : Hid ((w5.setCell ⟨w1.heap.size + 1, 2, none⟩ (.slice A5 (k + 1) c5)).ownsRow (w1.heap.size + 1 + 1) 3 1 (.slice A5 (k + 1) c5) (k + 1) ((begsL (S.take (j + 1))).map (.int .i64))) := by
          rw [HQ.out, if_neg (by simp), List.map_append]
          exact hO6
        have HR6 := Lib.hid hR6
        have HRun := Lib.hid hrun
        clear hM hb hM3 hB3 hS3 hb3 hO3 hR3 hB4 hM4 hb4 hO4 hR4 hB5 hM5 hb5 hR5 hM6 hO6 hO5 hR6 hrun hg5 hg3 hMx hbx HOx HRx
        go_wp2
        go_region_held3 (fun w' => w'.cell? ⟨w1.heap.size + 1, 1, none⟩ = some (.map (some w1.heap.size)) ∧ w'.cell? ⟨wr.heap.size, 0, none⟩ = some (.int .i64 loc) ∧ w'.cell? ⟨wr.heap.size, 1, none⟩ = some (.int .i64 r) ∧ w'.cell? ⟨wr.heap.size, 2, none⟩ = some (.int .i64 b) ∧ w'.cell? ⟨wr.heap.size, 3, none⟩ = some (.int .i64 t) ∧ w'.cell? ⟨wr.heap.size, 4, none⟩ = some (.bool false)) (go_keep) (fail)
        go_wp2
        go_region_law (refine step_append_run rfl (.tmp 52) (.tmp 55) 23 23 rfl (.slice Ao k co) (.slice (some ⟨w3.heap.size, 0, none⟩) 1 1) (by simp [Act.eval]) (by simp [Act.eval]) HRun.out ?_)
        all_goals
          try simp only [Act.put, Act.eval, List.getElem_toArray, List.getElem_cons_zero, List.getElem_cons_succ, List.setIfInBounds_toArray, List.set_cons_zero, List.set_cons_succ]
          clear q0 q1 q2 u0 u1 u2 u3 u4 p2 pf q2' u0'
          go_wp2
          go_roundw
          case rel => exact ⟨j + 1, k + 1, c5, A5, hj1, by go_num, by omega, hB6, by rw [HP.out]; exact HM6.out, HO6, hb6, HR6⟩
          case measure => simp [intOf]; omega
      · have HP : Hid (headF (S.take (j + 1)) = headF (S.take j)) := by show _ = _; rw [HT.out]; exact headF_free rfl
        have HQ : Hid (begsL (S.take (j + 1)) = begsL (S.take j)) := by show _ = _; rw [HT.out, begsL_snoc]; rfl
        clear hM hb
        go_wp2
        go_roundw
        case rel => exact ⟨j + 1, k, co, Ao, hj1, by go_num, by omega, hBx, by rw [HP.out]; exact hMx.mono (by omega), by rw [HQ.out]; exact HOx, hbx, HRx⟩
        case measure => simp [intOf]; omega
    · have hjm : j = m := by omega
      have hM : MapIs wr Tryz.prog 3 .i64 w1.heap.size 300 (headF S) := by
        rw [hjm, List.take_of_length_le (by rw [HM.out]; exact Nat.le_refl _)] at hM
        exact hM.mono (by omega)
      have HI : Hid (HeapIs wr w.heap.size (w1.heap.size + 1) A n c S) := by
        refine ⟨w1.heap.size, Ao, k, co, hBh, by omega, by omega, hM, ?_⟩
        have := HO.out
        rw [hjm, List.take_of_length_le (by rw [HM.out]; exact Nat.le_refl _)] at this
        exact own_mono this (by omega)
      obtain ⟨wo, hwo⟩ : ∃ x, x = wr := ⟨wr, rfl⟩
      subst hwo
      have hr2' := hr2.below hb
      have hwl := hM.lt
      have g0 : decide (j < m) = false := decide_eq_false hlt
      have hgh := hBh.lt
      clear HO HRS hjm hb02 hMz
      go_wp2
      go_loopw [62] (fun i wr => ∃ j : Nat, j ≤ n2 ∧ i = .int .i64 j ∧ Hid (∀ x ∈ f.take j, x ∈ begsL S) ∧ Below wo.heap.size wo wr) (fun i _ => n2 - (intOf i).toNat)
      case atStart => exact ⟨0, Nat.zero_le _, rfl, by intro x hx; simp at hx, Below.refl _ _⟩
      case round =>
        obtain ⟨j2, hj2, rfl, HA, hb2⟩ := hrel
        have hb02 := below_step hb hb2
        have hMr := hM.below hb2 hwl
        have hBr := hBh.below hb2 hgh
        have k1 := hBr.cell 1
        simp only [List.getElem?_toArray, List.getElem?_cons_zero, List.getElem?_cons_succ] at k1
        by_cases hlt2 : j2 < n2
        · obtain ⟨ad, x, rfl, had, hx, cx⟩ := (hr2.below hb02).num hlt2
          have hlook := hMr.look_ok (k := 3) (t := 226) Tryz.underlying3 Tryz.underlying226 (zero_head _) (HX.out x (List.mem_of_getElem? hx))
          have hj3 : j2 + 1 ≤ n2 := hlt2
          by_cases hm : x ∈ begsL S
          · obtain ⟨s, hs⟩ := begsL_iff.1 hm
            have e1 : headF S x = some (headC s) := by unfold headF; rw [hs]; rfl
            rw [e1] at hlook
            obtain ⟨loc, r, b, t, fr⟩ := s
            have hlook2 : (Instr.lookup 226 (.map (some w1.heap.size)) (.int .i64 x) true).run Tryz.prog wr = .ok (.tuple #[.agg #[.int .i64 r, .int .i64 b, .int .i64 t, .bool fr], .bool true]) wr := hlook
            clear hlook
            have HA2 : Hid (∀ x ∈ f.take (j2 + 1), x ∈ begsL S) := by
              intro y hy
              obtain ⟨q1, q2⟩ := List.getElem?_eq_some_iff.1 hx
              rw [List.take_succ_eq_append_getElem q1, List.mem_append] at hy
              rcases hy with hy | hy
              · exact HA.out y hy
              · simp only [List.mem_cons, List.not_mem_nil, or_false] at hy
                rw [hy, q2]; exact hm
            have hbx := hb2.alloc hb2.size (.cells #[.int .i64 r, .int .i64 b, .int .i64 t, .bool fr] 50)
            clear hx hm hs e1 HA
            go_wp2
            go_roundw
            case rel => exact ⟨j2 + 1, hj3, by go_num, HA2, hbx⟩
            case measure => simp [intOf]; omega
          · have e1 : headF S x = none := by
              cases hh : headF S x with
              | none => rfl
              | some v => exact absurd (headF_isSome.1 (by rw [hh]; rfl)) hm
            rw [e1] at hlook
            have hlook2 : (Instr.lookup 226 (.map (some w1.heap.size)) (.int .i64 x) true).run Tryz.prog wr = .ok (.tuple #[.agg #[.int .i64 0, .int .i64 0, .int .i64 0, .bool false], .bool false]) wr := hlook
            clear hlook
            have hex : ∃ x ∈ f, x ∉ begsL S := ⟨x, List.mem_of_getElem? hx, hm⟩
            have HEx := Lib.hid hex
            have hbx := hb02.alloc hb02.size (.cells #[.int .i64 0, .int .i64 0, .int .i64 0, .bool false] 50)
            clear hx hm e1 HA hex
            go_wp2
            go_ret2
            exact ⟨hbx, .inr ⟨HEx.out, rfl⟩⟩
        · have HAll : Hid (∀ x ∈ f, x ∈ begsL S) := by
            have := HA.out
            rw [List.take_of_length_le (by rw [HFL.out]; omega)] at this
            exact this
          have g2 : decide (j2 < n2) = false := decide_eq_false hlt2
          clear HA
          go_wp2
          go_ret2
          exact ⟨hb02, .inl ⟨HAll.out, _, rfl, HI.out.below hb2⟩⟩
end Go.Proofs.YtbmkbnalembbjaaGreatDoor

namespace Go.Proofs.YtbmkbnalembbjaaGreatDoor
open Go.RowKit
def pinsL (p : List Rn) : List Int := p.map (·.loc)
set_option maxRecDepth 100000 in
set_option maxHeartbeats 1000000 in
theorem pinned_any (A : Option Addr) (n c : Nat) (RA : Option Addr) (rn rc : Nat) (PA : Option Addr) (pn pc : Nat) (HA : Option Addr) (hn hc : Nat) (p : List Rn) (w : World) (hr : Reads w w.heap.size 2 PA pn (runsC p)) (hpn : pn ≤ 1000000) :
    Calls Tryz.prog 71 #[.agg #[.slice A n c, .slice RA rn rc, .slice PA pn pc, .slice HA hn hc]] w fun e w' => ∃ A' c', e = .returned (.slice A' (pinsL p).length c') ∧
      w'.ownsRow w.heap.size 3 1 (.slice A' (pinsL p).length c') (pinsL p).length ((pinsL p).map (.int .i64)) ∧ Below w.heap.size w w' := by
  obtain ⟨i0, hi, hz0, hz1, hz2⟩ := info_parts info_int
  have hl : p.length = pn := by have := hr.1; rw [runsC_length] at this; omega
  have HL := Lib.hid hl
  clear hl
  have hb0 := below_new w (.cells #[.slice A n c, .slice RA rn rc, .slice PA pn pc, .slice HA hn hc] 28)
  go_enter Tryz.func71, Tryz.ntmps71
  go_wp2_with fail
  go_loopw [3, 9] (fun o i wr => ∃ (j : Nat) (A' : Option Addr) (k c' : Nat), j ≤ pn ∧ i = .int .i64 j ∧ o = .slice A' k c' ∧ k ≤ j ∧ Hid (k = (pinsL (p.take j)).length) ∧ wr.ownsRow w.heap.size 3 1 (.slice A' k c') k ((pinsL (p.take j)).map (.int .i64)) ∧ Below w.heap.size w wr) (fun _ i _ => pn - (intOf i).toNat)
  case atStart => exact ⟨0, none, 0, 0, Nat.zero_le _, rfl, rfl, Nat.le_refl _, rfl, World.ownsRow_nil _ _ _ _, hb0⟩
  case round =>
    obtain ⟨j, A', k, c', hj, rfl, rfl, hkj, hk, hown, hb⟩ := hrel
    clear hb0
    by_cases hlt : j < pn
    · obtain ⟨ad, x, rfl, had, hx, c0, c1⟩ := (hr.below hb).run hlt
      have HQ : Hid (pinsL (p.take (j + 1)) = pinsL (p.take j) ++ [x.loc]) := by
        show _ = _
        obtain ⟨h1, rfl⟩ := List.getElem?_eq_some_iff.1 hx
        rw [List.take_succ_eq_append_getElem h1]; unfold pinsL; rw [List.map_append]; rfl
      clear hx
      obtain ⟨loc, len⟩ := x
      dsimp only at c0 c1 HQ
      have hown0 := (hown.alloc (.cells #[.int .i64 loc, .int .i64 len] 57)).alloc (.cells #[.int .i64 loc] 3)
      have hb1 := hb.alloc hb.size (.cells #[.int .i64 loc, .int .i64 len] 57)
      have hb2 := hb1.alloc hb1.size (.cells #[.int .i64 loc] 3)
      have hnew := reads_new (wr.alloc (.cells #[.int .i64 loc, .int .i64 len] 57)) [.int .i64 loc] 3 1 1 rfl
      rw [World.size_alloc] at hnew
      clear hown hb1
      go_wp2_with (at_builtin; refine wpList_append_any _ rfl (.tmp 13) (.tmp 16) 23 rfl w.heap.size 3 i0 (.int .i64 0) 1 8 Tryz.underlying23 hi hz0 hz1 hz2 rfl (by decide) (.slice A' k c') k _ rfl hown0 _ (some ⟨wr.heap.size + 1, 0, none⟩) 1 1 [.int .i64 loc] rfl hnew (by simp [Value.oneCell']) (by unfold maxLen; omega) (by omega) hb2.size ?_; rintro v' w5 hO5 hg5 - -; obtain ⟨A5, c5, rfl⟩ := own_slice hO5)
      have hb3 := hb2.grown hg5 hb2.size (fun g hg => (hown0.lt g hg).1)
      have HO := Lib.hid hO5
      clear hO5 hown0 hg5 hnew hb2
      go_roundw
      case rel => exact ⟨j + 1, A5, k + 1, c5, by omega, by go_num, rfl, by omega, by show _ = _; rw [HQ.out, List.length_append, ← hk.out]; rfl, by rw [HQ.out, List.map_append]; exact HO.out, hb3⟩
      case measure => simp [intOf]; omega
    · have hjn : j = pn := by omega
      have e : p.take j = p := List.take_of_length_le (by rw [HL.out]; omega)
      rw [e] at hk hown
      obtain rfl : k = (pinsL p).length := hk.out
      clear hk e
      go_wp2
      go_ret
      exact ⟨A', c', rfl, hown, hb⟩
theorem Blk.four {w : World} {g : Nat} {t : TypeId} {a b c d : Value} (h : Blk w g t #[a, b, c, d]) :
    w.cell? ⟨g, 0, none⟩ = some a ∧ w.cell? ⟨g, 1, none⟩ = some b ∧ w.cell? ⟨g, 2, none⟩ = some c ∧ w.cell? ⟨g, 3, none⟩ = some d := ⟨h.cell 0, h.cell 1, h.cell 2, h.cell 3⟩
def openL (l : List Slot) : List Int := (l.filter (·.opn)).map (·.loc)
theorem openL_snoc (l : List Slot) (s : Slot) : openL (l ++ [s]) = openL l ++ (if s.opn = true then [s.loc] else []) := by
  unfold openL
  rw [List.filter_append, List.map_append]
  obtain ⟨g, o, x⟩ := s
  cases o <;> simp
def fromL (r : List Int) (l : List Slot) (p : List Rn) : List Int := Lib.compact (sortL ((namedL r ++ openL l) ++ pinsL p))
set_option maxRecDepth 100000 in
set_option maxHeartbeats 1000000 in
theorem from_any (A : Option Addr) (n c : Nat) (RA : Option Addr) (rn rc : Nat) (PA : Option Addr) (pn pc : Nat) (HA : Option Addr) (hn hc : Nat) (r : List Int) (p : List Rn) (l : List Slot) (w : World)
    (hrr : Reads w w.heap.size 1 RA rn (r.map (.int .i64))) (hrp : Reads w w.heap.size 2 PA pn (runsC p)) (hrl : Reads w w.heap.size 3 HA hn (slotsC l)) (hpn : pn ≤ 16) (hhn : hn ≤ 16) (hE : rootE r n = 0) :
    Calls Tryz.prog 57 #[.agg #[.slice A n c, .slice RA rn rc, .slice PA pn pc, .slice HA hn hc]] w fun e w' => ∃ A' c', e = .returned (.slice A' (fromL r l p).length c') ∧
      w'.ownsRow w.heap.size 3 1 (.slice A' (fromL r l p).length c') (fromL r l p).length ((fromL r l p).map (.int .i64)) ∧ Below w.heap.size w w' := by
  obtain ⟨i0, hi, hz0, hz1, hz2⟩ := info_parts info_int
  have hll : l.length = hn := by have := hrl.1; rw [slotsC_length] at this; omega
  have hpl : p.length = pn := by have := hrp.1; rw [runsC_length] at this; omega
  have hrn : r.length ≤ 32 := (rootE_ok hE).2.2.1
  have HL := Lib.hid hll
  have HN := Lib.hid (fun w hr => named_ok RA rn rc r n w hr hE)
  have HP := Lib.hid (fun w hr => pinned_any A n c RA rn rc PA pn pc HA hn hc p w hr (by omega))
  have HF : Hid (fromL r l p = Lib.compact (sortL ((namedL r ++ openL l) ++ pinsL p))) := rfl
  have hq : (pinsL p).length ≤ 16 := by unfold pinsL; rw [List.length_map]; omega
  have hnl : (namedL r).length ≤ 32 := Nat.le_trans (namedL_length r) hrn
  generalize fromL r l p = F at *
  generalize namedL r = R at *
  generalize pinsL p = Q at *
  have hb0 := below_new w (.cells #[.slice A n c, .slice RA rn rc, .slice PA pn pc, .slice HA hn hc] 28)
  clear hll hpl hrn hE
  go_enter Tryz.func57, Tryz.ntmps57
  go_wp2_with fail
  refine (HN.out _ ((hrr.below hb0).more hb0.size)).mono ?_
  rintro e w1 ⟨A1, c1, rfl, hown1, hb1⟩
  rw [World.size_alloc] at hown1
  have hb01 := hb0.trans (hb1.mono hb0.size)
  have DS := (Blk.new w 28 #[.slice A n c, .slice RA rn rc, .slice PA pn pc, .slice HA hn hc]).below hb1 (by rw [World.size_alloc]; omega)
  obtain ⟨s0, s1, s2, s3⟩ := DS.four
  have hR : R ++ openL (l.take 0) = R := by simp [openL]
  clear hb1
  go_wp2_with fail
  clear s0 s1 s2 s3
  go_loopw [3, 19] (fun o i wr => ∃ (j : Nat) (A' : Option Addr) (k c' : Nat), j ≤ hn ∧ i = .int .i64 j ∧ o = .slice A' k c' ∧ k ≤ 32 + j ∧ Hid (k = (R ++ openL (l.take j)).length) ∧ wr.ownsRow (w.heap.size + 1) 3 1 (.slice A' k c') k ((R ++ openL (l.take j)).map (.int .i64)) ∧ Below w.heap.size w wr ∧ Blk wr w.heap.size 28 #[.slice A n c, .slice RA rn rc, .slice PA pn pc, .slice HA hn hc]) (fun _ i _ => hn - (intOf i).toNat)
  case atStart => exact ⟨0, A1, R.length, c1, Nat.zero_le _, rfl, rfl, by omega, by show _ = _; rw [hR], by rw [hR]; exact hown1, hb01, DS⟩
  case round =>
    obtain ⟨j, A', k, c', hj, rfl, rfl, hkj, hk, hown, hb, DS⟩ := hrel
    clear hb0 hb01 hown1 hR
    by_cases hlt : j < hn
    · obtain ⟨ad, x, rfl, had, hx, h0, h1, h2⟩ := (hrl.below hb).slot hlt
      have HQ : Hid (R ++ openL (l.take (j + 1)) = (R ++ openL (l.take j)) ++ (if x.opn = true then [x.loc] else [])) := by
        show _ = _
        obtain ⟨g1, rfl⟩ := List.getElem?_eq_some_iff.1 hx
        rw [List.take_succ_eq_append_getElem g1, openL_snoc, List.append_assoc]
      clear hx
      obtain ⟨gen, opn, loc⟩ := x
      dsimp only at h0 h1 h2 HQ
      generalize hLk : R ++ openL (l.take j) = Lk at *
      clear hLk
      have hb1 := hb.alloc hb.size (.cells #[.int .i64 gen, .bool opn, .int .i64 loc] 60)
      have hown1 := hown.alloc (.cells #[.int .i64 gen, .bool opn, .int .i64 loc] 60)
      have DS1 := DS.alloc (.cells #[.int .i64 gen, .bool opn, .int .i64 loc] 60)
      cases opn
      · have HQ : Hid (R ++ openL (l.take (j + 1)) = Lk) := by have := HQ.out; show _ = _; simpa using this
        go_wp2_with fail
        go_roundw
        case rel => exact ⟨j + 1, A', k, c', by omega, by go_num, rfl, by omega, by rw [HQ.out]; exact hk, by rw [HQ.out]; exact hown1, hb1, DS1⟩
        case measure => simp [intOf]; omega
      · have HQ : Hid (R ++ openL (l.take (j + 1)) = Lk ++ [loc]) := by have := HQ.out; show _ = _; simpa using this
        have hown2 := hown1.alloc (.cells #[.int .i64 loc] 3)
        have hb2 := hb1.alloc hb1.size (.cells #[.int .i64 loc] 3)
        have DS2 := DS1.alloc (.cells #[.int .i64 loc] 3)
        have hnew := reads_new (wr.alloc (.cells #[.int .i64 gen, .bool true, .int .i64 loc] 60)) [.int .i64 loc] 3 1 1 rfl
        rw [World.size_alloc] at hnew
        clear hown hown1 hb hb1 DS DS1
        go_wp2_with (at_builtin; refine wpList_append_any _ rfl (.tmp 25) (.tmp 28) 23 rfl (w.heap.size + 1) 3 i0 (.int .i64 0) 1 8 Tryz.underlying23 hi hz0 hz1 hz2 rfl (by decide) (.slice A' k c') k _ rfl hown2 _ (some ⟨wr.heap.size + 1, 0, none⟩) 1 1 [.int .i64 loc] rfl hnew (by simp [Value.oneCell']) (by unfold maxLen; omega) (by omega) (by have := DS2.lt; omega) ?_; rintro v' w5 hO5 hg5 - -; obtain ⟨A5, c5, rfl⟩ := own_slice hO5)
        have hb3 := hb2.grown hg5 hb2.size (fun g hg => by have := (hown2.lt g hg).1; omega)
        have DS3 := DS2.grown hg5 (fun h => own_off hown2 (Nat.lt_succ_self _) h.symm)
        have HO := Lib.hid hO5
        clear hO5 hown2 hg5 hnew hb2
        go_roundw
        case rel => exact ⟨j + 1, A5, k + 1, c5, by omega, by go_num, rfl, by omega, by show _ = _; rw [HQ.out, List.length_append, ← hk.out]; rfl, by rw [HQ.out, List.map_append]; exact HO.out, hb3, DS3⟩
        case measure => simp [intOf]; omega
    · have hjn : j = hn := by omega
      have e : l.take j = l := List.take_of_length_le (by rw [HL.out]; omega)
      rw [e] at hk hown
      obtain rfl : k = (R ++ openL l).length := hk.out
      clear hk e
      generalize R ++ openL l = S at *
      obtain ⟨k, hk⟩ : ∃ k, k = S.length := ⟨_, rfl⟩
      obtain ⟨q, hqq⟩ : ∃ q, q = Q.length := ⟨_, rfl⟩
      rw [← hk] at hown hkj ⊢
      rw [← hqq] at HP hq
      have HKQ : Hid (k + q = (S ++ Q).length) := by show _ = _; rw [List.length_append, hk, hqq]
      clear hk hqq
      subst hjn
      obtain ⟨s0, s1, s2, s3⟩ := DS.four
      have hrS := Reads.of_own hown
      go_wp2_with fail
      refine (HP.out _ ((hrp.below hb).more hb.size)).mono ?_
      rintro e w2 ⟨A2, c2, rfl, hown2, hb2⟩
      have hrQ := Reads.of_own hown2
      have hb02 := below_step hb hb2
      have hv := reads_new w2 [.slice A' k c', .slice A2 q c2] 23 2 1 rfl
      have hbv := below_new w2 (.cells #[.slice A' k c', .slice A2 q c2] 23)
      have hb03 := below_step hb02 hbv
      have HCo := Lib.hid (concat2_int A' k c' (S.map (.int .i64)) A2 q c2 (Q.map (.int .i64)) (some ⟨w2.heap.size, 0, none⟩) 2 _ (hv.more (by simp)) ((hrS.below (hb2.trans (hbv.mono hb2.size))).more (Nat.le_trans hb2.size hbv.size)) ((hrQ.below hbv).more hbv.size) (ints_one S) (ints_one Q) (by omega))
      clear hown hown2 hrS hrQ hb2 hv hbv s0 s1 s2 s3 DS
      go_wp2_with fail
      refine HCo.out.mono ?_
      rintro e w3 ⟨A3, c3, rfl, hown3, hb3⟩
      rw [← List.map_append, HKQ.out] at hown3
      rw [HKQ.out]
      have hb04 := below_step hb03 hb3
      have hle : (S ++ Q).length ≤ 64 := by rw [← HKQ.out]; omega
      have hss := sortL_length (S ++ Q)
      clear HCo HKQ hb3
      generalize S ++ Q = T at *
      go_wp2_with fail
      refine (sort_int _ A3 T.length c3 T _ hown3 (by omega)).mono ?_
      rintro e w4 ⟨rfl, hown4, hg4⟩
      have hb05 := below_grown_own hb04 hown3 hg4 hb03.size hb04.size
      go_wp2_with fail
      rw [← hss]
      rw [← hss] at hown4
      refine (compact_int _ A3 (sortL T).length c3 (sortL T) _ hown4 (by omega)).mono ?_
      rintro e w5 ⟨rfl, hown5, hg5⟩
      have hb06 := below_grown_own hb05 hown4 hg5 hb03.size hb05.size
      rw [← HF.out] at hown5 ⊢
      go_wp2
      go_ret
      exact ⟨_, _, rfl, own_mono hown5 hb03.size, hb06⟩
end Go.Proofs.YtbmkbnalembbjaaGreatDoor

namespace Go.Proofs.YtbmkbnalembbjaaGreatDoor
open Go.RowKit
def stretchF (len n : Int) : List Int → Int
  | [] => 0
  | k :: r => if n < 0 ∨ k < 0 ∨ len < k ∨ len - k < n then 4 else stretchF len n r
set_option maxHeartbeats 400000 in
theorem stretches_any (A : Option Addr) (n c : Nat) (k : Int) (B : Nat) (A2 : Option Addr) (m c2 : Nat) (ats : List Int) (w : World) (hn : n ≤ 256) (hm : m ≤ 1000) (hr : Reads w B 1 A2 m (ats.map (.int .i64)))
    (hk : -9223372036854775808 ≤ k ∧ k ≤ 9223372036854775807) (ha : ∀ x ∈ ats, -9223372036854775808 ≤ x ∧ x ≤ 9223372036854775807) :
    Calls Tryz.prog 129 #[.slice A n c, .int .i64 k, .slice A2 m c2] w fun e w' => e = .returned (.int .i64 (stretchF n k ats)) ∧ w = w' := by
  go_enter Tryz.func129, Tryz.ntmps129
  go_wp2
  go_loop [14] (fun i => ∃ j : Nat, j ≤ m ∧ i = .int .i64 j ∧ stretchF n k (ats.drop j) = stretchF n k ats) (fun i => m - (intOf i).toNat)
  case atStart => exact ⟨0, Nat.zero_le _, rfl, rfl⟩
  case round =>
    obtain ⟨j, hj, rfl, hs⟩ := hrel
    have HS := Lib.hid hs
    clear hs
    by_cases hlt : j < m
    · have hl : j < ats.length := by have := hr.1; simp at this; omega
      obtain ⟨ad, u, hA2, _, hx, hc⟩ := hr.at_ hlt
      subst hA2
      have hu : u = .int .i64 ats[j] := by
        rw [List.getElem?_map, List.getElem?_eq_getElem hl] at hx
        simpa using hx.symm
      subst hu
      clear hx
      have hb := ha _ (List.getElem_mem hl)
      have hd : ats.drop j = ats[j] :: ats.drop (j + 1) := List.drop_eq_getElem_cons hl
      have HD := Lib.hid hd
      clear hd
      by_cases hbad : k < 0 ∨ ats[j] < 0 ∨ (n : Int) < ats[j] ∨ (n : Int) - ats[j] < k
      · go_wp2
        all_goals
          go_ret
          exact ⟨ret_int (by rw [← HS.out, HD.out, stretchF, if_pos hbad]), rfl⟩
      · have h1 : 0 ≤ k := by omega
        have h2 : 0 ≤ ats[j] := by omega
        have h3 : ats[j] ≤ (n : Int) := by omega
        have h4 : k ≤ (n : Int) - ats[j] := by omega
        clear hbad
        go_wp2
        go_round
        case rel => exact ⟨j + 1, by omega, by go_num, by rw [← HS.out, HD.out, stretchF, if_neg (by omega)]⟩
        case measure => simp [intOf]; omega
    · go_wp2
      go_ret
      have : j = m := by omega
      subst this
      exact ⟨ret_int (by rw [← HS.out, List.drop_of_length_le (by have := hr.1; simp at this; omega)]; rfl), rfl⟩
theorem size_u64 : (Tryz.prog.info? 45).map (·.size) = some 1 := by kernel_rfl
theorem info_u64 : (Tryz.prog.info? 45).map (fun i => (i.zero, i.size, i.bytes)) = some (some (.int .u64 0), 1, 8) := by kernel_rfl
set_option maxHeartbeats 400000 in
theorem clone_u64 (A : Option Addr) (n c B : Nat) (xs : List Value) (w : World) (hr : Reads w B 1 A n xs) (hB : B ≤ w.heap.size) (h1 : ∀ u ∈ xs, u.oneCell' = true) (hn : n * 8 ≤ 140737488355328) :
    Calls Tryz.prog 15 #[.slice A n c] w fun e w' => ∃ A' c', e = .returned (.slice A' n c') ∧ w'.ownsRow w.heap.size 45 1 (.slice A' n c') n xs ∧ Below w.heap.size w w' := by
  obtain ⟨i0, hi, hz0, hz1, hz2⟩ := info_parts info_u64
  rcases A with _ | ad
  · have hm : n = 0 := by
      rcases Nat.eq_zero_or_pos n with h0 | h0
      · exact h0
      · obtain ⟨ad, h, _⟩ := hr.2 h0
        cases h
    subst hm
    have hx : xs = [] := List.eq_nil_of_length_eq_zero (by simpa using hr.1)
    subst hx
    have hnil := fun (w : World) => Lib.run_eql_slice_nil (P := Tryz.prog) w 22 45 none 0 c 0 0 Tryz.underlying22
    go_enter Tryz.func15, Tryz.ntmps15
    go_wp2
    go_ret
    exact ⟨none, 0, rfl, World.ownsRow_nil _ _ _ _, Below.refl _ _⟩
  · have hnil := fun (w : World) => Lib.run_eql_slice_nil (P := Tryz.prog) w 22 45 (some ad) n c 0 0 Tryz.underlying22
    have hmade := World.ownsRow_made (e := 45) (size := 1) w #[] 0 (Nat.le_refl w.heap.size) (Nat.zero_le _) rfl
    go_enter Tryz.func15, Tryz.ntmps15
    go_wp2_with (at_builtin; refine wpList_append_any _ rfl (.tmp 5) (.tmp 6) 22 rfl w.heap.size 45 i0 (.int .u64 0) 1 8 Tryz.underlying22 hi hz0 hz1 hz2 rfl (by decide) (.slice (some ⟨w.heap.size, 0, none⟩) 0 0) 0 [] rfl hmade B (some ad) n c xs rfl (hr.alloc hB _) h1 (by simp [maxLen]; omega) (by simpa using hn) (by simp) ?_; rintro v' w1 hown hgr hbl -; obtain ⟨A', c', rfl⟩ := own_slice hown)
    go_ret
    exact ⟨A', c', rfl, by simpa using hown, ((Below.refl _ _).alloc (Nat.le_refl _) _).grown hgr (by simp) (by simp [Value.ownBlock])⟩
theorem u64s_one (l : List Int) : ∀ u ∈ l.map (Value.int .u64), u.oneCell' = true := by
  intro u hu
  obtain ⟨x, _, rfl⟩ := List.mem_map.1 hu
  rfl
def fillE (len at_ n : Int) : Int := if 256 < len then 2 else stretchF len n [at_]
def fillL (a : List Int) (at_ n : Nat) (v : Int) : List Int := a.take at_ ++ List.replicate n v ++ a.drop (at_ + n)
theorem fillE_ok {len at_ n : Int} : fillE len at_ n = 0 ↔ len ≤ 256 ∧ 0 ≤ n ∧ 0 ≤ at_ ∧ at_ ≤ len ∧ n ≤ len - at_ := by
  unfold fillE
  split
  · constructor
    · intro h; cases h
    · omega
  · simp only [stretchF]
    split
    · constructor
      · intro h; cases h
      · omega
    · constructor
      · intro _; omega
      · intro _; rfl
theorem fillL_length (a : List Int) (at_ n : Nat) (v : Int) (h : at_ + n ≤ a.length) : (fillL a at_ n v).length = a.length := by
  simp [fillL]; omega
theorem fillL_zero (a : List Int) (at_ : Nat) (v : Int) : fillL a at_ 0 v = a := by simp [fillL]
theorem fillL_succ (a : List Int) (at_ n : Nat) (v : Int) (h : at_ + n < a.length) : (fillL a at_ n v).set (at_ + n) v = fillL a at_ (n + 1) v := by
  have hl : (a.take at_ ++ List.replicate n v).length = at_ + n := by simp; omega
  have hd : a.drop (at_ + n) = a[at_ + n] :: a.drop (at_ + n + 1) := List.drop_eq_getElem_cons h
  unfold fillL
  rw [hd, List.set_append_right _ _ (by omega), hl, Nat.sub_self, List.set_cons_zero, List.replicate_succ', ← Nat.add_assoc]
  simp
set_option maxHeartbeats 400000 in
theorem fill_ok (A : Option Addr) (n c B : Nat) (xs : List Int) (at_ k v : Int) (w : World) (hr : Reads w B 1 A n (xs.map (.int .u64))) (hB : B ≤ w.heap.size) (hok : fillE n at_ k = 0) :
    Calls Tryz.prog 104 #[.slice A n c, .int .i64 at_, .int .i64 k, .int .u64 v] w fun e w' => Below w.heap.size w w' ∧
      ∃ A' c', e = .returned (.tuple #[.slice A' n c', .int .i64 0]) ∧ w'.ownsRow w.heap.size 45 1 (.slice A' n c') n ((fillL xs at_.toNat k.toNat v).map (.int .u64)) := by
  obtain ⟨h1, h2, h3, h4, h5⟩ := fillE_ok.1 hok
  have hS : stretchF n k [at_] = 0 := by unfold fillE at hok; rwa [if_neg (by omega)] at hok
  have HS := Lib.hid hS
  clear hok hS
  obtain ⟨at0, rfl⟩ := Int.eq_ofNat_of_zero_le h3
  obtain ⟨k0, rfl⟩ := Int.eq_ofNat_of_zero_le h2
  have hxl : xs.length = n := by have := hr.1; simpa using this
  have HX := Lib.hid hxl
  clear hxl
  go_enter Tryz.func104, Tryz.ntmps104
  go_wp2_with (first
    | (go_at_call 129; refine (stretches_any _ _ _ _ _ _ 1 _ [↑at0] _ (by omega) (by omega) (reads_new w [.int .i64 at0] 3 1 1 rfl) (by omega) (by simp; omega)).mono ?_; rw [HS.out]; rintro e w' ⟨rfl, rfl⟩)
    | (go_at_call 15; refine (clone_u64 _ _ _ _ _ _ (hr.alloc hB _) (by simp; omega) (u64s_one _) (by omega)).mono ?_; rintro e w1 ⟨A', c', rfl, hown, hb⟩))
  go_loopw [24] (fun i wr => ∃ j : Nat, j ≤ k0 ∧ i = .int .i64 j ∧ wr.ownsRow w.heap.size 45 1 (.slice A' n c') n ((fillL xs at0 j v).map (.int .u64)) ∧ Below w.heap.size w wr) (fun i _ => k0 - (intOf i).toNat)
  case atStart => exact ⟨0, Nat.zero_le _, rfl, by rw [fillL_zero]; exact (own_mono hown (by simp)), ((Below.refl _ _).alloc (Nat.le_refl _) _).trans (hb.mono (by simp))⟩
  case round =>
    obtain ⟨j, hj, rfl, hown1, hb1⟩ := hrel
    by_cases hlt : j < k0
    · obtain ⟨g, cap, hv, hg, -⟩ := hown1.form (by omega)
      obtain ⟨rfl, -, rfl⟩ : A' = some ⟨g, 0, none⟩ ∧ n = n ∧ c' = cap := by simpa using hv
      have hcell := hown1.cellAt (at0 + j) (by omega)
      have hfl := fillL_length xs at0 j v (by rw [HX.out]; omega)
      rw [List.getElem?_eq_getElem (by simp [hfl, HX.out]; omega)] at hcell
      generalize ((fillL xs at0 j v).map (Value.int .u64))[at0 + j]'_ = u0 at hcell
      have hfr := hown1.frozenAt (at0 + j)
      clear hfl
      go_wp2
      go_roundw
      case rel => exact ⟨j + 1, by omega, by go_num, by rw [← fillL_succ _ _ _ _ (by rw [HX.out]; omega), List.map_set]; exact (hown1.stored (at0 + j) (.int .u64 v)).1, hb1.setCell (p := ⟨g, at0 + j, none⟩) (hown1.lt g rfl).1 _⟩
      case measure => simp [intOf]; omega
    · have hjk : j = k0 := by omega
      subst hjk
      go_wp2
      go_ret2
      exact ⟨hb1, A', c', rfl, hown1⟩
def moveE (len from_ to n : Int) : Int := if 256 < len then 2 else stretchF len n [from_, to]
def moveL (a : List Int) (from_ to n : Nat) : List Int := splice a to ((a.drop from_).take n)
end Go.Proofs.YtbmkbnalembbjaaGreatDoor
