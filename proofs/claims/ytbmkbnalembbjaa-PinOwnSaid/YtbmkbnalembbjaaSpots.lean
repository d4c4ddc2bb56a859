/-
  package walk: Spots.
-/
import Derived.Test.YtbmkbnalembbjaaHead
import Derived.Test.YtbmkbnalembbjaaArena
namespace Go.Proofs.Ytbmkbnalembbjaa
open Go.RowKit

theorem info_spot : (Try.prog.info? 146).map (fun i => (i.zero, i.size, i.bytes)) = some (some (.agg #[.int .i64 0, .int .i64 0, .int .i64 0, .int .i64 0, .bool false]), 5, 40) := by kernel_rfl

set_option maxHeartbeats 400000 in
theorem spots_big (A : Option Addr) (n c : Nat) (w : World) (hn : 256 < n) :
    Calls Try.prog 79 #[.slice A n c] w fun e w' => e = .returned (.tuple #[.slice none 0 0, .int .i64 2]) ∧ w = w' := by
  go_enter Try.func79, Try.ntmps79
  go_wp2
  go_ret2
  exact ⟨rfl, rfl⟩

set_option maxRecDepth 100000 in
set_option maxHeartbeats 1000000 in
theorem spots_small (A : Option Addr) (n c : Nat) (a : List Int) (w : World) (hr : Reads w w.heap.size 1 A n (a.map (.int .u64))) (hn : n ≤ 256) (ha : ∀ x ∈ a, (Lit.int .u64 x).wf = true) :
    Calls Try.prog 79 #[.slice A n c] w fun e w' => Below w.heap.size w w' ∧ ∃ A' c', e = .returned (.tuple #[.slice A' (spotsL a).length c', .int .i64 (spotsE a)]) ∧ w'.ownsRow w.heap.size 146 5 (.slice A' (spotsL a).length c') (spotsL a).length (spotsC (spotsL a)) := by
  have hal : a.length = n := by have := hr.1; simpa using this
  have HL := Lib.hid hal
  obtain ⟨i0, hi, hz0, hz1, hz2⟩ := info_parts info_spot
  clear hal
  go_enter Try.func79, Try.ntmps79
  go_wp2
  go_loopw [4, 5] (fun o i wr => ∃ (j : Nat) (A' : Option Addr) (k c' : Nat) (acc : List Spot), j ≤ n ∧ i = .int .i64 j ∧ o = .slice A' k c' ∧ k ≤ j ∧ Hid (k = acc.length) ∧ Hid (spotsAt a 0 = (spotsAt a j).map (acc ++ ·)) ∧ wr.ownsRow w.heap.size 146 5 (.slice A' k c') k (spotsC acc) ∧ Below w.heap.size w wr) (fun _ i _ => n - (intOf i).toNat)
  case atStart => exact ⟨0, none, 0, 0, [], Nat.zero_le _, rfl, rfl, Nat.le_refl _, rfl, by show _ = _; simp, World.ownsRow_nil _ _ _ _, Below.refl _ _⟩
  case round =>
    obtain ⟨j, A', k, c', acc, hj, rfl, rfl, hkj, hk, hS, hown, hb⟩ := hrel
    by_cases hlt : j < n
    · obtain ⟨ad, v, rfl, had, hv, hc⟩ := (hr.below hb).num hlt
      have HV : Hid (a.getD j 0 = v) := by show _ = _; rw [List.getD_eq_getElem?_getD, hv]; rfl
      obtain ⟨v0, v1⟩ : 0 ≤ v ∧ v < 18446744073709551616 := by have := ha v (List.mem_of_getElem? hv); simp [Lit.wf, IntKind.min, IntKind.max, IntKind.signed, IntKind.bits] at this; omega
      clear hv
      by_cases hok : readOk v
      · have hE := headE_ok.1 hok.2
        have HR := Lib.hid (fun w => hread_ok v w v0 v1 hok)
        have HG := Lib.hid (fun w => hlongc_ok (rdR v) (rdB v) (rdT v) (rdF v) w hok.2)
        have HO := Lib.hid hok
        have HH : Hid (((hlen v : Nat) : Int) = 1 + rdR v + rdB v) := by show _ = _; unfold hlen; omega
        have HP : Hid (spotOf j v = ⟨j, rdR v, rdB v, rdT v, rdF v⟩) := rfl
        obtain ⟨r0, r1, b0, b1, t0, t1, l1, _⟩ := hE
        generalize rdR v = r at *
        generalize rdB v = b at *
        generalize rdT v = t at *
        generalize rdF v = f at *
        clear hok
        by_cases hfit : 1 + r + b ≤ (n : Int) - j
        · go_wp2_with fail
          refine (HR.out _).mono ?_
          rintro e w1 ⟨rfl, hb1⟩
          have hown1 := (own_below hown hb1).alloc (.cells #[.int .i64 r, .int .i64 b, .int .i64 t, .bool f] 110)
          have hb01 := hb.trans (hb1.mono hb.size)
          have hb02 := hb01.alloc hb01.size (.cells #[.int .i64 r, .int .i64 b, .int .i64 t, .bool f] 110)
          have hbl := Blk.new w1 110 #[.int .i64 r, .int .i64 b, .int .i64 t, .bool f]
          clear hown hb hb1
          go_wp2_with fail
          refine (HG.out _).mono ?_
          rintro e w2 ⟨rfl, hb2⟩
          have hbl2 := hbl.below hb2 (by simp)
          have k0 := hbl2.cell 0
          have k1 := hbl2.cell 1
          have k2 := hbl2.cell 2
          have k3 := hbl2.cell 3
          simp only [List.getElem?_toArray, List.getElem?_cons_zero, List.getElem?_cons_succ] at k0 k1 k2 k3
          have hown2 := (own_below hown1 hb2).alloc (.cells (spotC ⟨j, r, b, t, f⟩).toArray 146)
          have hb03 := hb02.trans (hb2.mono hb02.size)
          have hb04 := hb03.alloc hb03.size (.cells (spotC ⟨j, r, b, t, f⟩).toArray 146)
          have hnew := reads_new w2 (spotC ⟨j, r, b, t, f⟩) 146 1 5 rfl
          clear hown1 hb01 hb02 hb2 hbl hbl2
          go_wp2_with (at_builtin; refine wpList_append_any _ rfl (.tmp 40) (.tmp 44) 140 rfl w.heap.size 146 i0 _ 5 40 Try.underlying140 hi hz0 hz1 hz2 rfl (by decide) (.slice A' k c') k _ rfl hown2 (w2.heap.size + 1) (some ⟨w2.heap.size, 0, none⟩) 1 1 (spotC ⟨j, r, b, t, f⟩) rfl hnew (by simp [spotC, Value.oneCell']) (by simp [maxLen]; omega) (by omega) (by have := hb04.size; exact this) ?_; rintro v' w3 hown3 hgr hbl -; obtain ⟨A'', c'', rfl⟩ := own_slice hown3)
          have hb3 : Below w.heap.size w w3 := hb04.grown hgr hb04.size (fun g hg => (hown2.lt g hg).1)
          have hjl : j + hlen v ≤ n := by have := HH.out; omega
          go_roundw
          case rel => exact ⟨j + hlen v, A'', k + 1, c'', acc ++ [spotOf j v], hjl, by rw [Int.natCast_add, HH.out], rfl, by have := HH.out; omega, by show _ = _; rw [List.length_append, ← hk.out]; rfl, by
            show _ = _
            rw [hS.out, spotsAt_step (by rw [HL.out]; exact hlt) (by rw [HV.out]; exact HO.out) (by rw [HV.out, HL.out]; exact hjl), HV.out, Option.map_map]
            congr 1
            funext x
            simp, by rw [spotsC_snoc, HP.out]; exact hown3, hb3⟩
          case measure => have := HH.out; simp [intOf]; omega
        · have HZ : Hid (spotsAt a 0 = none) := by
            show _ = _
            rw [hS.out, spotsAt_bad (by rw [HL.out]; exact hlt) (by rw [HV.out, HL.out]; rintro ⟨_, h⟩; have := HH.out; omega)]
            rfl
          clear hown hS
          go_wp2_with fail
          refine (HR.out _).mono ?_
          rintro e w1 ⟨rfl, hb1⟩
          have hb01 := hb.trans (hb1.mono hb.size)
          go_wp2_with fail
          refine (HG.out _).mono ?_
          rintro e w2 ⟨rfl, hb2⟩
          go_wp2
          go_ret2
          have he : spotsE a = 3 := by unfold spotsE; rw [if_neg (by rw [HL.out]; omega), if_pos HZ.out]
          have hl : spotsL a = [] := spotsL_bad (by rw [he]; decide)
          rw [he, hl]
          exact ⟨(hb01.alloc hb01.size _).trans (hb2.mono (by have := hb01.size; simp; omega)), none, 0, rfl, World.ownsRow_nil _ _ _ _⟩
      · have HR := Lib.hid (fun w => hread_bad v w v0 v1 hok)
        have HG := Lib.hid (fun w => hlongc_ok 0 0 0 false w (by decide))
        have HZ : Hid (spotsAt a 0 = none) := by
          show _ = _
          rw [hS.out, spotsAt_bad (by rw [HL.out]; exact hlt) (by rw [HV.out]; rintro ⟨h, _⟩; exact hok h)]
          rfl
        clear hown hS hok
        go_wp2_with fail
        refine (HR.out _).mono ?_
        rintro e w1 ⟨rfl, hb1⟩
        have hb01 := hb.trans (hb1.mono hb.size)
        go_wp2_with fail
        refine (HG.out _).mono ?_
        rintro e w2 ⟨rfl, hb2⟩
        go_wp2
        go_ret2
        have he : spotsE a = 3 := by unfold spotsE; rw [if_neg (by rw [HL.out]; omega), if_pos HZ.out]
        have hl : spotsL a = [] := spotsL_bad (by rw [he]; decide)
        rw [he, hl]
        exact ⟨(hb01.alloc hb01.size _).trans (hb2.mono (by have := hb01.size; simp; omega)), none, 0, rfl, World.ownsRow_nil _ _ _ _⟩
    · have hjn : j = n := by omega
      subst hjn
      have HZ : Hid (spotsAt a 0 = some acc) := by
        show _ = _
        rw [hS.out, spotsAt_end (by rw [HL.out]; exact Nat.le_refl _)]
        simp
      clear hS
      go_wp2
      go_ret2
      have he : spotsE a = 0 := by unfold spotsE; rw [if_neg (by rw [HL.out]; omega), if_neg (by rw [HZ.out]; exact fun h => by cases h)]
      have hl : spotsL a = acc := by unfold spotsL; rw [if_neg (by rw [HL.out]; omega), HZ.out]; rfl
      rw [he, hl, ← hk.out]
      exact ⟨hb, A', c', rfl, hown⟩

theorem spots_any (A : Option Addr) (n c : Nat) (a : List Int) (w : World) (hr : Reads w w.heap.size 1 A n (a.map (.int .u64))) (ha : ∀ x ∈ a, (Lit.int .u64 x).wf = true) :
    Calls Try.prog 79 #[.slice A n c] w fun e w' => Below w.heap.size w w' ∧ ∃ A' c', e = .returned (.tuple #[.slice A' (spotsL a).length c', .int .i64 (spotsE a)]) ∧ w'.ownsRow w.heap.size 146 5 (.slice A' (spotsL a).length c') (spotsL a).length (spotsC (spotsL a)) := by
  by_cases hn : n ≤ 256
  · exact spots_small A n c a w hr hn ha
  · have hal : a.length = n := by have := hr.1; simpa using this
    refine (spots_big A n c w (by omega)).mono ?_
    rintro e w' ⟨rfl, rfl⟩
    have he : spotsE a = 2 := by unfold spotsE; rw [if_pos (by omega)]
    have hl : spotsL a = [] := spotsL_bad (by rw [he]; decide)
    rw [he, hl]
    exact ⟨Below.refl _ _, none, 0, rfl, World.ownsRow_nil _ _ _ _⟩
end Go.Proofs.Ytbmkbnalembbjaa
