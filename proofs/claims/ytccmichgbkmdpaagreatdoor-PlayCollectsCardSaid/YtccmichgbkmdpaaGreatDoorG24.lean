/-
  Texts joined: Rooted.
-/
import Derived.Test.YtccmichgbkmdpaaGreatDoorG10
namespace Go.Proofs.YtccmichgbkmdpaaGreatDoor
open Go.RowKit
def rootsL (r : List Int) : List Int := r.filter (fun v => decide (0 ≤ v))
theorem rootsL_snoc (r : List Int) (x : Int) : rootsL (r ++ [x]) = rootsL r ++ (if 0 ≤ x then [x] else []) := by
  unfold rootsL
  rw [List.filter_append]
  by_cases h : 0 ≤ x <;> simp [h]
theorem pinsL_snoc (p : List Rn) (x : Rn) : pinsL (p ++ [x]) = pinsL p ++ [x.loc] := by unfold pinsL; rw [List.map_append]; rfl
set_option maxRecDepth 100000 in
set_option maxHeartbeats 2000000 in
theorem rooted_any (A : Option Addr) (n c : Nat) (RA : Option Addr) (rn rc : Nat) (PA : Option Addr) (pn pc : Nat) (HA : Option Addr) (hn hc : Nat) (S : St) (w : World)
    (hR : StR w w.heap.size A n RA rn PA pn HA hn S) (h1 : rn ≤ 1000) (h2 : pn ≤ 1000) (h3 : hn ≤ 1000) :
    Calls Tryz.prog 16 #[.agg #[.slice A n c, .slice RA rn rc, .slice PA pn pc, .slice HA hn hc]] w fun e w' => ∃ A' c', e = .returned (.slice A' (rootedL S).length c') ∧
      w'.ownsRow w.heap.size 3 1 (.slice A' (rootedL S).length c') (rootedL S).length ((rootedL S).map (.int .i64)) ∧ Below w.heap.size w w' := by
  obtain ⟨i0, hi, hz0, hz1, hz2⟩ := info_parts info_int
  obtain ⟨-, l2, l3, l4⟩ := hR.lens
  have hrr := hR.r
  have hrp := hR.p
  have hrl := hR.l
  have HT : Hid (rootedL S = (rootsL S.r ++ openL S.l) ++ pinsL S.p) := rfl
  generalize rootedL S = T at *
  obtain ⟨a, r, p, l⟩ := S
  dsimp only at l2 l3 l4 hrr hrp hrl HT
  have HL2 := Lib.hid l2
  have HL3 := Lib.hid l3
  have HL4 := Lib.hid l4
  have hb0 := below_new w (.cells #[.slice A n c, .slice RA rn rc, .slice PA pn pc, .slice HA hn hc] 28)
  have DS := Blk.new w 28 #[.slice A n c, .slice RA rn rc, .slice PA pn pc, .slice HA hn hc]
  obtain ⟨s0, s1, s2, s3⟩ := DS.four
  clear l2 l3 l4 hR
  go_enter Tryz.func16, Tryz.ntmps16
  go_wp2_with fail
  clear s0 s1 s2 s3
  go_loopw [3, 13] (fun o i wr => ∃ (j : Nat) (A' : Option Addr) (k c' : Nat), j ≤ rn ∧ i = .int .i64 j ∧ o = .slice A' k c' ∧ k ≤ 0 + j ∧ Hid (k = (rootsL (r.take j)).length) ∧ wr.ownsRow (w.heap.size + 1) 3 1 (.slice A' k c') k ((rootsL (r.take j)).map (.int .i64)) ∧ Below w.heap.size w wr ∧ Blk wr w.heap.size 28 #[.slice A n c, .slice RA rn rc, .slice PA pn pc, .slice HA hn hc]) (fun _ i _ => rn - (intOf i).toNat)
  case atStart => exact ⟨0, none, 0, 0, Nat.zero_le _, rfl, rfl, Nat.le_refl _, rfl, World.ownsRow_nil _ _ _ _, hb0, DS⟩
  case round =>
    obtain ⟨j, A', k, c', hj, rfl, rfl, hkj, hk, hown, hb, DS⟩ := hrel
    clear hb0
    by_cases hlt : j < rn
    · obtain ⟨ad, x, rfl, had, hx, cx⟩ := (hrr.below hb).num hlt
      have HQ : Hid (rootsL (r.take (j + 1)) = rootsL (r.take j) ++ (if 0 ≤ x then [x] else [])) := by
        show _ = _
        obtain ⟨g1, rfl⟩ := List.getElem?_eq_some_iff.1 hx
        rw [List.take_succ_eq_append_getElem g1, rootsL_snoc]
      clear hx
      generalize hLk : rootsL (r.take j) = Lk at *
      clear hLk
      have hown1 := hown
      have hb1 := hb
      have DS1 := DS
      by_cases h0 : 0 ≤ x
      · have g0 : decide (0 ≤ x) = true := decide_eq_true h0
        have HQ : Hid (rootsL (r.take (j + 1)) = Lk ++ [x]) := by have := HQ.out; rw [if_pos h0] at this; exact this
        clear h0
        have hown2 := hown1.alloc (.cells #[.int .i64 x] 3)
        have hb2 := hb1.alloc hb1.size (.cells #[.int .i64 x] 3)
        have DS2 := DS1.alloc (.cells #[.int .i64 x] 3)
        have hnew := reads_new (wr) [.int .i64 x] 3 1 1 rfl
        clear hown hown1 hb hb1 DS DS1
        go_wp2_with (at_builtin; refine wpList_append_any _ rfl (.tmp 19) (.tmp 21) 23 rfl (w.heap.size + 1) 3 i0 (.int .i64 0) 1 8 Tryz.underlying23 hi hz0 hz1 hz2 rfl (by decide) (.slice A' k c') k _ rfl hown2 _ (some ⟨wr.heap.size, 0, none⟩) 1 1 [.int .i64 x] rfl hnew (by simp [Value.oneCell']) (by unfold maxLen; omega) (by omega) (by have := DS2.lt; omega) ?_; rintro v' w5 hO5 hg5 - -; obtain ⟨A5, c5, rfl⟩ := own_slice hO5)
        have hb3 := hb2.grown hg5 hb2.size (fun g hg => by have := (hown2.lt g hg).1; omega)
        have DS3 := DS2.grown hg5 (fun h => own_off hown2 (Nat.lt_succ_self _) h.symm)
        have HO := Lib.hid hO5
        clear hO5 hown2 hg5 hnew hb2
        go_roundw
        case rel => exact ⟨j + 1, A5, k + 1, c5, by omega, by go_num, rfl, by omega, by show _ = _; rw [HQ.out, List.length_append, ← hk.out]; rfl, by rw [HQ.out, List.map_append]; exact HO.out, hb3, DS3⟩
        case measure => simp [intOf]; omega
      · have g0 : decide (0 ≤ x) = false := decide_eq_false h0
        have HQ : Hid (rootsL (r.take (j + 1)) = Lk) := by have := HQ.out; rw [if_neg h0, List.append_nil] at this; exact this
        clear h0
        go_wp2_with fail
        go_roundw
        case rel => exact ⟨j + 1, A', k, c', by omega, by go_num, rfl, by omega, by rw [HQ.out]; exact hk, by rw [HQ.out]; exact hown, hb, DS⟩
        case measure => simp [intOf]; omega
    · have hjn : rn = j := by omega
      have e : r.take j = r := List.take_of_length_le (by rw [HL2.out]; omega)
      rw [e] at hk hown
      obtain rfl : k = (rootsL r).length := hk.out
      clear hk e
      subst hjn
      obtain ⟨s0, s1, s2, s3⟩ := DS.four
      generalize hRR : rootsL r = R at *
      have HRR := Lib.hid hRR
      clear hRR
      have hR0 : R ++ openL (l.take 0) = R := by simp [openL]
      go_wp2_with fail
      clear s0 s1 s2 s3
      go_loopw [3, 27] (fun o i wr => ∃ (j : Nat) (A' : Option Addr) (k c' : Nat), j ≤ hn ∧ i = .int .i64 j ∧ o = .slice A' k c' ∧ k ≤ 1000 + j ∧ Hid (k = (R ++ openL (l.take j)).length) ∧ wr.ownsRow (w.heap.size + 1) 3 1 (.slice A' k c') k ((R ++ openL (l.take j)).map (.int .i64)) ∧ Below w.heap.size w wr ∧ Blk wr w.heap.size 28 #[.slice A n c, .slice RA rn rc, .slice PA pn pc, .slice HA hn hc]) (fun _ i _ => hn - (intOf i).toNat)
      case atStart => exact ⟨0, A', R.length, c', Nat.zero_le _, rfl, rfl, by omega, by show _ = _; rw [hR0], by rw [hR0]; exact hown, hb, DS⟩
      case round =>
        clear hown hb DS hkj hR0
        obtain ⟨j, A', k, c', hj, rfl, rfl, hkj, hk, hown, hb, DS⟩ := hrel
        by_cases hlt : j < hn
        · obtain ⟨ad, y, rfl, had, hx, q0, q1, q2⟩ := (hrl.below hb).slot hlt
          have HQ : Hid (R ++ openL (l.take (j + 1)) = (R ++ openL (l.take j)) ++ (if y.opn = true then [y.loc] else [])) := by
            show _ = _
            obtain ⟨g1, rfl⟩ := List.getElem?_eq_some_iff.1 hx
            rw [List.take_succ_eq_append_getElem g1, openL_snoc, List.append_assoc]
          clear hx
          obtain ⟨gen, opn, x⟩ := y
          dsimp only at q0 q1 q2 HQ
          generalize hLk : R ++ openL (l.take j) = Lk at *
          clear hLk
          have hb1 := hb.alloc hb.size (.cells #[.int .i64 gen, .bool opn, .int .i64 x] 71)
          have hown1 := hown.alloc (.cells #[.int .i64 gen, .bool opn, .int .i64 x] 71)
          have DS1 := DS.alloc (.cells #[.int .i64 gen, .bool opn, .int .i64 x] 71)
          cases opn
          · have HQ : Hid (R ++ openL (l.take (j + 1)) = Lk) := by have := HQ.out; show _ = _; simpa using this
            go_wp2_with fail
            go_roundw
            case rel => exact ⟨j + 1, A', k, c', by omega, by go_num, rfl, by omega, by rw [HQ.out]; exact hk, by rw [HQ.out]; exact hown1, hb1, DS1⟩
            case measure => simp [intOf]; omega
          · have HQ : Hid (R ++ openL (l.take (j + 1)) = Lk ++ [x]) := by have := HQ.out; show _ = _; simpa using this
            have hown2 := hown1.alloc (.cells #[.int .i64 x] 3)
            have hb2 := hb1.alloc hb1.size (.cells #[.int .i64 x] 3)
            have DS2 := DS1.alloc (.cells #[.int .i64 x] 3)
            have hnew := reads_new (wr.alloc (.cells #[.int .i64 gen, .bool true, .int .i64 x] 71)) [.int .i64 x] 3 1 1 rfl
            rw [World.size_alloc] at hnew
            clear hown hown1 hb hb1 DS DS1
            go_wp2_with (at_builtin; refine wpList_append_any _ rfl (.tmp 33) (.tmp 36) 23 rfl (w.heap.size + 1) 3 i0 (.int .i64 0) 1 8 Tryz.underlying23 hi hz0 hz1 hz2 rfl (by decide) (.slice A' k c') k _ rfl hown2 _ (some ⟨wr.heap.size + 1, 0, none⟩) 1 1 [.int .i64 x] rfl hnew (by simp [Value.oneCell']) (by unfold maxLen; omega) (by omega) (by have := DS2.lt; omega) ?_; rintro v' w5 hO5 hg5 - -; obtain ⟨A5, c5, rfl⟩ := own_slice hO5)
            have hb3 := hb2.grown hg5 hb2.size (fun g hg => by have := (hown2.lt g hg).1; omega)
            have DS3 := DS2.grown hg5 (fun h => own_off hown2 (Nat.lt_succ_self _) h.symm)
            have HO := Lib.hid hO5
            clear hO5 hown2 hg5 hnew hb2
            go_roundw
            case rel => exact ⟨j + 1, A5, k + 1, c5, by omega, by go_num, rfl, by omega, by show _ = _; rw [HQ.out, List.length_append, ← hk.out]; rfl, by rw [HQ.out, List.map_append]; exact HO.out, hb3, DS3⟩
            case measure => simp [intOf]; omega
        · have hjn : hn = j := by omega
          have e : l.take j = l := List.take_of_length_le (by rw [HL4.out]; omega)
          rw [e] at hk hown
          obtain rfl : k = (R ++ openL l).length := hk.out
          clear hk e
          subst hjn
          obtain ⟨s0, s1, s2, s3⟩ := DS.four
          generalize hQQ : R ++ openL l = Q at *
          have HQQ := Lib.hid hQQ
          clear hQQ
          have hQ0 : Q ++ pinsL (p.take 0) = Q := by simp [pinsL]
          go_wp2_with fail
          clear s0 s1 s2 s3
          go_loopw [3, 42] (fun o i wr => ∃ (j : Nat) (A' : Option Addr) (k c' : Nat), j ≤ pn ∧ i = .int .i64 j ∧ o = .slice A' k c' ∧ k ≤ 2000 + j ∧ Hid (k = (Q ++ pinsL (p.take j)).length) ∧ wr.ownsRow (w.heap.size + 1) 3 1 (.slice A' k c') k ((Q ++ pinsL (p.take j)).map (.int .i64)) ∧ Below w.heap.size w wr ∧ Blk wr w.heap.size 28 #[.slice A n c, .slice RA rn rc, .slice PA pn pc, .slice HA hn hc]) (fun _ i _ => pn - (intOf i).toNat)
          case atStart => exact ⟨0, A', Q.length, c', Nat.zero_le _, rfl, rfl, by omega, by show _ = _; rw [hQ0], by rw [hQ0]; exact hown, hb, DS⟩
          case round =>
            clear hown hb DS hkj hQ0
            obtain ⟨j, A', k, c', hj, rfl, rfl, hkj, hk, hown, hb, DS⟩ := hrel
            by_cases hlt : j < pn
            · obtain ⟨ad, y, rfl, had, hx, q0, q1⟩ := (hrp.below hb).run hlt
              have HQ : Hid (Q ++ pinsL (p.take (j + 1)) = (Q ++ pinsL (p.take j)) ++ [y.loc]) := by
                show _ = _
                obtain ⟨g1, rfl⟩ := List.getElem?_eq_some_iff.1 hx
                rw [List.take_succ_eq_append_getElem g1, pinsL_snoc, List.append_assoc]
              clear hx
              obtain ⟨x, y⟩ := y
              dsimp only at q0 q1 HQ
              generalize hLk : Q ++ pinsL (p.take j) = Lk at *
              clear hLk
              have hb1 := hb.alloc hb.size (.cells #[.int .i64 x, .int .i64 y] 68)
              have hown1 := hown.alloc (.cells #[.int .i64 x, .int .i64 y] 68)
              have DS1 := DS.alloc (.cells #[.int .i64 x, .int .i64 y] 68)
              have hown2 := hown1.alloc (.cells #[.int .i64 x] 3)
              have hb2 := hb1.alloc hb1.size (.cells #[.int .i64 x] 3)
              have DS2 := DS1.alloc (.cells #[.int .i64 x] 3)
              have hnew := reads_new (wr.alloc (.cells #[.int .i64 x, .int .i64 y] 68)) [.int .i64 x] 3 1 1 rfl
              rw [World.size_alloc] at hnew
              clear hown hown1 hb hb1 DS DS1
              go_wp2_with (at_builtin; refine wpList_append_any _ rfl (.tmp 46) (.tmp 49) 23 rfl (w.heap.size + 1) 3 i0 (.int .i64 0) 1 8 Tryz.underlying23 hi hz0 hz1 hz2 rfl (by decide) (.slice A' k c') k _ rfl hown2 _ (some ⟨wr.heap.size + 1, 0, none⟩) 1 1 [.int .i64 x] rfl hnew (by simp [Value.oneCell']) (by unfold maxLen; omega) (by omega) (by have := DS2.lt; omega) ?_; rintro v' w5 hO5 hg5 - -; obtain ⟨A5, c5, rfl⟩ := own_slice hO5)
              have hb3 := hb2.grown hg5 hb2.size (fun g hg => by have := (hown2.lt g hg).1; omega)
              have DS3 := DS2.grown hg5 (fun h => own_off hown2 (Nat.lt_succ_self _) h.symm)
              have HO := Lib.hid hO5
              clear hO5 hown2 hg5 hnew hb2
              go_roundw
              case rel => exact ⟨j + 1, A5, k + 1, c5, by omega, by go_num, rfl, by omega, by show _ = _; rw [HQ.out, List.length_append, ← hk.out]; rfl, by rw [HQ.out, List.map_append]; exact HO.out, hb3, DS3⟩
              case measure => simp [intOf]; omega
            · have hjn : j = pn := by omega
              have e : p.take j = p := List.take_of_length_le (by rw [HL3.out]; omega)
              rw [e] at hk hown
              have HTT : Hid (T = Q ++ pinsL p) := by show _ = _; rw [HT.out, ← HQQ.out, ← HRR.out]
              rw [← HTT.out] at hk hown
              obtain rfl : k = T.length := hk.out
              have hown := own_mono hown (Nat.le_succ _)
              clear hk e HTT
              go_wp2_with fail
              go_ret
              exact ⟨A', c', rfl, hown, hb⟩
end Go.Proofs.YtccmichgbkmdpaaGreatDoor
