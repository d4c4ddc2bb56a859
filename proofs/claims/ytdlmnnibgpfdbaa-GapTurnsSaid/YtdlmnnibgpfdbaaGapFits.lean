/-
  package gap: fits, First, Best.
-/
import Derived.Test.YtdlmnnibgpfdbaaRows
import Derived.Test.YtdlmnnibgpfdbaaGapDefs
import Derived.Test.YtdlmnnibgpfdbaaBase2
namespace Go.Proofs.Ytdlmnnibgpfdbaa
open Go.RowKit

theorem info_int : (Try.prog.info? 3).map (fun i => (i.zero, i.size, i.bytes)) = some (some (.int .i64 0), 1, 8) := by kernel_rfl

def fitsL (l : List Rn) (n : Int) : List Int := if fitsE l n = 0 then fitIx n 0 l else []

set_option maxHeartbeats 400000 in
theorem fits_arg (A : Option Addr) (m c : Nat) (n : Int) (w : World) (hn : n < 1) :
    Calls Try.prog 52 #[.slice A m c, .int .i64 n] w fun e w' => e = .returned (.tuple #[.slice none 0 0, .int .i64 1]) ∧ w = w' := by
  go_enter Try.func52, Try.ntmps52
  go_wp2
  go_ret2
  exact ⟨rfl, rfl⟩

set_option maxRecDepth 100000 in
set_option maxHeartbeats 1000000 in
theorem fits_any (A : Option Addr) (m c : Nat) (l : List Rn) (n : Int) (w : World) (hr : Reads w w.heap.size 2 A m (runsC l)) (hm : m * 16 ≤ 140737488351232) :
    Calls Try.prog 52 #[.slice A m c, .int .i64 n] w fun e w' => Below w.heap.size w w' ∧ ∃ A' c', e = .returned (.tuple #[.slice A' (fitsL l n).length c', .int .i64 (fitsE l n)]) ∧ w'.ownsRow w.heap.size 3 1 (.slice A' (fitsL l n).length c') (fitsL l n).length ((fitsL l n).map (.int .i64)) := by
  by_cases hn : n < 1
  · have he : fitsE l n = 1 := by unfold fitsE; rw [if_pos hn]
    have hl : fitsL l n = [] := by unfold fitsL; rw [he]; rfl
    rw [he, hl]
    refine (fits_arg A m c n w hn).mono ?_
    rintro e w' ⟨rfl, rfl⟩
    exact ⟨Below.refl _ _, none, 0, rfl, World.ownsRow_nil _ _ _ _⟩
  · have hn1 : 1 ≤ n := by omega
    have hll : l.length = m := by have := hr.1; rw [runsC_length] at this; omega
    have HL := Lib.hid hll
    obtain ⟨i0, hi, hz0, hz1, hz2⟩ := info_parts info_int
    clear hll hn
    go_enter Try.func52, Try.ntmps52
    go_wp2
    go_loopw [6, 7, 8, 13] (fun o _ _ i wr => ∃ (j : Nat) (A' : Option Addr) (k c' : Nat), j ≤ m ∧ i = .int .i64 j ∧ o = .slice A' k c' ∧ k ≤ j ∧ Hid (k = (fitIx n 0 (l.take j)).length) ∧ Hid ((l.take j).any badRun = false) ∧ wr.ownsRow w.heap.size 3 1 (.slice A' k c') k ((fitIx n 0 (l.take j)).map (.int .i64)) ∧ Below w.heap.size w wr) (fun _ _ _ i _ => m - (intOf i).toNat)
    case atStart => exact ⟨0, none, 0, 0, Nat.zero_le _, rfl, rfl, Nat.le_refl _, rfl, rfl, World.ownsRow_nil _ _ _ _, Below.refl _ _⟩
    case round =>
      obtain ⟨j, A', k, c', hj, rfl, rfl, hkj, hk, hB, hown, hb⟩ := hrel
      by_cases hlt : j < m
      · obtain ⟨ad, r, rfl, had, hs, c0, c1⟩ := (hr.below hb).run hlt
        have HT : Hid (l.take (j + 1) = l.take j ++ [r]) := by
          show _ = _
          obtain ⟨h1, rfl⟩ := List.getElem?_eq_some_iff.1 hs
          exact List.take_succ_eq_append_getElem h1
        have HLen : Hid ((l.take j).length = j) := by show _ = _; rw [List.length_take, HL.out]; omega
        have HSM : Hid (r ∈ l) := List.mem_of_getElem? hs
        clear hs
        obtain ⟨loc, ln⟩ := r
        dsimp only at c0 c1
        have hown0 := hown.alloc (.cells #[.int .i64 loc, .int .i64 ln] 56)
        have hb0 := hb.alloc hb.size (.cells #[.int .i64 loc, .int .i64 ln] 56)
        clear hown hb
        by_cases hbad : badRun ⟨loc, ln⟩ = true
        · have hE : Hid (fitsE l n = 4) := by
            show _ = _
            unfold fitsE
            rw [if_neg (by omega), if_pos (List.any_eq_true.2 ⟨_, HSM.out, hbad⟩)]
          have hbad' : loc < 0 ∨ ln < 1 := by simpa [badRun] using hbad
          clear hbad
          by_cases h0 : loc < 0
          all_goals
            try have h1 : ln < 1 := by omega
            go_wp2
            go_ret2
            have hl : fitsL l n = [] := by unfold fitsL; rw [hE.out]; rfl
            rw [hE.out, hl]
            exact ⟨hb0, none, 0, rfl, World.ownsRow_nil _ _ _ _⟩
        · have HB2 : Hid ((l.take (j + 1)).any badRun = false) := by
            show _ = _
            rw [HT.out, List.any_append, hB.out]
            simp at hbad
            simp [hbad]
          have hg : ¬ loc < 0 ∧ ¬ ln < 1 := by simpa [badRun] using hbad
          obtain ⟨g0, g1⟩ := hg
          clear hbad
          by_cases hfit : n ≤ ln
          · have HQ : Hid (fitIx n 0 (l.take (j + 1)) = fitIx n 0 (l.take j) ++ [(j : Int)]) := by
              show _ = _
              rw [HT.out, fitIx_snoc, if_pos hfit, HLen.out, Nat.zero_add]
            have hown2 := hown0.alloc (.cells #[.int .i64 j] 3)
            have hb2 := hb0.alloc hb0.size (.cells #[.int .i64 j] 3)
            have hnew := reads_new (wr.alloc (.cells #[.int .i64 loc, .int .i64 ln] 56)) [.int .i64 j] 3 1 1 rfl
            simp only [World.size_alloc] at hnew
            clear hown0 hb0
            go_wp2_with (at_builtin; refine wpList_append_any _ rfl (.tmp 32) (.tmp 34) 40 rfl w.heap.size 3 i0 (.int .i64 0) 1 8 Try.underlying40 hi hz0 hz1 hz2 rfl (by decide) (.slice A' k c') k _ rfl hown2 (wr.heap.size + 1 + 1) (some ⟨wr.heap.size + 1, 0, none⟩) 1 1 [.int .i64 j] rfl hnew (by simp [Value.oneCell']) (by simp [maxLen]; omega) (by omega) (by have := hb2.size; exact this) ?_; rintro v' w3 hown3 hgr hbl -; obtain ⟨A'', c'', rfl⟩ := own_slice hown3)
            have hb3 : Below w.heap.size w w3 := hb2.grown hgr hb2.size (fun g hg => (hown2.lt g hg).1)
            go_roundw
            case rel => exact ⟨j + 1, A'', k + 1, c'', by omega, by go_num, rfl, by omega, by show _ = _; rw [HQ.out, List.length_append, ← hk.out]; rfl, HB2, by rw [HQ.out, List.map_append]; exact hown3, hb3⟩
            case measure => simp [intOf]; omega
          · have HQ : Hid (fitIx n 0 (l.take (j + 1)) = fitIx n 0 (l.take j)) := by
              show _ = _
              rw [HT.out, fitIx_snoc, if_neg hfit, List.append_nil]
            go_wp2
            go_roundw
            case rel => exact ⟨j + 1, A', k, c', by omega, by go_num, rfl, by omega, by show _ = _; rw [HQ.out]; exact hk.out, HB2, by rw [HQ.out]; exact hown0, hb0⟩
            case measure => simp [intOf]; omega
      · have hjm : j = m := by omega
        subst hjm
        rw [List.take_of_length_le (by rw [HL.out]; exact Nat.le_refl _)] at hk hB hown
        by_cases hk0 : k = 0
        · have he : Hid (fitsE l n = 7) := by
            show _ = _
            unfold fitsE
            rw [if_neg (by omega), if_neg (by rw [hB.out]; decide), if_pos (List.length_eq_zero_iff.1 (hk.out.symm.trans hk0))]
          subst hk0
          go_wp2
          go_ret2
          have hl : fitsL l n = [] := by unfold fitsL; rw [he.out]; rfl
          rw [he.out, hl]
          exact ⟨hb, none, 0, rfl, World.ownsRow_nil _ _ _ _⟩
        · have he : Hid (fitsE l n = 0) := by
            show _ = _
            refine fitsE_ok.2 ⟨hn1, hB.out, fun h => hk0 (by rw [hk.out, h]; rfl)⟩
          have hk1 : ((k : Int) == 0) = false := by simpa using hk0
          go_wp2
          go_ret2
          have hl : fitsL l n = fitIx n 0 l := by unfold fitsL; rw [if_pos he.out]
          rw [he.out, hl, ← hk.out]
          exact ⟨hb, A', c', rfl, hown⟩
end Go.Proofs.Ytdlmnnibgpfdbaa
