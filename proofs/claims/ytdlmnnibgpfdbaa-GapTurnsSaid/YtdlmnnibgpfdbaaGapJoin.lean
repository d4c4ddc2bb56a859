/-
  package gap: lay, Join.
-/
import Derived.Test.YtdlmnnibgpfdbaaGapFirst
import Derived.Test.YtdlmnnibgpfdbaaJoinLaw
namespace Go.Proofs.Ytdlmnnibgpfdbaa
open Go.RowKit

set_option maxHeartbeats 400000 in
theorem glay_ok (A : Option Addr) (n c B : Nat) (a : List Int) (i m : Nat) (w : World) (hr : Reads w B 1 A n (a.map (.int .u64))) (hB : B ≤ w.heap.size) (hn : n ≤ 256) (him : i + m ≤ n) (h1 : 1 ≤ m) :
    Calls Try.prog 60 #[.slice A n c, .int .i64 i, .int .i64 m] w fun e w' => Below w.heap.size w w' ∧ ∃ A' c', e = .returned (.slice A' n c') ∧ w'.ownsRow w.heap.size 29 1 (.slice A' n c') n ((layL a i m).map (.int .u64)) := by
  have hE : headE 0 ((m : Int) - 1) 0 true = 0 := headE_ok.2 ⟨by omega, by omega, by omega, by omega, by omega, by omega, by omega, fun _ => ⟨rfl, rfl⟩⟩
  have HW := Lib.hid (fun w => hword_ok 0 ((m : Int) - 1) 0 true w hE)
  have hF : fillE n i m = 0 := fillE_ok.2 ⟨by omega, by omega, by omega, by omega, by omega⟩
  have HF := Lib.hid (fun w hr hB => fill_ok A n c B a i m 0 w hr hB hF)
  have HL : Hid (layL a i m = (fillL a i m 0).set i (wordOf 0 ((m : Int) - 1) 0 true)) := by show _ = _; unfold layL; rw [if_neg (by omega)]
  have w1 : IntKind.i64.wrap ((m : Int) - 1) = (m : Int) - 1 := IntWalk.i64_in _ (by omega)
  have hm0 : ((m : Int) == 0) = false := by simp; omega
  simp only [Int.toNat_natCast] at HF
  generalize fillL a i m 0 = F at *
  generalize wordOf 0 ((m : Int) - 1) 0 true = v at *
  clear hE hF
  go_enter Try.func60, Try.ntmps60
  go_wp2_with fail
  refine (HW.out _).mono ?_
  rintro e w1 ⟨rfl, hb1⟩
  go_wp2_with fail
  refine (HF.out _ (hr.below (hb1.mono hB)) (by have := hb1.size; omega)).mono ?_
  rintro e w2 ⟨hb2, A', c', rfl, hown⟩
  obtain ⟨g, cap, hv, hg, -⟩ := hown.form (by omega)
  obtain ⟨rfl, rfl⟩ : A' = some ⟨g, 0, none⟩ ∧ c' = cap := by simpa using hv
  have hF0 := hown.frozenAt i
  have hl := hown.1
  simp only [List.length_map] at hl
  have hc0 := hown.cellAt i (by omega)
  rw [List.getElem?_map, List.getElem?_eq_getElem (by omega)] at hc0
  have hc1 : w2.cell? ⟨g, i, none⟩ = some (.int .u64 (F[i]'(by omega))) := hc0
  have hin : i < n := by omega
  have HOW := Lib.hid hown
  clear hv hc0 hown
  go_wp2
  go_ret
  refine ⟨(below_step hb1 hb2).setCell (p := ⟨g, i, none⟩) (by have := hb1.size; exact Nat.le_trans this hg) _, some ⟨g, 0, none⟩, c', rfl, ?_⟩
  rw [HL.out, List.map_set]
  exact own_mono (HOW.out.stored i (.int .u64 v)).1 hb1.size

set_option maxHeartbeats 400000 in
theorem gjoin_bad (A : Option Addr) (n c : Nat) (a : List Int) (w : World) (hr : Reads w w.heap.size 1 A n (a.map (.int .u64))) (hnc : n ≤ c) (ha : ∀ x ∈ a, (Lit.int .u64 x).wf = true) (hE : checkE a ≠ 0) :
    Calls Try.prog 27 #[.slice A n c] w fun e w' => e = .returned (.tuple #[.slice none 0 0, .int .i64 (checkE a)]) ∧ Below w.heap.size w w' := by
  have H1 := Lib.hid (fun w hr => gspots_any A n c a w hr hnc ha)
  generalize checkE a = E at *
  have hE1 : (E != 0) = true := by simpa using hE
  go_enter Try.func27, Try.ntmps27
  go_wp2_with fail
  refine (H1.out _ hr).mono ?_
  rintro e w1 ⟨hb1, A', c', rfl, hown⟩
  clear hown
  go_wp2
  go_ret2
  exact ⟨rfl, hb1⟩

set_option maxRecDepth 100000 in
set_option maxHeartbeats 1000000 in
theorem gjoin_ok (A : Option Addr) (n c : Nat) (a : List Int) (w : World) (hr : Reads w w.heap.size 1 A n (a.map (.int .u64))) (hnc : n ≤ c) (ha : ∀ x ∈ a, (Lit.int .u64 x).wf = true) (hE : checkE a = 0) :
    Calls Try.prog 27 #[.slice A n c] w fun e w' => Below w.heap.size w w' ∧ ∃ A' c', e = .returned (.tuple #[.slice A' n c', .int .i64 0]) ∧ w'.ownsRow w.heap.size 29 1 (.slice A' n c') n ((joinL a (gapsL (spotsL a))).map (.int .u64)) := by
  have H1 := fun w hr => gspots_any A n c a w hr hnc ha
  obtain ⟨s1, s2, s3, s4⟩ := gspots_small a
  have hgs : gspotsL a = spotsL a := by unfold gspotsL; rw [if_pos hE]
  rw [hE] at H1
  rw [hgs] at H1 s1 s2
  have H1 := Lib.hid H1
  have H2 := Lib.hid (fun A' c' w hr => ggaps_any A' (spotsL a).length c' (spotsL a) w hr s1 s2)
  have hal : a.length = n := by have := hr.1; simpa using this
  have hn : n ≤ 256 := by have := (parse_ok (checkE_ok.1 hE).1).1; omega
  have hJ := join_ok hE
  have HR := Lib.hid hJ.runs
  have hGl : (gapsL (spotsL a)).length ≤ 256 := by have := gapsA_length [] false (spotsL a); unfold gapsL; simp only [List.length_nil] at this; omega
  have H3 := Lib.hid (fun w hr hB => clone_u64 A n c w.heap.size (a.map (.int .u64)) w hr hB (u64s_one a) (by omega))
  generalize spotsL a = L at *
  generalize gapsL L = G at *
  obtain ⟨k, hk⟩ : ∃ k, k = G.length := ⟨_, rfl⟩
  have HK := Lib.hid hk
  rw [← hk] at H2 hGl
  have HAL := Lib.hid hal
  clear s1 s2 s3 s4 hgs hJ hE hk hal
  go_enter Try.func27, Try.ntmps27
  go_wp2_with fail
  refine (H1.out _ hr).mono ?_
  rintro e w1 ⟨hb1, A1, c1, rfl, hown1⟩
  have hrl := Reads.of_own hown1
  clear hown1
  go_wp2_with fail
  refine (H3.out _ ((hr.below hb1).more hb1.size) (Nat.le_refl _)).mono ?_
  rintro e w2 ⟨A2, c2, rfl, hown2, hb2⟩
  have hb02 := below_step hb1 hb2
  go_wp2_with fail
  refine (H2.out _ _ _ ((hrl.below hb2).more hb2.size)).mono ?_
  rintro e w3 ⟨hb3, A3, c3, rfl, hown3⟩
  have hrG := Reads.of_own hown3
  have hown23 := own_mono (own_below hown2 hb3) hb1.size
  have hb03 := below_step hb02 hb3
  clear hown3 hown2 hrl hb1 hb2 hb3 hb02
  go_wp2
  go_loopw [0, 7, 21] (fun o _ i wr => ∃ (j : Nat) (A' : Option Addr) (c' : Nat) (cur : List Int), j ≤ k ∧ i = .int .i64 j ∧ o = .slice A' n c' ∧ Hid (joinL a G = joinL cur (G.drop j)) ∧ wr.ownsRow w.heap.size 29 1 (.slice A' n c') n (cur.map (.int .u64)) ∧ Below w3.heap.size w3 wr) (fun _ _ i _ => k - (intOf i).toNat)
  case atStart => exact ⟨0, A2, c2, a, Nat.zero_le _, rfl, rfl, rfl, hown23, Below.refl _ _⟩
  case round =>
    obtain ⟨j, A', c', cur, hj, rfl, rfl, hJ, hown, hb⟩ := hrel
    by_cases hlt : j < k
    · obtain ⟨ad, r, rfl, had, hs, c0, c1⟩ := (hrG.below hb).run hlt
      obtain ⟨i, m, rfl, h1, him⟩ := HR.out r (List.mem_of_getElem? hs)
      rw [HAL.out] at him
      have HD := Lib.hid (drop_of_get hs)
      have HJ2 : Hid (joinL a G = joinL (layL cur i m) (G.drop (j + 1))) := by
        show _ = _
        rw [hJ.out, HD.out]
        rfl
      dsimp only at c0 c1
      have hrc := (Reads.of_own hown).alloc (Nat.le_refl _) (.cells #[.int .i64 i, .int .i64 m] 56)
      have HL := Lib.hid (glay_ok A' n c' _ cur i m _ hrc (by simp) hn him h1)
      have hb0 := hb.alloc hb.size (.cells #[.int .i64 i, .int .i64 m] 56)
      have hbs : w.heap.size ≤ (wr.alloc (.cells #[.int .i64 i, .int .i64 m] 56)).heap.size := by have := hb0.size; have := hb03.size; omega
      clear hs hrc hown hJ
      go_wp2_with fail
      refine HL.out.mono ?_
      rintro e w4 ⟨hb4, A4, c4, rfl, hown4⟩
      go_wp2
      go_roundw
      case rel => exact ⟨j + 1, A4, c4, layL cur i m, by omega, by go_num, rfl, HJ2, own_mono hown4 hbs, hb0.trans (hb4.mono hb0.size)⟩
      case measure => simp [intOf]; omega
    · have hjk : j = k := by omega
      subst hjk
      rw [List.drop_of_length_le (by rw [← HK.out]; exact Nat.le_refl _)] at hJ
      have hJ : Hid (joinL a G = cur) := hJ
      go_wp2
      go_ret2
      rw [hJ.out]
      exact ⟨below_step hb03 hb, A', c', rfl, hown⟩
end Go.Proofs.Ytdlmnnibgpfdbaa
