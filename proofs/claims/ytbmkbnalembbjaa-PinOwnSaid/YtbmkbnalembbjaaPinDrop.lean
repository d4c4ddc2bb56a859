/-
  package pin: Drop.
-/
import Derived.Test.YtbmkbnalembbjaaPinAdd
namespace Go.Proofs.Ytbmkbnalembbjaa
open Go.RowKit

/-- The error of pin.Drop, where there is one. -/
def dropE (l : List Rn) (x : Int) : Int := if findE l x ≠ 0 then findE l x else 5
set_option maxRecDepth 100000 in
set_option maxHeartbeats 2000000 in
theorem pdrop_all (A : Option Addr) (n c : Nat) (l : List Rn) (x : Int) (w : World) (hr : Reads w w.heap.size 2 A n (runsC l)) (hn : n ≤ 1000000000000000000) :
    Calls Try.prog 20 #[.slice A n c, .int .i64 x] w fun e w' => Below w.heap.size w w' ∧
      ((findE l x = 0 ∧ ∃ i : Nat, PlaceOf l x i ∧ hasAt l x i = true ∧ PinRes w.heap.size (lessP l i x (countP l x - 1)) (countP l x - 1) e w') ∨
       (¬ (findE l x = 0 ∧ ∃ i, PlaceOf l x i ∧ hasAt l x i = true) ∧ ∃ er : Int, (er != 0) = true ∧ er = dropE l x ∧ e = .returned (.tuple #[.slice none 0 0, .int .i64 0, .int .i64 er]))) := by
  have hl : l.length = n := by have := hr.1; rw [runsC_length] at this; omega
  have HL := Lib.hid hl
  have H := Lib.hid (pfind_any A n c l x w hr hn)
  clear hl
  go_enter Try.func20, Try.ntmps20
  go_wp2_with fail
  refine H.out.mono ?_
  rintro e w1 ⟨hb1, ⟨hF, i, hi, rfl⟩ | ⟨hF, rfl⟩⟩
  · have hok := (findE_zero.1 hF).1
    have HF := Lib.hid hF
    have HI := Lib.hid hi
    have hn16 : n ≤ 16 := by have := hok.len; have := HL.out; omega
    cases hh : hasAt l x i
    · have HN : Hid (¬ (findE l x = 0 ∧ ∃ i, PlaceOf l x i ∧ hasAt l x i = true)) := by
        rintro ⟨-, j, hj, hj2⟩
        rw [hj.unique hi, hh] at hj2
        cases hj2
      clear hF hok hi hh
      go_wp2
      go_ret3
      exact ⟨hb1, .inr ⟨HN.out, 5, rfl, by unfold dropE; rw [if_neg (by simp [HF.out])], rfl⟩⟩
    · obtain ⟨y, hy, hyx⟩ := hasAt_some hh
      have HH := Lib.hid hh
      have hym := List.mem_of_getElem? hy
      have hyb := bad_no.1 (hok.ok y hym)
      have HV : Hid (countP l x = y.len) := by show _ = _; rw [← hyx]; exact countP_some hok hym
      have hin : i < n := by have := (List.getElem?_eq_some_iff.1 hy).1; have := HL.out; omega
      obtain ⟨ad, z, rfl, had, hz, c0, c1⟩ := (hr.below hb1).run hin
      obtain rfl : y = z := Option.some.inj (hy.symm.trans hz)
      obtain ⟨yl, yn⟩ := y
      dsimp only at c0 c1 HV hyx hyb
      subst hyx
      have HY := Lib.hid hy
      clear hF hok hi hh hy hz hym
      go_wp2_with fail
      refine (clone_pin (some ad) n c _ (runsC l) _ (hr.below hb1) hb1.size (runsC_one l) (by omega)).mono ?_
      rintro e w2 ⟨A2, c2, rfl, hown2, hb2⟩
      obtain ⟨g, rfl⟩ : ∃ g, A2 = some ⟨g, 0, none⟩ := by
        rcases hown2.2 with ⟨h2, h3⟩ | ⟨g, cap, cur, hv, -⟩
        · injection h2 with _ h4; omega
        · injection hv with h1 h2 h3; exact ⟨g, h1⟩
      obtain ⟨ad2, z2, e3, had2, hz2, d0, d1⟩ := (Reads.of_own hown2).run hin
      injection e3 with e3
      subst e3
      obtain rfl : (⟨yl, yn⟩ : Rn) = z2 := Option.some.inj (HY.out.symm.trans hz2)
      rw [Addr.add_lit, Nat.zero_add] at d0 d1
      dsimp only at d0 d1
      obtain ⟨cur, -, hgh, -⟩ := own_open hown2
      have BG : Blk w2 g 47 cur.toArray := hgh
      have f1 := BG.frozen (i * 2 + 1)
      have hgb := (hown2.lt g rfl).1
      have hown5 := own_set1 hown2 (i * 2 + 1) (.int .i64 (yn - 1))
      rw [runsC_set _ _ _ _ HY.out] at hown5
      dsimp only at hown5
      have hb02 := below_step hb1 hb2
      have hb12 := hb2.setCell (p := ⟨g, i * 2 + 1, none⟩) (by dsimp only; omega) (.int .i64 (yn - 1))
      have hb05 := hb02.setCell (p := ⟨g, i * 2 + 1, none⟩) (by dsimp only; have := hb1.size; omega) (.int .i64 (yn - 1))
      have p1 : (w2.setCell ⟨g, i * 2 + 1, none⟩ (.int .i64 (yn - 1))).cell? ⟨g, i * 2 + 1, none⟩ = some (.int .i64 (yn - 1)) := by
        have hB2 := BG.set_ (i * 2 + 1) (.int .i64 (yn - 1))
        have h2 := hB2.cell (i * 2 + 1)
        rw [h2]
        have h3 := BG.cell (i * 2 + 1)
        rw [d1] at h3
        have h4 := (Array.getElem?_eq_some_iff.1 h3.symm).1
        rw [Array.getElem?_setIfInBounds_self_of_lt h4]
      have w11 : IntKind.i64.wrap (yn - 1) = yn - 1 := IntWalk.i64_in _ (by omega)
      have hlen2 : (l.set i ⟨yl, yn - 1⟩).length = n := by rw [List.length_set]; exact HL.out
      by_cases h1 : yn = 1
      · have hless : lessP l i yl (countP l yl - 1) = (l.set i ⟨yl, yn - 1⟩).take i ++ (l.set i ⟨yl, yn - 1⟩).drop (i + 1) := by
          unfold lessP
          rw [HV.out, if_pos (by omega), List.take_set_of_le (Nat.le_refl _), List.drop_set_of_lt (by omega)]
        have HD := Lib.hid (delete_pin w1.heap.size (some ⟨g, 0, none⟩) n c2 i (runsC (l.set i ⟨yl, yn - 1⟩)) _ hown5 hin (by omega) (runsC_one _))
        have HLs := Lib.hid hless
        have HV1 : Hid (countP l yl - 1 = 0) := by show _ = _; rw [HV.out]; omega
        have g1 : (yn - 1 == 0) = true := by simp; omega
        have wi : IntKind.i64.wrap ((i : Int) + 1) = ((i + 1 : Nat) : Int) := by rw [IntWalk.i64_in _ (by omega)]; omega
        have HLn : Hid (((l.set i ⟨yl, yn - 1⟩).take i ++ (l.set i ⟨yl, yn - 1⟩).drop (i + 1)).length = n - 1) := by
          show _ = _
          rw [List.length_append, List.length_take, List.length_drop, hlen2]
          omega
        have hyz : yn - 1 = 0 := by omega
        have HYZ := Lib.hid hyz
        have HW : Hid (((i + 1 : Nat) : Int) = (i : Int) + 1) := by show _ = _; omega
        rw [HW.out] at HD wi
        clear hown2 hown5 hgh BG hz2 hless hyz h1
        go_wp2_with fail
        refine HD.out.mono ?_
        rintro e w6 ⟨A6, c6, rfl, hown6, hb6⟩
        have hb06 := below_step hb1 (hb12.trans hb6)
        rw [runsC_take, runsC_drop, ← runsC_append] at hown6
        have HO := Lib.hid (own_mono hown6 hb1.size)
        clear hown6
        go_wp2
        go_ret3
        refine ⟨hb06, .inl ⟨HF.out, i, HI.out, HH.out, A6, c6, ?_, ?_⟩⟩
        · rw [HLs.out, HLn.out, HV1.out]
          show _ = Ending.returned _
          rw [← HYZ.out]
          rfl
        · rw [HLs.out, HLn.out]; exact HO.out
      · have g1 : (yn - 1 == 0) = false := by simp; omega
        have hless : lessP l i yl (countP l yl - 1) = l.set i ⟨yl, yn - 1⟩ := by
          unfold lessP
          rw [HV.out, if_neg (by omega)]
        have HLs := Lib.hid hless
        have HL2 := Lib.hid hlen2
        have HO := Lib.hid (own_mono hown5 hb1.size)
        clear hown2 hown5 hgh BG hz2 hless hlen2
        go_wp2
        go_ret3
        refine ⟨hb05, .inl ⟨HF.out, i, HI.out, HH.out, some ⟨g, 0, none⟩, c2, ?_, ?_⟩⟩
        · rw [HLs.out, HL2.out, HV.out]; rfl
        · rw [HLs.out, HL2.out]; exact HO.out
  · have HN : Hid (¬ (findE l x = 0 ∧ ∃ i, PlaceOf l x i ∧ hasAt l x i = true)) := fun h => by
      have h1 := h.1
      simp [h1] at hF
    have hF2 := hF
    go_wp2
    go_ret3
    exact ⟨hb1, .inr ⟨HN.out, findE l x, hF2, by unfold dropE; rw [if_pos (by simpa using hF2)], rfl⟩⟩

theorem pdrop_any (A : Option Addr) (n c : Nat) (l : List Rn) (x : Int) (w : World) (hr : Reads w w.heap.size 2 A n (runsC l)) (hn : n ≤ 1000000000000000000) :
    Calls Try.prog 20 #[.slice A n c, .int .i64 x] w fun e w' => Below w.heap.size w w' ∧
      ((findE l x = 0 ∧ ∃ i : Nat, PlaceOf l x i ∧ hasAt l x i = true ∧ PinRes w.heap.size (lessP l i x (countP l x - 1)) (countP l x - 1) e w') ∨
       (¬ (findE l x = 0 ∧ ∃ i, PlaceOf l x i ∧ hasAt l x i = true) ∧ ∃ er : Int, (er != 0) = true ∧ e = .returned (.tuple #[.slice none 0 0, .int .i64 0, .int .i64 er]))) := by
  refine (pdrop_all A n c l x w hr hn).mono ?_
  rintro e w' ⟨hb, h | ⟨hno, er, h1, -, h2⟩⟩
  · exact ⟨hb, .inl h⟩
  · exact ⟨hb, .inr ⟨hno, er, h1, h2⟩⟩
end Go.Proofs.Ytbmkbnalembbjaa
