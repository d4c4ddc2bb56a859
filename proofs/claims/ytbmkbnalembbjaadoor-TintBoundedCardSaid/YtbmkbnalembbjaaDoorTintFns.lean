/-
  The laws' helpers: within, begins, refsAt; tint.Words; the closed fact 'tints'.
-/
import Derived.Test.YtbmkbnalembbjaaDoorTintReach
import Derived.Test.YtbmkbnalembbjaaDoorAt
import Derived.Test.YtbmkbnalembbjaaDoorIntF
import Derived.Test.YtbmkbnalembbjaaDoorContainsInt
namespace Go.Proofs.YtbmkbnalembbjaaDoor
open Go.RowKit

theorem within_law {l all : List Int} : (l.any fun x => !decide (x ∈ all)) = !decide (∀ x ∈ l, x ∈ all) := by
  by_cases h : ∀ x ∈ l, x ∈ all
  · rw [decide_eq_true h, List.any_eq_false.2 (fun x hx => by simp [h x hx])]
    rfl
  · rw [decide_eq_false h]
    simp only [Bool.not_false, List.any_eq_true]
    obtain ⟨x, hx⟩ : ∃ x, ¬ (x ∈ l → x ∈ all) := Classical.not_forall.1 h
    have h2 := Classical.not_imp.1 hx
    exact ⟨x, h2.1, by simp [h2.2]⟩

set_option maxRecDepth 100000 in
set_option maxHeartbeats 1000000 in
theorem begins_any (A : Option Addr) (n c : Nat) (a : List Int) (w : World) (hr : Reads w w.heap.size 1 A n (a.map (.int .u64))) (ha : ∀ x ∈ a, (Lit.int .u64 x).wf = true) :
    Calls Tryd.prog 9 #[.slice A n c] w fun e w' => Below w.heap.size w w' ∧ ∃ A' c', e = .returned (.slice A' (begsL (spotsL a)).length c') ∧ w'.ownsRow w.heap.size 3 1 (.slice A' (begsL (spotsL a)).length c') (begsL (spotsL a)).length ((begsL (spotsL a)).map (.int .i64)) := by
  have H := Lib.hid (fun w hr => spots_any A n c a w hr ha)
  have hm256 := spotsL_length a
  generalize spotsL a = S at *
  generalize spotsE a = E at *
  obtain ⟨m, hm⟩ : ∃ m, m = S.length := ⟨_, rfl⟩
  rw [← hm] at H hm256
  have HM := Lib.hid hm
  obtain ⟨i0, hi, hz0, hz1, hz2⟩ := info_parts info_int
  clear hm ha
  go_enter Tryd.func9, Tryd.ntmps9
  go_wp2_with fail
  refine (H.out _ hr).mono ?_
  rintro e w1 ⟨hb1, A1, c1, rfl, hown⟩
  have hrS := Reads.of_own hown
  clear hown
  go_wp2
  go_loopw [5, 15] (fun o i wr => ∃ (j k co : Nat) (Ao : Option Addr), j ≤ m ∧ i = .int .i64 j ∧ o = .slice Ao k co ∧ k ≤ j ∧ Hid (k = (begsL (S.take j)).length) ∧ wr.ownsRow w1.heap.size 3 1 (.slice Ao k co) k ((begsL (S.take j)).map (.int .i64)) ∧ Below w1.heap.size w1 wr) (fun _ i _ => m - (intOf i).toNat)
  case atStart => exact ⟨0, 0, 0, none, Nat.zero_le _, rfl, rfl, Nat.zero_le _, rfl, World.ownsRow_nil _ _ _ _, Below.refl _ _⟩
  case round =>
    obtain ⟨j, k, co, Ao, hj, rfl, rfl, hkj, HK, HO, hb⟩ := hrel
    by_cases hlt : j < m
    · obtain ⟨ad, s, rfl, had, hs, c0, c1', c2, c3, c4⟩ := (hrS.below hb).spot hlt
      have HT : Hid (S.take (j + 1) = S.take j ++ [s]) := by
        show _ = _
        obtain ⟨h1, rfl⟩ := List.getElem?_eq_some_iff.1 hs
        exact List.take_succ_eq_append_getElem h1
      have HB := Lib.hid (begsL_snoc (S.take j) s)
      rw [← HT.out] at HB
      obtain ⟨loc, r, b, t, fr⟩ := s
      dsimp only at c0 c1' c2 c3 c4
      have hj1 : j + 1 ≤ m := hlt
      have hbx := hb.alloc hb.size (.cells #[.int .i64 loc, .int .i64 r, .int .i64 b, .int .i64 t, .bool fr] 67)
      have HOx := HO.alloc (.cells #[.int .i64 loc, .int .i64 r, .int .i64 b, .int .i64 t, .bool fr] 67)
      have hws := hb.size
      clear hs HO
      cases fr
      · have hOy := HOx.alloc (.cells #[.int .i64 loc] 3)
        have hby := hbx.alloc hbx.size (.cells #[.int .i64 loc] 3)
        have hrn := reads_new (wr.alloc (.cells #[.int .i64 loc, .int .i64 r, .int .i64 b, .int .i64 t, .bool false] 67)) [.int .i64 loc] 3 1 1 rfl
        simp only [World.size_alloc] at hrn
        clear HOx
        go_wp2_with (at_builtin; refine wpList_append_any _ rfl (.tmp 23) (.tmp 26) 23 rfl w1.heap.size 3 i0 (.int .i64 0) 1 8 Tryd.underlying23 hi hz0 hz1 hz2 rfl (by decide) (.slice Ao k co) k _ rfl hOy _ (some ⟨wr.heap.size + 1, 0, none⟩) 1 1 [.int .i64 loc] rfl hrn (by simp [Value.oneCell']) (by unfold maxLen; omega) (by omega) (by simp; omega) ?_; rintro v' w3 hown3 hgr - -; obtain ⟨A5, c5, rfl⟩ := own_slice hown3)
        go_roundw
        case rel =>
          refine ⟨j + 1, k + 1, c5, A5, hj1, by go_num, rfl, by omega, ?_, ?_, hby.grown hgr hby.size (fun g hg => by have := (hOy.lt g hg).1; omega)⟩
          · show _ = _
            rw [HB.out, if_neg (by simp), List.length_append, ← HK.out]
            rfl
          · rw [HB.out, if_neg (by simp), List.map_append]
            exact hown3
        case measure => simp [intOf]; omega
      · go_wp2
        go_roundw
        case rel =>
          refine ⟨j + 1, k, co, Ao, hj1, by go_num, rfl, by omega, ?_, ?_, hbx⟩
          · show _ = _
            rw [HB.out, if_pos rfl]
            exact HK.out
          · rw [HB.out, if_pos rfl]
            exact HOx
        case measure => simp [intOf]; omega
    · have hjm : j = m := by omega
      rw [hjm, List.take_of_length_le (by rw [HM.out]; exact Nat.le_refl _)] at HK HO
      have HO2 := Lib.hid (own_mono HO hb1.size)
      have g0 : decide (j < m) = false := decide_eq_false hlt
      clear hjm HO
      go_wp2
      go_ret
      exact ⟨below_step hb1 hb, Ao, co, by rw [← HK.out]; rfl, by rw [← HK.out]; exact HO2.out⟩

theorem spotAt_ix {a : List Int} (h0 : spotsE a = 0) {x : Int} {s : Spot} (h : spotAt (spotsL a) x = some s) : ∃ i : Nat, atIx a x = i ∧ (spotsL a)[i]? = some s := by
  obtain ⟨h1, -, rfl⟩ := spotAt_some h
  obtain ⟨i, hi⟩ := List.mem_iff_getElem?.1 h1
  refine ⟨i, ?_, hi⟩
  unfold atIx
  refine ixOf_some hi (by simp) (fun y hy => ?_)
  rw [List.mem_take_iff_getElem] at hy
  obtain ⟨j, hj, rfl⟩ := hy
  obtain ⟨q1, rfl⟩ := List.getElem?_eq_some_iff.1 hi
  have := List.pairwise_iff_getElem.1 (spots_rise h0) j i (by omega) q1 (by omega)
  simp only [beq_eq_false_iff_ne]
  omega

end Go.Proofs.YtbmkbnalembbjaaDoor
