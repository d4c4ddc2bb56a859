/-
  slices.Index and slices.Contains at []int.
-/
import Derived.Test.YtbmkbnalembbjaaDoorRows
import Derived.Test.YtbmkbnalembbjaaDoorBase
import Derived.Test.YtbmkbnalembbjaaDoorBase2
namespace Go.Proofs.YtbmkbnalembbjaaDoor
open Go.RowKit

set_option maxHeartbeats 400000 in
theorem index_int (A : Option Addr) (n c B : Nat) (xs : List Int) (v : Int) (w : World) (hr : Reads w B 1 A n (xs.map (.int .i64))) (hn : n ≤ 1000000000000000000) :
    Calls Tryd.prog 27 #[.slice A n c, .int .i64 v] w fun e w' => e = .returned (.int .i64 (ixOf (fun x => v == x) xs)) ∧ w = w' := by
  have hxl : xs.length = n := by have := hr.1; simpa using this
  have HX := Lib.hid hxl
  clear hxl
  go_enter Tryd.func27, Tryd.ntmps27
  go_wp2
  go_loop [8] (fun i => ∃ j : Nat, j ≤ n ∧ i = .int .i64 j ∧ ∀ x ∈ xs.take j, (v == x) = false) (fun i => n - (intOf i).toNat)
  case atStart => exact ⟨0, Nat.zero_le _, rfl, by simp⟩
  case round =>
    obtain ⟨j, hj, rfl, ht⟩ := hrel
    have HT := Lib.hid ht
    clear ht
    by_cases hlt : j < n
    · obtain ⟨ad, x, rfl, _, hx, hc⟩ := hr.num hlt
      have HS := Lib.hid hx
      clear hx
      cases he : (v == x)
      · have HE := Lib.hid he
        go_wp2
        go_round
        case rel => exact ⟨j + 1, by omega, by go_num, fun y hy => by
          rcases take_succ_mem HS.out y hy with h | rfl
          · exact HT.out y h
          · exact HE.out⟩
        case measure => simp [intOf]; omega
      · have HE := Lib.hid he
        go_wp2
        go_ret
        exact ⟨ret_int (ixOf_some HS.out HE.out HT.out).symm, rfl⟩
    · go_wp2
      go_ret
      exact ⟨ret_int (ixOf_none (by have := HT.out; rwa [List.take_of_length_le (by rw [HX.out]; omega)] at this)).symm, rfl⟩

theorem contains_int (A : Option Addr) (n c B : Nat) (xs : List Int) (v : Int) (b : Bool) (w : World) (hr : Reads w B 1 A n (xs.map (.int .i64))) (hn : n ≤ 1000000000000000000) (hb : decide (v ∈ xs) = b) :
    Calls Tryd.prog 11 #[.slice A n c, .int .i64 v] w fun e w' => e = .returned (.bool b) ∧ w = w' := by
  have H := index_int A n c B xs v w hr hn
  have hq := ixOf_nonneg (fun x => v == x) xs
  rw [any_eq_mem, hb] at hq
  generalize ixOf (fun x => v == x) xs = i at *
  have HH := Lib.hid H
  have HQ := Lib.hid hq
  clear H hq hb
  go_enter Tryd.func11, Tryd.ntmps11
  go_wp2_with (go_at_call 27; refine HH.out.mono ?_; rintro e w' ⟨rfl, rfl⟩)
  go_ret
  exact ⟨by rw [← HQ.out]; rfl, rfl⟩
end Go.Proofs.YtbmkbnalembbjaaDoor
