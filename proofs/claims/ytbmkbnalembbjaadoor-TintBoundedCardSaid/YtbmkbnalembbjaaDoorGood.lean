/-
  The laws' helper 'good': all error numbers are 0.
-/
import Derived.Test.YtbmkbnalembbjaaDoorRows
import Derived.Test.YtbmkbnalembbjaaDoorBase
namespace Go.Proofs.YtbmkbnalembbjaaDoor
open Go.RowKit

theorem notzero_any (x : Int) (w : World) : Calls Tryd.prog 29 #[.int .i64 x] w fun e w' => e = .returned (.bool (x != 0)) ∧ w = w' := by
  go_enter Tryd.func29, Tryd.ntmps29
  go_wp2
  go_ret
  exact ⟨rfl, rfl⟩

set_option maxHeartbeats 400000 in
theorem indexErr_any (A : Option Addr) (n c B : Nat) (xs : List Int) (w : World) (hr : Reads w B 1 A n (xs.map (.int .i64))) (hn : n ≤ 1000000000000000000) :
    Calls Tryd.prog 38 #[.slice A n c, .func (.func 29) #[] #[]] w fun e w' =>
      (∃ i : Int, e = .returned (.int .i64 i) ∧ (decide (0 ≤ i) = !(xs.all (· == 0)))) ∧ w = w' := by
  have hxl : xs.length = n := by have := hr.1; simpa using this
  have HX := Lib.hid hxl
  clear hxl
  go_enter Tryd.func38, Tryd.ntmps38
  go_wp2
  go_loop [8] (fun i => ∃ j : Nat, j ≤ n ∧ i = .int .i64 j ∧ (xs.take j).all (· == 0) = true) (fun i => n - (intOf i).toNat)
  case atStart => exact ⟨0, Nat.zero_le _, rfl, by simp⟩
  case round =>
    obtain ⟨j, hj, rfl, ht⟩ := hrel
    have HT := Lib.hid ht
    clear ht
    by_cases hlt : j < n
    · obtain ⟨ad, u, rfl, _, hx, hc⟩ := hr.at_ hlt
      have hl : j < xs.length := by rw [HX.out]; exact hlt
      rw [List.getElem?_map, List.getElem?_eq_getElem hl] at hx
      obtain rfl : u = .int .i64 xs[j] := by simpa using hx.symm
      clear hx
      have T : Hid ((xs.take (j + 1)).all (· == 0) = (xs[j] == 0)) := by
        show _ = _
        rw [List.take_succ_eq_append_getElem hl, List.all_append, HT.out]
        simp
      have T2 : Hid (xs[j] ∈ xs) := List.getElem_mem hl
      generalize xs[j] = x at *
      by_cases he : x = 0
      · subst he
        go_wp2_with (go_at_call 29; refine (notzero_any _ _).mono ?_; rintro e w' ⟨rfl, rfl⟩)
        go_round
        case rel => exact ⟨j + 1, by omega, by go_num, by rw [T.out]; rfl⟩
        case measure => simp [intOf]; omega
      · have he2 : (x != 0) = true := by simpa using he
        have he3 : (x == 0) = false := by simpa using he
        go_wp2_with (go_at_call 29; refine (notzero_any _ _).mono ?_; rintro e w' ⟨rfl, rfl⟩)
        go_ret
        refine ⟨⟨j, rfl, ?_⟩, rfl⟩
        have : xs.all (· == 0) = false := by
          rw [List.all_eq_false]
          exact ⟨x, T2.out, by simpa using he⟩
        rw [this]
        simp
    · go_wp2
      go_ret
      refine ⟨⟨-1, rfl, ?_⟩, rfl⟩
      have hjn : j = n := by omega
      have := HT.out
      rw [hjn, List.take_of_length_le (by rw [HX.out]; omega)] at this
      rw [this]
      simp

theorem containsErr_any (A : Option Addr) (n c B : Nat) (xs : List Int) (w : World) (hr : Reads w B 1 A n (xs.map (.int .i64))) (hn : n ≤ 1000000000000000000) :
    Calls Tryd.prog 28 #[.slice A n c, .func (.func 29) #[] #[]] w fun e w' => e = .returned (.bool !(xs.all (· == 0))) ∧ w = w' := by
  have H := indexErr_any A n c B xs w hr hn
  have HH := Lib.hid H
  clear H
  generalize (!(xs.all (· == 0))) = b at *
  go_enter Tryd.func28, Tryd.ntmps28
  go_wp2_with (go_at_call 38; refine HH.out.mono ?_; rintro e w' ⟨⟨i, rfl, hi⟩, rfl⟩)
  go_ret
  exact ⟨rfl, rfl⟩

theorem good_any (A : Option Addr) (n c B : Nat) (xs : List Int) (w : World) (hr : Reads w B 1 A n (xs.map (.int .i64))) (hn : n ≤ 1000000000000000000) :
    Calls Tryd.prog 12 #[.slice A n c] w fun e w' => e = .returned (.bool (xs.all (· == 0))) ∧ w = w' := by
  have H := containsErr_any A n c B xs w hr hn
  have HH := Lib.hid H
  clear H
  generalize xs.all (· == 0) = b at *
  go_enter Tryd.func12, Tryd.ntmps12
  go_wp2_with (go_at_call 28; refine HH.out.mono ?_; rintro e w' ⟨rfl, rfl⟩)
  go_ret
  exact ⟨by simp, rfl⟩

theorem good_of (A : Option Addr) (n c B : Nat) (xs : List Int) (b : Bool) (w : World) (hb : xs.all (· == 0) = b) (hr : Reads w B 1 A n (xs.map (.int .i64))) (hn : n ≤ 1000000000000000000) :
    Calls Tryd.prog 12 #[.slice A n c] w fun e w' => e = .returned (.bool b) ∧ w = w' := by
  subst hb
  exact good_any A n c B xs w hr hn
end Go.Proofs.YtbmkbnalembbjaaDoor
