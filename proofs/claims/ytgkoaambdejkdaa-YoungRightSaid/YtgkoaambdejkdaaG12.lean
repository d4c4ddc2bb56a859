/-
  Texts joined: Good Slices.
-/
import Derived.Test.YtgkoaambdejkdaaRows
import Derived.Test.YtgkoaambdejkdaaG0
import Derived.Test.YtgkoaambdejkdaaG1
namespace Go.Proofs.Ytgkoaambdejkdaa
open Go.RowKit
theorem notzero_any (x : Int) (w : World) : Calls Try.prog 56 #[.int .i64 x] w fun e w' => e = .returned (.bool (x != 0)) ∧ w = w' := by
  go_enter Try.func56, Try.ntmps56
  go_wp2
  go_ret
  exact ⟨rfl, rfl⟩
set_option maxHeartbeats 400000 in
theorem indexErr_any (A : Option Addr) (n c B : Nat) (xs : List Int) (w : World) (hr : Reads w B 1 A n (xs.map (.int .i64))) (hn : n ≤ 1000000000000000000) :
    Calls Try.prog 81 #[.slice A n c, .func (.func 56) #[] #[]] w fun e w' =>
      (∃ i : Int, e = .returned (.int .i64 i) ∧ (decide (0 ≤ i) = !(xs.all (· == 0)))) ∧ w = w' := by
  have hxl : xs.length = n := by have := hr.1; simpa using this
  have HX := Lib.hid hxl
  clear hxl
  go_enter Try.func81, Try.ntmps81
  go_wp2
  go_loop [8] (fun i => ∃ j : Nat, j ≤ n ∧ i = .int .i64 j ∧ (xs.take j).all (· == 0) = true) (fun i => n - (intOf i).toNat)
  case atStart => exact ⟨0, Nat.zero_le _, rfl, by simp⟩
  case round =>
    obtain ⟨j, hj, rfl, ht⟩ := hrel
    have HT := Lib.hid ht
    clear ht
    by_cases hlt : j < n
    · obtain ⟨ad, u, rfl, _, hx, hc⟩ := hr.at_ hlt
      have hl : j < xs.length := by rw [HX.out]; exact hlt
      rw [List.getElem?_map, List.getElem?_eq_getElem hl] at hx
      obtain rfl : u = .int .i64 xs[j] := by simpa using hx.symm
      clear hx
      have T : Hid ((xs.take (j + 1)).all (· == 0) = (xs[j] == 0)) := by
        show _ = _
        rw [List.take_succ_eq_append_getElem hl, List.all_append, HT.out]
        simp
      have T2 : Hid (xs[j] ∈ xs) := List.getElem_mem hl
      generalize xs[j] = x at *
      by_cases he : x = 0
      · subst he
        go_wp2_with (go_at_call 56; refine (notzero_any _ _).mono ?_; rintro e w' ⟨rfl, rfl⟩)
        go_round
        case rel => exact ⟨j + 1, by omega, by go_num, by rw [T.out]; rfl⟩
        case measure => simp [intOf]; omega
      · have he2 : (x != 0) = true := by simpa using he
        have he3 : (x == 0) = false := by simpa using he
        go_wp2_with (go_at_call 56; refine (notzero_any _ _).mono ?_; rintro e w' ⟨rfl, rfl⟩)
        go_ret
        refine ⟨⟨j, rfl, ?_⟩, rfl⟩
        have : xs.all (· == 0) = false := by
          rw [List.all_eq_false]
          exact ⟨x, T2.out, by simpa using he⟩
        rw [this]
        simp
    · go_wp2
      go_ret
      refine ⟨⟨-1, rfl, ?_⟩, rfl⟩
      have hjn : j = n := by omega
      have := HT.out
      rw [hjn, List.take_of_length_le (by rw [HX.out]; omega)] at this
      rw [this]
      simp
theorem containsErr_any (A : Option Addr) (n c B : Nat) (xs : List Int) (w : World) (hr : Reads w B 1 A n (xs.map (.int .i64))) (hn : n ≤ 1000000000000000000) :
    Calls Try.prog 55 #[.slice A n c, .func (.func 56) #[] #[]] w fun e w' => e = .returned (.bool !(xs.all (· == 0))) ∧ w = w' := by
  have H := indexErr_any A n c B xs w hr hn
  have HH := Lib.hid H
  clear H
  generalize (!(xs.all (· == 0))) = b at *
  go_enter Try.func55, Try.ntmps55
  go_wp2_with (go_at_call 81; refine HH.out.mono ?_; rintro e w' ⟨⟨i, rfl, hi⟩, rfl⟩)
  go_ret
  exact ⟨rfl, rfl⟩
theorem good_any (A : Option Addr) (n c B : Nat) (xs : List Int) (w : World) (hr : Reads w B 1 A n (xs.map (.int .i64))) (hn : n ≤ 1000000000000000000) :
    Calls Try.prog 18 #[.slice A n c] w fun e w' => e = .returned (.bool (xs.all (· == 0))) ∧ w = w' := by
  have H := containsErr_any A n c B xs w hr hn
  have HH := Lib.hid H
  clear H
  generalize xs.all (· == 0) = b at *
  go_enter Try.func18, Try.ntmps18
  go_wp2_with (go_at_call 55; refine HH.out.mono ?_; rintro e w' ⟨rfl, rfl⟩)
  go_ret
  exact ⟨by simp, rfl⟩
theorem good_of (A : Option Addr) (n c B : Nat) (xs : List Int) (b : Bool) (w : World) (hb : xs.all (· == 0) = b) (hr : Reads w B 1 A n (xs.map (.int .i64))) (hn : n ≤ 1000000000000000000) :
    Calls Try.prog 18 #[.slice A n c] w fun e w' => e = .returned (.bool b) ∧ w = w' := by
  subst hb
  exact good_any A n c B xs w hr hn
end Go.Proofs.Ytgkoaambdejkdaa

namespace Go.Proofs.Ytgkoaambdejkdaa
open Go.RowKit
set_option maxHeartbeats 400000 in
theorem equal_u64 (A A2 : Option Addr) (n c m c2 B B2 : Nat) (xs ys : List Int) (w : World) (hr : Reads w B 1 A n (xs.map (.int .u64))) (hr2 : Reads w B2 1 A2 m (ys.map (.int .u64))) (hn : n ≤ 1000000000000000000) (hm : m ≤ 1000000000000000000) :
    Calls Try.prog 19 #[.slice A n c, .slice A2 m c2] w fun e w' => e = .returned (.bool (decide (xs = ys))) ∧ ∃ q, w' = w.drewN q := by
  have hxl : xs.length = n := by have := hr.1; simpa using this
  have hyl : ys.length = m := by have := hr2.1; simpa using this
  have HX := Lib.hid hxl
  have HY := Lib.hid hyl
  clear hxl hyl
  by_cases hnm : n = m
  · subst hnm
    go_enter Try.func19, Try.ntmps19
    go_wp2
    go_loopw [13] (fun i wr => ∃ j : Nat, j ≤ n ∧ i = .int .i64 j ∧ xs.take j = ys.take j ∧ ∃ q, wr = w.drewN q) (fun i _ => n - (intOf i).toNat)
    case atStart => exact ⟨0, Nat.zero_le _, rfl, by simp, 0, rfl⟩
    case round =>
      obtain ⟨j, hj, rfl, ht, q, rfl⟩ := hrel
      have HT := Lib.hid ht
      clear ht
      by_cases hlt : j < n
      · obtain ⟨ad, u, rfl, _, hx, hc⟩ := hr.at_ hlt
        obtain ⟨ad2, u2, rfl, _, hx2, hc2⟩ := hr2.at_ hlt
        have hl : j < xs.length := by rw [HX.out]; exact hlt
        have hl2 : j < ys.length := by rw [HY.out]; exact hlt
        rw [List.getElem?_map, List.getElem?_eq_getElem hl] at hx
        rw [List.getElem?_map, List.getElem?_eq_getElem hl2] at hx2
        obtain rfl : u = .int .u64 xs[j] := by simpa using hx.symm
        obtain rfl : u2 = .int .u64 ys[j] := by simpa using hx2.symm
        clear hx hx2
        have T : Hid (xs.take (j + 1) = ys.take (j + 1) ↔ xs[j] = ys[j]) := by
          show _ ↔ _
          rw [List.take_succ_eq_append_getElem hl, List.take_succ_eq_append_getElem hl2, HT.out]
          constructor
          · intro h
            have := List.append_cancel_left h
            simpa using this
          · intro h; rw [h]
        have hlt' : (j : Int) < n := by omega
        generalize hgx : xs[j] = x at *
        generalize hgy : ys[j] = y at *
        have HGX := Lib.hid hgx
        have HGY := Lib.hid hgy
        clear hgx hgy
        by_cases he : x = y
        · subst he
          go_wp2
          go_quiet (fail)
          go_wp2
          go_roundw
          case rel => exact ⟨j + 1, by omega, by go_num, T.out.2 (by simp), _, rfl⟩
          case measure => simp [intOf]; omega
        · have he2 : (x == y) = false := by simpa using he
          have he3 : (x != y) = true := by simpa using he
          go_wp2
          go_quiet (fail)
          go_wp2
          go_ret
          refine ⟨?_, _, drewN_add _ _ _⟩
          have : ¬ xs = ys := by
            intro h
            apply he
            rw [← HGX.out, ← HGY.out]
            subst h
            rfl
          rw [decide_eq_false this]
          rfl
      · go_wp2
        go_ret
        have hjn : j = n := by omega
        subst hjn
        exact ⟨by rw [decide_eq_true (eq_of_takes _ _ _ HX.out HY.out HT.out)]; rfl, _, rfl⟩
  · have hne : ¬ xs = ys := by
      intro h
      subst h
      exact hnm (HX.out.symm.trans HY.out)
    have e1 : ((n : Int) == (m : Int)) = false := by simp; omega
    have e2 : ((n : Int) != (m : Int)) = true := by simp; omega
    have e3 : (n == m) = false := by simpa using hnm
    have e4 : (n != m) = true := by simpa using hnm
    go_enter Try.func19, Try.ntmps19
    go_wp2
    go_ret
    exact ⟨by rw [decide_eq_false hne]; rfl, 0, rfl⟩
end Go.Proofs.Ytgkoaambdejkdaa
