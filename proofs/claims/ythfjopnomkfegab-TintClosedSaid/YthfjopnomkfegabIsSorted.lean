/-
  slices.IsSorted at []int, of a sorted slice.
-/
import Derived.Test.YthfjopnomkfegabRows
import Derived.Test.YthfjopnomkfegabBase
import Derived.Test.YthfjopnomkfegabBase2
import Derived.BigQuiet
import Derived.IntWalk
namespace Go.Proofs.Ythfjopnomkfegab
open Go.RowKit

set_option maxHeartbeats 400000 in
theorem isNaN_int (x : Int) (w : World) : Calls Try.prog 62 #[.int .i64 x] w fun e w' => e = .returned (.bool false) ∧ w' = w := by
  go_enter Try.func62, Try.ntmps62
  go_wp2
  go_ret
  exact ⟨by simp, rfl⟩

set_option maxHeartbeats 400000 in
theorem less_int (x y : Int) (w : World) : Calls Try.prog 45 #[.int .i64 x, .int .i64 y] w fun e w' => e = .returned (.bool (decide (x < y))) ∧ w' = w := by
  go_enter Try.func45, Try.ntmps45
  go_wp2_with (go_at_call 62; refine (isNaN_int _ _).mono ?_; rintro e w' ⟨rfl, rfl⟩)
  go_ret
  exact ⟨rfl, rfl⟩

set_option maxHeartbeats 400000 in
theorem isSorted_int (A : Option Addr) (n c B : Nat) (l : List Int) (w : World) (hr : Reads w B 1 A n (l.map (.int .i64))) (hn : n ≤ 1000000) (hs : l.Pairwise (fun x y => x ≤ y)) :
    Calls Try.prog 22 #[.slice A n c] w fun e w' => e = .returned (.bool true) ∧ ∃ q, w' = w.drewN q := by
  have hll : l.length = n := by have := hr.1; simpa using this
  have HS : Hid (∀ (j : Nat) (x y : Int), l[j]? = some x → l[j + 1]? = some y → decide (y < x) = false) := by
    intro j x y hx hy
    obtain ⟨h1, rfl⟩ := List.getElem?_eq_some_iff.1 hx
    obtain ⟨h2, rfl⟩ := List.getElem?_eq_some_iff.1 hy
    have := List.pairwise_iff_getElem.1 hs j (j + 1) h1 h2 (by omega)
    exact decide_eq_false (by omega)
  have HL := Lib.hid hll
  clear hs hll
  rcases Nat.eq_zero_or_pos n with hz | hz
  · subst hz
    go_enter Try.func22, Try.ntmps22
    go_wp2
    go_loopw [3] (fun i wr => i = .int .i64 (-1) ∧ wr = w) (fun _ _ => 0)
    case atStart => exact ⟨by first | rfl | simp, rfl⟩
    case round =>
      obtain ⟨rfl, rfl⟩ := hrel
      go_wp2
      go_ret
      exact ⟨rfl, 0, rfl⟩
  · obtain ⟨m, rfl⟩ : ∃ m, n = m + 1 := ⟨n - 1, by omega⟩
    have w1 : IntKind.i64.wrap (((m + 1 : Nat) : Int) - 1) = m := by rw [IntWalk.i64_in _ (by omega)]; omega
    go_enter Try.func22, Try.ntmps22
    go_wp2
    go_loopw [3] (fun i wr => ∃ j : Nat, j ≤ m ∧ i = .int .i64 j ∧ ∃ q, wr = w.drewN q) (fun i _ => (intOf i).toNat)
    case atStart => exact ⟨m, Nat.le_refl _, by first | rfl | go_num, 0, rfl⟩
    case round =>
      obtain ⟨j, hj, rfl, q, rfl⟩ := hrel
      by_cases hz : j = 0
      · subst hz
        go_wp2
        go_ret
        exact ⟨rfl, _, rfl⟩
      · obtain ⟨p, hp⟩ : ∃ p, p + 1 = j := ⟨j - 1, by omega⟩
        obtain ⟨ad, y, rfl, had, hy, cy⟩ := hr.num (k := j) (by omega)
        obtain ⟨ad2, x, e2, had2, hx, cx⟩ := hr.num (k := p) (by omega)
        obtain rfl : ad = ad2 := by injection e2
        have hlt := HS.out p x y hx (by rw [hp]; exact hy)
        have w2 : IntKind.i64.wrap ((j : Int) - 1) = p := by rw [IntWalk.i64_in _ (by omega)]; omega
        have hjn : j < m + 1 := by omega
        have hpn : p < m + 1 := by omega
        have hpm : p ≤ m := by omega
        have hpj : p < j := by omega
        have hj0 : 0 < j := by omega
        have HLS := fun w => less_int y x w
        rw [hlt] at HLS
        have HLS := Lib.hid HLS
        clear hx hy e2 w1 hp hlt
        go_wp2
        go_quiet ((go_at_call 45; refine (HLS.out _).mono ?_; rintro e w' ⟨rfl, rfl⟩; exact ⟨rfl, _, rfl⟩))
        go_wp2
        go_roundw
        case rel => exact ⟨p, hpm, rfl, _, rfl⟩
        case measure => simp [intOf]; omega
end Go.Proofs.Ythfjopnomkfegab
