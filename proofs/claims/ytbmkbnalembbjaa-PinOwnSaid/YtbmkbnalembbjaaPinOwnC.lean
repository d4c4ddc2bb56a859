/-
  PinOwn's closure: is everything that was handed in as it was?
-/
import Derived.Test.YtbmkbnalembbjaaSlicesPin
import Derived.Test.YtbmkbnalembbjaaHand
import Derived.BigQuiet
namespace Go.Proofs.Ytbmkbnalembbjaa
open Go.RowKit

set_option maxHeartbeats 400000 in
theorem equal_slotO (A A2 : Option Addr) (n c c2 B B2 : Nat) (l : List Slot) (w : World) (hr : Reads w B 3 A n (slotsC l)) (hr2 : Reads w B2 3 A2 n (slotsC l)) (hn : n ≤ 1000000000000000000) :
    Calls Try.prog 18 #[.slice A n c, .slice A2 n c2] w fun e w' => e = .returned (.bool true) ∧ ∃ q, w' = w.drewN q := by
  go_enter Try.func18, Try.ntmps18
  go_wp2
  go_loopw [13] (fun i wr => ∃ j : Nat, j ≤ n ∧ i = .int .i64 j ∧ ∃ q, wr = w.drewN q) (fun i _ => n - (intOf i).toNat)
  case atStart => exact ⟨0, Nat.zero_le _, rfl, 0, rfl⟩
  case round =>
    obtain ⟨j, hj, rfl, q, rfl⟩ := hrel
    by_cases hlt : j < n
    · obtain ⟨ad, r, rfl, _, hs, c0, c1, cu⟩ := hr.slot hlt
      obtain ⟨ad2, r2, rfl, _, hs2, d0, d1, du⟩ := hr2.slot hlt
      obtain rfl : r = r2 := Option.some.inj (hs.symm.trans hs2)
      obtain ⟨x, y, z⟩ := r
      dsimp only at *
      have hlt' : (j : Int) < n := by omega
      clear hs hs2
      go_wp2
      go_quiet (fail)
      go_wp2
      go_roundw
      case rel => exact ⟨j + 1, by omega, by go_num, _, rfl⟩
      case measure => simp [intOf]; omega
    · go_wp2
      go_ret
      exact ⟨rfl, _, rfl⟩



set_option maxRecDepth 100000 in
set_option maxHeartbeats 1000000 in
theorem pinOwnC_any (bp bq bh bk : Nat) (A : Option Addr) (n c : Nat) (l : List Rn) (A2 : Option Addr) (c2 : Nat) (H : Option Addr) (hn hc : Nat) (sl : List Slot) (H2 : Option Addr) (hc2 : Nat) (W : World)
    (B1 : Blk W bp 25 #[.slice A n c]) (B2 : Blk W bq 25 #[.slice A2 n c2]) (B3 : Blk W bh 27 #[.slice H hn hc]) (B4 : Blk W bk 27 #[.slice H2 hn hc2])
    (r1 : Reads W W.heap.size 2 A n (runsC l)) (r2 : Reads W W.heap.size 2 A2 n (runsC l)) (r3 : Reads W W.heap.size 3 H hn (slotsC sl)) (r4 : Reads W W.heap.size 3 H2 hn (slotsC sl)) (h1 : n ≤ 1000000000000000000) (h2 : hn ≤ 1000000000000000000) :
    Calls Try.prog 16 #[.pointer (some ⟨bp, 0, none⟩), .pointer (some ⟨bq, 0, none⟩), .pointer (some ⟨bh, 0, none⟩), .pointer (some ⟨bk, 0, none⟩)] W fun e w' => e = .returned (.bool true) ∧ Below W.heap.size W w' := by
  have E1 := Lib.hid (equal_pin A A2 n c c2 _ _ l W r1 r2 h1)
  have E2 := Lib.hid (fun q => equal_slotO H H2 hn hc hc2 _ _ sl (W.drewN q) (r3.drewN q) (r4.drewN q) h2)
  have q1 := B1.cell 0
  have q2 := B2.cell 0
  have q3 := B3.cell 0
  have q4 := B4.cell 0
  simp only [List.getElem?_toArray, List.getElem?_cons_zero] at q1 q2 q3 q4
  clear B1 B2 B3 B4 r1 r2 r3 r4
  go_enter Try.func16, Try.ntmps16
  go_wp2_with (first
    | (go_at_call 17; (with_reducible refine E1.out.mono ?_); rintro e w' ⟨rfl, q, rfl⟩)
    | (go_at_call 18; (with_reducible refine (E2.out _).mono ?_); rintro e w' ⟨rfl, q, rfl⟩))
  go_ret
  exact ⟨by first | rfl | simp, below_drewN (Below.refl _ _) _⟩
end Go.Proofs.Ytbmkbnalembbjaa
