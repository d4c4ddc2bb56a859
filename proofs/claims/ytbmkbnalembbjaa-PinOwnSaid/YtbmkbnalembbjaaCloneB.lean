/-
  slices.Clone at []api.Pin and api.Hands, of any length that fits.
-/
import Derived.Test.YtbmkbnalembbjaaSlicesPin
import Derived.Test.YtbmkbnalembbjaaHand2
namespace Go.Proofs.Ytbmkbnalembbjaa
open Go.RowKit

set_option maxHeartbeats 400000 in
theorem clone_pinB (A : Option Addr) (n c B : Nat) (xs : List Value) (w : World) (hr : Reads w B 2 A n xs) (hB : B ≤ w.heap.size) (h1 : ∀ u ∈ xs, u.oneCell' = true) (hn : n * 16 ≤ 140737488355328) :
    Calls Try.prog 14 #[.slice A n c] w fun e w' => ∃ A' c', e = .returned (.slice A' n c') ∧ w'.ownsRow w.heap.size 47 2 (.slice A' n c') n xs ∧ Below w.heap.size w w' := by
  obtain ⟨i0, hi, hz0, hz1, hz2⟩ := info_parts info_pin
  rcases A with _ | ad
  · have hm : n = 0 := by
      rcases Nat.eq_zero_or_pos n with h0 | h0
      · exact h0
      · obtain ⟨ad, h, _⟩ := hr.2 h0
        cases h
    subst hm
    have hx : xs = [] := List.eq_nil_of_length_eq_zero (by simpa using hr.1)
    subst hx
    have hnil := fun (w : World) => Lib.run_eql_slice_nil (P := Try.prog) w 25 47 none 0 c 0 0 Try.underlying25
    go_enter Try.func14, Try.ntmps14
    go_wp2
    go_ret
    exact ⟨none, 0, rfl, World.ownsRow_nil _ _ _ _, Below.refl _ _⟩
  · have hnil := fun (w : World) => Lib.run_eql_slice_nil (P := Try.prog) w 25 47 (some ad) n c 0 0 Try.underlying25
    have hmade := World.ownsRow_made (e := 47) (size := 2) w #[] 0 (Nat.le_refl w.heap.size) (Nat.zero_le _) rfl
    go_enter Try.func14, Try.ntmps14
    go_wp2_with (at_builtin; refine wpList_append_any _ rfl (.tmp 5) (.tmp 6) 25 rfl w.heap.size 47 i0 _ 2 16 Try.underlying25 hi hz0 hz1 hz2 rfl (by decide) (.slice (some ⟨w.heap.size, 0, none⟩) 0 0) 0 [] rfl hmade B (some ad) n c xs rfl (hr.alloc hB _) h1 (by simp [maxLen]; omega) (by omega) (by simp) ?_; rintro v' w1 hown hgr hbl -; obtain ⟨A', c', rfl⟩ := own_slice hown)
    go_ret
    exact ⟨A', c', rfl, by simpa using hown, ((Below.refl _ _).alloc (Nat.le_refl _) _).grown hgr (by simp) (by simp [Value.ownBlock])⟩


set_option maxHeartbeats 400000 in
theorem clone_slotsB (A : Option Addr) (n c B : Nat) (xs : List Value) (w : World) (hr : Reads w B 3 A n xs) (hB : B ≤ w.heap.size) (h1 : ∀ u ∈ xs, u.oneCell' = true) (hn : n * 24 ≤ 140737488355328) :
    Calls Try.prog 15 #[.slice A n c] w fun e w' => ∃ A' c', e = .returned (.slice A' n c') ∧ w'.ownsRow w.heap.size 50 3 (.slice A' n c') n xs ∧ Below w.heap.size w w' := by
  obtain ⟨i0, hi, hz0, hz1, hz2⟩ := info_parts info_slot
  rcases A with _ | ad
  · have hm : n = 0 := by
      rcases Nat.eq_zero_or_pos n with h0 | h0
      · exact h0
      · obtain ⟨ad, h, _⟩ := hr.2 h0
        cases h
    subst hm
    have hx : xs = [] := List.eq_nil_of_length_eq_zero (by simpa using hr.1)
    subst hx
    have hnil := fun (w : World) => Lib.run_eql_slice_nil (P := Try.prog) w 27 50 none 0 c 0 0 Try.underlying27
    go_enter Try.func15, Try.ntmps15
    go_wp2
    go_ret
    exact ⟨none, 0, rfl, World.ownsRow_nil _ _ _ _, Below.refl _ _⟩
  · have hnil := fun (w : World) => Lib.run_eql_slice_nil (P := Try.prog) w 27 50 (some ad) n c 0 0 Try.underlying27
    have hmade := World.ownsRow_made (e := 50) (size := 3) w #[] 0 (Nat.le_refl w.heap.size) (Nat.zero_le _) rfl
    go_enter Try.func15, Try.ntmps15
    go_wp2_with (at_builtin; refine wpList_append_any _ rfl (.tmp 5) (.tmp 6) 27 rfl w.heap.size 50 i0 (.agg #[.int .i64 0, .bool false, .int .i64 0]) 3 24 Try.underlying27 hi hz0 hz1 hz2 rfl (by decide) (.slice (some ⟨w.heap.size, 0, none⟩) 0 0) 0 [] rfl hmade B (some ad) n c xs rfl (hr.alloc hB _) h1 (by simp [maxLen]; omega) (by omega) (by simp) ?_; rintro v' w1 hown hgr hbl -; obtain ⟨A', c', rfl⟩ := own_slice hown)
    go_ret
    exact ⟨A', c', rfl, by simpa using hown, ((Below.refl _ _).alloc (Nat.le_refl _) _).grown hgr (by simp) (by simp [Value.ownBlock])⟩

end Go.Proofs.Ytbmkbnalembbjaa
