/-
  slices.DeleteFunc with 'negative', slices.Compact at []int, by the kit's shelf; and what they leave.
-/
import Derived.Test.YthfjopnomkfegaaSortInt
import Derived.Shelf.SlicesE.DeleteFunc
import Derived.Ground.SlgfProg
import Derived.Shelf.SlicesG.CompactI
import Derived.Ground.SlgnProg
namespace Go.Proofs
open Go.RowKit Go.Sort Go.Shelf

shelf_lay_g SlLaysH.n10 Slgf 10 at Try 45 as Try.deleteI
shelf_lay_g SlLaysN.n43 Slgn 43 at Try 49 as Try.compactI

end Go.Proofs
namespace Go.Proofs.Ythfjopnomkfegaa
open Go.RowKit Go.Sort

theorem compact_sublist (l : List Int) : List.Sublist (Lib.compact l) l := by
  have h1 : List.Sublist (((List.range l.length).filter (Lib.keeps l.toArray)).map (l.toArray[·]!)) ((List.range l.length).map (l.toArray[·]!)) := List.Sublist.map _ List.filter_sublist
  have h2 := Lib.range_map_get l.toArray
  simp only [List.size_toArray] at h2
  rw [h2] at h1
  exact h1
theorem compact_mem {l : List Int} {x : Int} : x ∈ Lib.compact l ↔ x ∈ l := by
  refine ⟨fun h => (compact_sublist l).subset h, fun h => ?_⟩
  obtain ⟨j, hj, rfl⟩ := List.getElem_of_mem h
  clear h
  induction j with
  | zero =>
    refine List.mem_map.2 ⟨0, List.mem_filter.2 ⟨by simpa using hj, by simp [Lib.keeps]⟩, by simp [hj]⟩
  | succ j ih =>
    by_cases hk : Lib.keeps l.toArray (j + 1) = true
    · exact List.mem_map.2 ⟨j + 1, List.mem_filter.2 ⟨by simpa using hj, hk⟩, by simp [hj]⟩
    · have h1 := ih (by omega)
      have h2 : l[j + 1] = l[j] := by
        simp only [Lib.keeps, decide_eq_true_eq, not_or, ne_eq, Decidable.not_not] at hk
        have := hk.2
        simpa [hj, show j < l.length by omega] using this
      rw [h2]
      exact h1

set_option maxHeartbeats 400000 in
theorem negative_any (x : Int) (w : World) : Calls Try.prog 47 #[.int .i64 x] w fun e w' => e = .returned (.bool (decide (x < 0))) ∧ w' = w := by
  go_enter Try.func47, Try.ntmps47
  go_wp2
  go_ret
  exact ⟨rfl, rfl⟩

set_option maxHeartbeats 400000 in
theorem index_nil (F : Nat) (c : Nat) (w : World) : Calls Try.prog 51 #[.slice none 0 c, .func (.func F) #[] #[]] w fun e w' => e = .returned (.int .i64 (-1)) ∧ w' = w := by
  go_enter Try.func51, Try.ntmps51
  go_wp2
  go_loopw [8] (fun i wr => i = .int .i64 0 ∧ wr = w) (fun _ _ => 0)
  case atStart => exact ⟨rfl, rfl⟩
  case round =>
    obtain ⟨rfl, rfl⟩ := hrel
    go_wp2
    go_ret
    exact ⟨rfl, rfl⟩
set_option maxHeartbeats 400000 in
theorem delete_nil (c : Nat) (w : World) : Calls Try.prog 45 #[.slice none 0 c, .func (.func 47) #[] #[]] w fun e w' => e = .returned (.slice none 0 c) ∧ w' = w := by
  go_enter Try.func45, Try.ntmps45
  go_wp2_with (go_at_call 51; refine (index_nil _ _ _).mono ?_; rintro e w' ⟨rfl, rfl⟩)
  go_ret
  exact ⟨rfl, rfl⟩

theorem delete_neg (base : Nat) (A : Option Addr) (n c : Nat) (xs : List Int) (w : World) (hown : w.ownsRow base 3 1 (.slice A n c) n (xs.map (.int .i64))) (hn : n ≤ 1000000) :
    Calls Try.prog 45 #[.slice A n c, .func (.func 47) #[] #[]] w fun e w' => e = .returned (.slice A (xs.filter fun x => !decide (x < 0)).length c) ∧
      w'.ownsRow base 3 1 (.slice A (xs.filter fun x => !decide (x < 0)).length c) (xs.filter fun x => !decide (x < 0)).length ((xs.filter fun x => !decide (x < 0)).map (.int .i64)) ∧ w.grownBy w' (Value.slice A n c).ownBlock := by
  by_cases hnil : Value.slice A n c = .slice none 0 0
  · injection hnil with h1 h2 h3
    subst h1 h2 h3
    have hx : xs = [] := List.eq_nil_of_length_eq_zero (by have := hown.1; simpa using this)
    subst hx
    refine Calls.mono (delete_nil 0 w) ?_
    rintro e w' ⟨rfl, rfl⟩
    exact ⟨rfl, hown, ⟨rfl, rfl, rfl, Nat.le_refl _, fun _ _ _ => rfl⟩⟩
  · obtain ⟨g, cap, hv, hb, hg, h1, h2, h3, hH⟩ := Lib.holds_of_ownsRow hown hnil
    injection hv with e1 _ e3
    subst e1 e3
    have H := AnyE.slices_DeleteFunc Try.deleteI (Value.int .i64) (fun _ => rfl) (fun x => decide (x < 0)) 47 #[] (enters_of Try.func47 (by kernel_rfl) rfl) 0 Try.zeroValue3 g 0 c xs.toArray w
      (fun W x hb => by
        refine Calls.mono (negative_any x W) ?_
        rintro e w' ⟨rfl, rfl⟩
        exact ⟨rfl, 0, rfl⟩)
      (fun q os dk x hs => by
        refine Calls.mono (negative_any x _) ?_
        rintro e w' ⟨rfl, rfl⟩
        exact ⟨rfl, 0, rfl⟩) hH (by simp; omega) (by simp; omega)
    simp only [List.size_toArray] at H
    rw [h3] at H
    have hfl := List.length_filter_le (fun x => !decide (x < 0)) xs
    generalize (xs.filter fun x => !decide (x < 0)) = ys at *
    refine Calls.mono H ?_
    rintro e w' ⟨rfl, q, rfl⟩
    have := Lib.ownsRow_putRow (q := q) (k := ys.length) hown (ys := ys ++ List.replicate (n - ys.length) 0) (by simp; omega) (by omega)
    rw [List.take_append_of_le_length (Nat.le_refl _), List.take_length] at this
    exact ⟨rfl, this, grownBy_sortedI (os := #[]) _⟩

theorem compact_int (base : Nat) (A : Option Addr) (n c : Nat) (xs : List Int) (w : World) (hown : w.ownsRow base 3 1 (.slice A n c) n (xs.map (.int .i64))) (hn : n ≤ 1000000) :
    Calls Try.prog 49 #[.slice A n c] w fun e w' => e = .returned (.slice A (Lib.compact xs).length c) ∧
      w'.ownsRow base 3 1 (.slice A (Lib.compact xs).length c) (Lib.compact xs).length ((Lib.compact xs).map (.int .i64)) ∧ w.grownBy w' (Value.slice A n c).ownBlock := by
  by_cases hnil : Value.slice A n c = .slice none 0 0
  · injection hnil with h1 h2 h3
    subst h1 h2 h3
    have hx : xs = [] := List.eq_nil_of_length_eq_zero (by have := hown.1; simpa using this)
    subst hx
    refine Calls.mono (AnyG.slices_Compact_int_empty Try.compactI none 0 w) ?_
    rintro e w' ⟨rfl, rfl⟩
    exact ⟨rfl, hown, ⟨rfl, rfl, rfl, Nat.le_refl _, fun _ _ _ => rfl⟩⟩
  · obtain ⟨g, cap, hv, hb, hg, h1, h2, h3, hH⟩ := Lib.holds_of_ownsRow hown hnil
    injection hv with e1 _ e3
    subst e1 e3
    have H := AnyG.slices_Compact_int Try.compactI g 0 c xs w hH (by omega) (by omega)
    rw [h3] at H
    have hfl := (compact_sublist xs).length_le
    generalize Lib.compact xs = ys at *
    refine Calls.mono H ?_
    rintro e w' ⟨rfl, q, rfl⟩
    have := Lib.ownsRow_putRow (q := q) (k := ys.length) hown (ys := ys ++ List.replicate (n - ys.length) 0) (by simp; omega) (by omega)
    rw [List.take_append_of_le_length (Nat.le_refl _), List.take_length] at this
    exact ⟨rfl, this, grownBy_sortedI (os := #[]) _⟩
end Go.Proofs.Ythfjopnomkfegaa
