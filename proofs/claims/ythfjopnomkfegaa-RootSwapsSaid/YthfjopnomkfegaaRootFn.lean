/-
  package root: within, Check, Named, Set.
-/
import Derived.Test.YthfjopnomkfegaaRootLib
import Derived.Test.YthfjopnomkfegaaIntF
import Derived.Test.YthfjopnomkfegaaCloneInt
import Derived.IntWalk
namespace Go.Proofs.Ythfjopnomkfegaa
open Go.RowKit

def inR (v n : Int) : Bool := decide (-1 ≤ v) && decide (v < n)
def rootE (r : List Int) (n : Int) : Int := if n < 0 ∨ 256 < n then 4 else if 32 < r.length then 2 else if r.any (fun v => !inR v n) = true then 4 else 0
theorem rootE_ok {r : List Int} {n : Int} (h : rootE r n = 0) : 0 ≤ n ∧ n ≤ 256 ∧ r.length ≤ 32 ∧ ∀ v ∈ r, -1 ≤ v ∧ v < n := by
  unfold rootE at h
  split at h
  · cases h
  · split at h
    · cases h
    · split at h
      · cases h
      · rename_i h1 h2 h3
        refine ⟨by omega, by omega, by omega, fun v hv => ?_⟩
        have h4 : ¬ (!inR v n) = true := fun h5 => h3 (List.any_eq_true.2 ⟨v, hv, h5⟩)
        simp only [inR, Bool.not_eq_true', Bool.not_eq_false, Bool.and_eq_true, decide_eq_true_eq] at h4
        exact h4
theorem rootE_of {r : List Int} {n : Int} (h0 : 0 ≤ n) (h1 : n ≤ 256) (h2 : r.length ≤ 32) (h3 : ∀ v ∈ r, -1 ≤ v ∧ v < n) : rootE r n = 0 := by
  unfold rootE
  rw [if_neg (by omega), if_neg (by omega), if_neg]
  intro h
  obtain ⟨v, hv, h4⟩ := List.any_eq_true.1 h
  have := h3 v hv
  simp only [inR, Bool.not_eq_true', Bool.and_eq_false_iff, decide_eq_false_iff_not] at h4
  omega

set_option maxHeartbeats 400000 in
theorem within_any (v n : Int) (w : World) : Calls Try.prog 53 #[.int .i64 v, .int .i64 n] w fun e w' => e = .returned (.bool (inR v n)) ∧ w' = w := by
  unfold inR
  by_cases h : -1 ≤ v
  · rw [decide_eq_true h, Bool.true_and]
    have h1 : decide (-1 ≤ v) = true := decide_eq_true h
    go_enter Try.func53, Try.ntmps53
    go_wp2
    go_ret
    exact ⟨rfl, rfl⟩
  · rw [decide_eq_false h, Bool.false_and]
    have h1 : decide (-1 ≤ v) = false := decide_eq_false h
    go_enter Try.func53, Try.ntmps53
    go_wp2
    go_ret
    exact ⟨rfl, rfl⟩

set_option maxHeartbeats 400000 in
theorem rootOut_any (v n : Int) (g : Nat) (w : World) (hc : w.cell? ⟨g, 0, none⟩ = some (.int .i64 n)) :
    Calls Try.prog 83 #[.int .i64 v, .pointer (some ⟨g, 0, none⟩)] w fun e w' => e = .returned (.bool (!inR v n)) ∧ Below w.heap.size w w' := by
  have H := Lib.hid (fun w => within_any v n w)
  generalize inR v n = b at *
  go_enter Try.func83, Try.ntmps83
  go_wp2_with (go_at_call 53; refine (H.out _).mono ?_; rintro e w' ⟨rfl, rfl⟩)
  go_ret
  exact ⟨rfl, Below.refl _ _⟩

set_option maxRecDepth 100000 in
set_option maxHeartbeats 1000000 in
theorem rootCheck_any (A : Option Addr) (n c : Nat) (r : List Int) (N : Int) (w : World) (hr : Reads w w.heap.size 1 A n (r.map (.int .i64))) (hn : n ≤ 9223372036854775807) :
    Calls Try.prog 44 #[.slice A n c, .int .i64 N] w fun e w' => e = .returned (.int .i64 (rootE r N)) ∧ Below w.heap.size w w' := by
  have hrl : r.length = n := by have := hr.1; simpa using this
  have hb0 := below_new w (.cells #[.int .i64 N] 3)
  have B0 := Blk.new w 3 #[.int .i64 N]
  unfold rootE
  rw [hrl]
  by_cases h1 : N < 0
  · rw [if_pos (.inl h1)]
    have g1 : decide (N < 0) = true := decide_eq_true h1
    go_enter Try.func44, Try.ntmps44
    go_wp2
    go_ret
    exact ⟨rfl, hb0⟩
  · have g1 : decide (N < 0) = false := decide_eq_false h1
    obtain ⟨K, rfl⟩ : ∃ K : Nat, N = K := ⟨N.toNat, by omega⟩
    by_cases h2 : 256 < K
    · rw [if_pos (.inr (by omega))]
      have g2 : decide (256 < K) = true := decide_eq_true h2
      go_enter Try.func44, Try.ntmps44
      go_wp2
      go_ret
      exact ⟨rfl, hb0⟩
    · rw [if_neg (by omega)]
      have g2 : decide (256 < K) = false := decide_eq_false h2
      by_cases h3 : 32 < n
      · rw [if_pos h3]
        have g3 : decide (32 < n) = true := decide_eq_true h3
        go_enter Try.func44, Try.ntmps44
        go_wp2
        go_ret
        exact ⟨rfl, hb0⟩
      · rw [if_neg h3]
        have g3 : decide (32 < n) = false := decide_eq_false h3
        have HC := containsIntF_any 83 (.pointer (some ⟨w.heap.size, 0, none⟩)) A n c _ r (fun v => !inR v K) _ (hr.below hb0) hb0.size (by omega) (plain_of (fn := Try.f83) Try.func83 (by kernel_rfl) (by kernel_rfl)) (fun w' x hb' _ =>
          rootOut_any x K w.heap.size w' ((B0.below hb' B0.lt).cell 0))
        generalize r.any (fun v => !inR v K) = b at *
        have HC := Lib.hid HC
        clear hrl hr
        cases b
        · rw [if_neg (by decide)]
          go_enter Try.func44, Try.ntmps44
          go_wp2_with fail
          refine HC.out.mono ?_
          rintro e w1 ⟨rfl, hb1⟩
          go_wp2
          go_ret
          exact ⟨rfl, below_step hb0 hb1⟩
        · rw [if_pos rfl]
          go_enter Try.func44, Try.ntmps44
          go_wp2_with fail
          refine HC.out.mono ?_
          rintro e w1 ⟨rfl, hb1⟩
          go_wp2
          go_ret
          exact ⟨rfl, below_step hb0 hb1⟩

def namedL (r : List Int) : List Int := Lib.compact (sortL (r.filter fun x => !decide (x < 0)))
theorem namedL_mem {r : List Int} {x : Int} : x ∈ namedL r ↔ x ∈ r ∧ 0 ≤ x := by
  unfold namedL
  rw [compact_mem, sortL_mem, List.mem_filter]
  simp only [Bool.not_eq_true', decide_eq_false_iff_not, Int.not_lt]
theorem namedL_sorted (r : List Int) : (namedL r).Pairwise (fun x y => x ≤ y) := (sortL_sorted _).sublist (compact_sublist _)
theorem namedL_length (r : List Int) : (namedL r).length ≤ r.length := by
  unfold namedL
  have h1 := (compact_sublist (sortL (r.filter fun x => !decide (x < 0)))).length_le
  rw [sortL_length] at h1
  have h2 := List.length_filter_le (fun x => !decide (x < 0)) r
  omega

theorem below_grown_own {w w' : World} {base : Nat} {e : TypeId} {size n : Nat} {v : Value} {xs : List Value} {B : Nat} {w0 : World} (hb : Below B w0 w) (h : w.ownsRow base e size v n xs) (hg : w.grownBy w' v.ownBlock) (hB : B ≤ base) (hs : B ≤ w.heap.size) : Below B w0 w' :=
  hb.grown hg hs (fun g hg' => by have := (h.lt g hg').1; omega)

set_option maxHeartbeats 400000 in
theorem named_bad (A : Option Addr) (n c : Nat) (r : List Int) (N : Int) (w : World) (hr : Reads w w.heap.size 1 A n (r.map (.int .i64))) (hn : n ≤ 9223372036854775807) (hE : rootE r N ≠ 0) :
    Calls Try.prog 10 #[.slice A n c, .int .i64 N] w fun e w' => e = .returned (.tuple #[.slice none 0 0, .int .i64 (rootE r N)]) ∧ Below w.heap.size w w' := by
  have H := Lib.hid (rootCheck_any A n c r N w hr hn)
  have hE1 : (rootE r N != 0) = true := by simpa using hE
  generalize rootE r N = E at *
  clear hE hr
  go_enter Try.func10, Try.ntmps10
  go_wp2_with fail
  refine H.out.mono ?_
  rintro e w1 ⟨rfl, hb1⟩
  go_wp2
  go_ret2
  exact ⟨rfl, hb1⟩

set_option maxHeartbeats 1000000 in
theorem named_ok (A : Option Addr) (n c : Nat) (r : List Int) (N : Int) (w : World) (hr : Reads w w.heap.size 1 A n (r.map (.int .i64))) (hE : rootE r N = 0) :
    Calls Try.prog 10 #[.slice A n c, .int .i64 N] w fun e w' => ∃ A' c', e = .returned (.tuple #[.slice A' (namedL r).length c', .int .i64 0]) ∧
      w'.ownsRow w.heap.size 3 1 (.slice A' (namedL r).length c') (namedL r).length ((namedL r).map (.int .i64)) ∧ Below w.heap.size w w' := by
  have hrl : r.length = n := by have := hr.1; simpa using this
  have hn : n ≤ 32 := by have := (rootE_ok hE).2.2.1; omega
  have H := rootCheck_any A n c r N w hr (by omega)
  rw [hE] at H
  have H := Lib.hid H
  have hf := List.length_filter_le (fun x => !decide (x < 0)) r
  unfold namedL
  generalize hF : (r.filter fun x => !decide (x < 0)) = F at *
  have HF := Lib.hid hF
  have hcl : (Lib.compact (sortL F)).length ≤ F.length := by have := (compact_sublist (sortL F)).length_le; rw [sortL_length] at this; exact this
  have hsl := sortL_length F
  clear hF hE
  go_enter Try.func10, Try.ntmps10
  go_wp2_with fail
  refine H.out.mono ?_
  rintro e w1 ⟨rfl, hb1⟩
  go_wp2_with fail
  refine (clone_int A n c _ (r.map (.int .i64)) _ (hr.below hb1) hb1.size (ints_one r) (by omega)).mono ?_
  rintro e w2 ⟨A2, c2, rfl, hown2, hb2⟩
  have hb02 := below_step hb1 hb2
  go_wp2_with fail
  refine (delete_neg _ A2 n c2 r _ hown2 (by omega)).mono ?_
  rw [HF.out]
  rintro e w3 ⟨rfl, hown3, hg3⟩
  have hb03 := below_grown_own hb02 hown2 hg3 hb1.size hb02.size
  go_wp2_with fail
  refine (sort_int _ A2 F.length c2 F _ hown3 (by omega)).mono ?_
  rintro e w4 ⟨rfl, hown4, hg4⟩
  have hb04 := below_grown_own hb03 hown3 hg4 hb1.size hb03.size
  go_wp2_with fail
  rw [← hsl]
  rw [← hsl] at hown4
  refine (compact_int _ A2 (sortL F).length c2 (sortL F) _ hown4 (by omega)).mono ?_
  rintro e w5 ⟨rfl, hown5, hg5⟩
  have hb05 := below_grown_own hb04 hown4 hg5 hb1.size hb04.size
  go_wp2
  go_ret2
  exact ⟨_, _, rfl, own_mono hown5 hb1.size, hb05⟩

def setE (r : List Int) (n slot v : Int) : Int := if rootE r n ≠ 0 then rootE r n else if slot < 0 ∨ (r.length : Int) ≤ slot then 5 else if inR v n = true then 0 else 4

set_option maxRecDepth 100000 in
set_option maxHeartbeats 1000000 in
theorem set_bad (A : Option Addr) (n c : Nat) (r : List Int) (N slot v : Int) (w : World) (hr : Reads w w.heap.size 1 A n (r.map (.int .i64))) (hn : n ≤ 9223372036854775807) (hE : setE r N slot v ≠ 0) :
    Calls Try.prog 16 #[.slice A n c, .int .i64 N, .int .i64 slot, .int .i64 v] w fun e w' => e = .returned (.tuple #[.slice none 0 0, .int .i64 (setE r N slot v)]) ∧ Below w.heap.size w w' := by
  have hrl : r.length = n := by have := hr.1; simpa using this
  have H := rootCheck_any A n c r N w hr hn
  unfold setE at hE ⊢
  rw [hrl] at hE ⊢
  by_cases h0 : rootE r N = 0
  · rw [h0] at H hE ⊢
    have H := Lib.hid H
    rw [if_neg (by decide)] at hE ⊢
    clear h0 hr
    by_cases h1 : slot < 0
    · rw [if_pos (.inl h1)]
      have g1 : decide (slot < 0) = true := decide_eq_true h1
      go_enter Try.func16, Try.ntmps16
      go_wp2_with fail
      refine H.out.mono ?_
      rintro e w1 ⟨rfl, hb1⟩
      go_wp2
      go_ret2
      exact ⟨rfl, hb1⟩
    · obtain ⟨S, rfl⟩ : ∃ S : Nat, slot = S := ⟨slot.toNat, by omega⟩
      have g1 : decide ((S : Int) < 0) = false := decide_eq_false h1
      by_cases h2 : n ≤ S
      · rw [if_pos (.inr (by omega))]
        have g2 : decide (n ≤ S) = true := decide_eq_true h2
        go_enter Try.func16, Try.ntmps16
        go_wp2_with fail
        refine H.out.mono ?_
        rintro e w1 ⟨rfl, hb1⟩
        go_wp2
        go_ret2
        exact ⟨rfl, hb1⟩
      · have hc2 : ¬ ((S : Int) < 0 ∨ (n : Int) ≤ S) := by omega
        rw [if_neg hc2] at hE ⊢
        have g2 : decide (n ≤ S) = false := decide_eq_false h2
        have HW := fun w => within_any v N w
        cases hi : inR v N
        · rw [hi] at HW
          have HW := Lib.hid HW
          rw [if_neg (by decide)]
          clear hi hE
          go_enter Try.func16, Try.ntmps16
          go_wp2_with fail
          refine H.out.mono ?_
          rintro e w1 ⟨rfl, hb1⟩
          go_wp2_with fail
          refine (HW.out _).mono ?_
          rintro e w2 ⟨rfl, rfl⟩
          go_wp2
          go_ret2
          exact ⟨rfl, hb1⟩
        · rw [hi] at hE
          exact absurd rfl hE
  · rw [if_pos h0]
    have hE1 : (rootE r N != 0) = true := by simpa using h0
    generalize rootE r N = E at *
    have H := Lib.hid H
    clear hE h0 hr
    go_enter Try.func16, Try.ntmps16
    go_wp2_with fail
    refine H.out.mono ?_
    rintro e w1 ⟨rfl, hb1⟩
    go_wp2
    go_ret2
    exact ⟨rfl, hb1⟩

theorem setE_ok {r : List Int} {n slot v : Int} (h : setE r n slot v = 0) : rootE r n = 0 ∧ 0 ≤ slot ∧ slot < r.length ∧ inR v n = true := by
  unfold setE at h
  split at h
  · rename_i h1; exact absurd h h1
  · rename_i h1
    split at h
    · cases h
    · split at h
      · rename_i h2 h3
        exact ⟨by simpa using h1, by omega, by omega, h3⟩
      · cases h

set_option maxRecDepth 100000 in
set_option maxHeartbeats 1000000 in
theorem set_ok (A : Option Addr) (n c : Nat) (r : List Int) (N v : Int) (S : Nat) (w : World) (hr : Reads w w.heap.size 1 A n (r.map (.int .i64))) (hE : setE r N S v = 0) :
    Calls Try.prog 16 #[.slice A n c, .int .i64 N, .int .i64 S, .int .i64 v] w fun e w' => ∃ A' c', e = .returned (.tuple #[.slice A' n c', .int .i64 0]) ∧ w'.ownsRow w.heap.size 3 1 (.slice A' n c') n ((r.set S v).map (.int .i64)) ∧ Below w.heap.size w w' := by
  have hrl : r.length = n := by have := hr.1; simpa using this
  obtain ⟨h0, -, h1, h2⟩ := setE_ok hE
  have hn : n ≤ 32 := by have := (rootE_ok h0).2.2.1; omega
  have H := rootCheck_any A n c r N w hr (by omega)
  rw [h0] at H
  have H := Lib.hid H
  have HW := fun w => within_any v N w
  rw [h2] at HW
  have HW := Lib.hid HW
  have hS : S < n := by omega
  have g1 : decide ((S : Int) < 0) = false := decide_eq_false (by omega)
  have g2 : decide (n ≤ S) = false := decide_eq_false (by omega)
  clear h0 h1 h2 hE
  go_enter Try.func16, Try.ntmps16
  go_wp2_with fail
  refine H.out.mono ?_
  rintro e w1 ⟨rfl, hb1⟩
  go_wp2_with fail
  refine (HW.out _).mono ?_
  rintro e w2 ⟨rfl, rfl⟩
  go_wp2_with fail
  refine (clone_int A n c _ (r.map (.int .i64)) _ (hr.below hb1) hb1.size (ints_one r) (by omega)).mono ?_
  rintro e w3 ⟨A3, c3, rfl, hown, hb3⟩
  have hb03 := below_step hb1 hb3
  obtain ⟨g, cap, hv, hg, -⟩ := hown.form (by omega)
  obtain ⟨rfl, rfl⟩ : A3 = some ⟨g, 0, none⟩ ∧ c3 = cap := by simpa using hv
  have hF0 := hown.frozenAt S
  have hc0 := hown.cellAt S (by simp; omega)
  rw [List.getElem?_map, List.getElem?_eq_getElem (by omega)] at hc0
  have hc1 : w3.cell? ⟨g, S, none⟩ = some (.int .i64 (r[S]'(by omega))) := hc0
  have hownR := own_mono (hown.stored S (.int .i64 v)).1 hb1.size
  rw [← List.map_set] at hownR
  have hbz := hb03.setCell (p := ⟨g, S, none⟩) (by have := hb1.size; dsimp only; omega) (.int .i64 v)
  clear hv hc0 hown
  go_wp2
  go_ret2
  exact ⟨_, _, rfl, hownR, hbz⟩
end Go.Proofs.Ythfjopnomkfegaa
