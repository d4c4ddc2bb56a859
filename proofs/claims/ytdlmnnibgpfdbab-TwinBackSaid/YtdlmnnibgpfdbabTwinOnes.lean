/-
  math/bits.OnesCount at small numbers; package twin: New, piece.
-/
import Derived.Test.YtdlmnnibgpfdbabRows
import Derived.Test.YtdlmnnibgpfdbabTwinDefs
import Derived.Test.YtdlmnnibgpfdbabBase2
namespace Go.Proofs.Ytdlmnnibgpfdbab
open Go.RowKit

def oc1 (x : Int) : Int := IntKind.u64.wrap (bits .and .u64 (x / 2) 6148914691236517205 + bits .and .u64 x 6148914691236517205)
def oc2 (x : Int) : Int := IntKind.u64.wrap (bits .and .u64 (x / 4) 3689348814741910323 + bits .and .u64 x 3689348814741910323)
def oc3 (x : Int) : Int := bits .and .u64 (IntKind.u64.wrap (x / 16 + x)) 1085102592571150095
def oc4 (x : Int) : Int := IntKind.u64.wrap (x + x / 256)
def oc5 (x : Int) : Int := IntKind.u64.wrap (x + x / 65536)
def oc6 (x : Int) : Int := IntKind.u64.wrap (x + x / 4294967296)
def oc7 (x : Int) : Int := bits .and .i64 (IntKind.i64.wrap x) 127
def ocF (x : Int) : Int := oc7 (oc6 (oc5 (oc4 (oc3 (oc2 (oc1 x))))))
theorem oc_all : ((List.range 257).all fun x => x == 0 || (ocF x == 1) == isP x) = true := by kernel_rfl
theorem oc_isP (x : Nat) (h : x ≤ 256) (h0 : 0 < x) : decide (ocF x = 1) = isP x := by
  have h1 := List.all_eq_true.1 oc_all x (List.mem_range.2 (by omega))
  have h2 : (x == 0) = false := by simp; omega
  rw [h2, Bool.false_or, beq_iff_eq] at h1
  rw [← h1]
  rfl

set_option maxHeartbeats 400000 in
theorem ones64_any (x : Nat) (w : World) :
    Calls Try.prog 69 #[.int .u64 x] w fun e w' => e = .returned (.int .i64 (ocF x)) ∧ w' = w := by
  have HF : Hid (ocF x = ocF x) := rfl
  obtain ⟨y1, e1⟩ : ∃ y, IntKind.u64.wrap (bits .and .u64 ((x : Int) / 2) 6148914691236517205 + bits .and .u64 (x : Int) 6148914691236517205) = y := ⟨_, rfl⟩
  obtain ⟨y2, e2⟩ : ∃ y, IntKind.u64.wrap (bits .and .u64 (y1 / 4) 3689348814741910323 + bits .and .u64 y1 3689348814741910323) = y := ⟨_, rfl⟩
  obtain ⟨y3, e3⟩ : ∃ y, bits .and .u64 (IntKind.u64.wrap (y2 / 16 + y2)) 1085102592571150095 = y := ⟨_, rfl⟩
  obtain ⟨y4, e4⟩ : ∃ y, IntKind.u64.wrap (y3 + y3 / 256) = y := ⟨_, rfl⟩
  obtain ⟨y5, e5⟩ : ∃ y, IntKind.u64.wrap (y4 + y4 / 65536) = y := ⟨_, rfl⟩
  obtain ⟨y6, e6⟩ : ∃ y, IntKind.u64.wrap (y5 + y5 / 4294967296) = y := ⟨_, rfl⟩
  obtain ⟨y7, e7⟩ : ∃ y, bits .and .i64 (wrap64 y6) 127 = y := ⟨_, rfl⟩
  have hq : ocF x = y7 := by
    unfold ocF oc7 oc6 oc5 oc4 oc3 oc2 oc1
    rw [e1, e2, e3, e4, e5, e6]
    rw [IntWalk.i64_left]
    exact e7
  rw [hq]
  clear hq HF
  go_enter Try.func69, Try.ntmps69
  go_wp2
  go_ret
  exact ⟨rfl, rfl⟩

set_option maxHeartbeats 400000 in
theorem ones_any (x : Nat) (w : World) :
    Calls Try.prog 54 #[.int .u64 x] w fun e w' => e = .returned (.int .i64 (ocF x)) ∧ w' = w := by
  have H := ones64_any x w
  generalize ocF x = y at *
  have H := Lib.hid H
  go_enter Try.func54, Try.ntmps54
  go_wp2_with (go_at_call 69; refine H.out.mono ?_; rintro e w1 ⟨rfl, rfl⟩)
  go_ret
  exact ⟨rfl, rfl⟩

def newE (o : Int) : Int := if 0 ≤ o ∧ o ≤ 8 then 0 else 4
def newO (o : Int) : Int := if 0 ≤ o ∧ o ≤ 8 then o else 0
set_option maxHeartbeats 400000 in
theorem twinNew_any (o : Int) (w : World) :
    Calls Try.prog 32 #[.int .i64 o] w fun e w' => e = .returned (.tuple #[.agg #[.int .i64 (newO o), .slice none 0 0], .int .i64 (newE o)]) ∧ Below w.heap.size w w' := by
  unfold newE newO
  by_cases h0 : 0 ≤ o
  · by_cases h1 : o ≤ 8
    · rw [if_pos ⟨h0, h1⟩, if_pos ⟨h0, h1⟩]
      have d0 : decide (o < 0) = false := decide_eq_false (by omega)
      have d1 : decide (8 < o) = false := decide_eq_false (by omega)
      go_enter Try.func32, Try.ntmps32
      go_wp2
      refine bodyPost_ret (v := .tuple #[.agg #[.int .i64 o, .slice none 0 0], .int .i64 0]) ?_ rfl ⟨rfl, ?_⟩
      · simp only [results, Try.results32]
        go_simp
      · repeat (first | exact below_new _ _ | refine Below.setCell ?_ (by simp) _)
    · rw [if_neg (fun h => h1 h.2), if_neg (fun h => h1 h.2)]
      have d0 : decide (o < 0) = false := decide_eq_false (by omega)
      have d1 : decide (8 < o) = true := decide_eq_true (by omega)
      go_enter Try.func32, Try.ntmps32
      go_wp2
      refine bodyPost_ret (v := .tuple #[.agg #[.int .i64 0, .slice none 0 0], .int .i64 4]) ?_ rfl ⟨rfl, ?_⟩
      · simp only [results, Try.results32]
        go_simp
      · repeat (first | exact below_new _ _ | refine Below.setCell ?_ (by simp) _)
  · rw [if_neg (fun h => h0 h.1), if_neg (fun h => h0 h.1)]
    have d0 : decide (o < 0) = true := decide_eq_true (by omega)
    go_enter Try.func32, Try.ntmps32
    go_wp2
    refine bodyPost_ret (v := .tuple #[.agg #[.int .i64 0, .slice none 0 0], .int .i64 4]) ?_ rfl ⟨rfl, ?_⟩
    · simp only [results, Try.results32]
      go_simp
    · repeat (first | exact below_new _ _ | refine Below.setCell ?_ (by simp) _)

set_option maxRecDepth 100000 in
set_option maxHeartbeats 1000000 in
theorem piece_any (r : Rm) (o : Nat) (w : World) (ho : o ≤ 8) :
    Calls Try.prog 33 #[.agg #[.int .i64 r.loc, .int .i64 r.len, .int .i64 r.used], .int .i64 ((2 ^ o : Nat) : Int)] w fun e w' => e = .returned (.bool (pieceB r (2 ^ o))) ∧ Below w.heap.size w w' := by
  obtain ⟨all, ha, ha1, ha2⟩ : ∃ all : Nat, all = 2 ^ o ∧ 1 ≤ all ∧ all ≤ 256 := ⟨2 ^ o, rfl, Nat.pos_of_ne_zero (by simp), Nat.pow_le_pow_right (by decide) ho⟩
  rw [← ha]
  clear ha ho
  obtain ⟨a, l, u⟩ := r
  unfold pieceB
  dsimp only
  have hb := below_new w (.cells #[.int .i64 a, .int .i64 l, .int .i64 u] 33)
  by_cases h1 : 1 ≤ l
  · by_cases h2 : l ≤ all
    · obtain ⟨L, rfl⟩ : ∃ L : Nat, l = L := ⟨l.toNat, by omega⟩
      have H := fun w => ones_any L w
      have hi := oc_isP L (by omega) (by omega)
      generalize ocF L = y at *
      have H := Lib.hid H
      have wL : IntKind.u64.wrap (L : Int) = L := IntWalk.u64_in _ (by omega)
      rw [decide_eq_true h1, decide_eq_true h2, Bool.true_and, Bool.true_and, ← hi]
      have d1 : decide ((1 : Int) ≤ L) = true := decide_eq_true h1
      have d2 : decide ((L : Int) ≤ all) = true := decide_eq_true h2
      clear hi
      by_cases h3 : y = 1
      · subst h3
        rw [decide_eq_true rfl, Bool.true_and]
        by_cases h4 : 0 ≤ a
        · have w2 : IntKind.i64.wrap ((all : Int) - L) = (all : Int) - L := IntWalk.i64_in _ (by omega)
          obtain ⟨X, rfl⟩ : ∃ X : Nat, a = X := ⟨a.toNat, by omega⟩
          have d4 : decide ((0 : Int) ≤ X) = true := decide_eq_true h4
          rw [decide_eq_true h4, Bool.true_and]
          by_cases h5 : (X : Int) ≤ (all : Int) - L
          · rw [decide_eq_true h5, Bool.true_and]
            have d5 : decide ((X : Int) ≤ (all : Int) - L) = true := decide_eq_true h5
            by_cases h6 : (X : Int) % L = 0
            · rw [decide_eq_true h6, Bool.true_and]
              by_cases h7 : u ≤ (L : Int)
              · rw [decide_eq_true h7, Bool.true_and]
                have d7 : decide (u ≤ (L : Int)) = true := decide_eq_true h7
                go_enter Try.func33, Try.ntmps33
                go_wp2_with (go_at_call 54; refine (H.out _).mono ?_; rintro e w1 ⟨rfl, rfl⟩)
                go_ret
                exact ⟨rfl, hb⟩
              · rw [decide_eq_false h7, Bool.false_and]
                have d7 : decide (u ≤ (L : Int)) = false := decide_eq_false h7
                go_enter Try.func33, Try.ntmps33
                go_wp2_with (go_at_call 54; refine (H.out _).mono ?_; rintro e w1 ⟨rfl, rfl⟩)
                go_ret
                exact ⟨rfl, hb⟩
            · rw [decide_eq_false h6, Bool.false_and]
              obtain ⟨M, hM⟩ : ∃ M, (X : Int) % L = M := ⟨_, rfl⟩
              rw [hM] at h6
              have d6 : (M == 0) = false := by simpa using h6
              clear h6
              go_enter Try.func33, Try.ntmps33
              go_wp2_with (go_at_call 54; refine (H.out _).mono ?_; rintro e w1 ⟨rfl, rfl⟩)
              go_ret
              exact ⟨rfl, hb⟩
          · rw [decide_eq_false h5, Bool.false_and]
            have d5 : decide ((X : Int) ≤ (all : Int) - L) = false := decide_eq_false h5
            go_enter Try.func33, Try.ntmps33
            go_wp2_with (go_at_call 54; refine (H.out _).mono ?_; rintro e w1 ⟨rfl, rfl⟩)
            go_ret
            exact ⟨rfl, hb⟩
        · rw [decide_eq_false h4, Bool.false_and]
          have d4 : decide (0 ≤ a) = false := decide_eq_false h4
          go_enter Try.func33, Try.ntmps33
          go_wp2_with (go_at_call 54; refine (H.out _).mono ?_; rintro e w1 ⟨rfl, rfl⟩)
          go_ret
          exact ⟨rfl, hb⟩
      · rw [decide_eq_false h3, Bool.false_and]
        have d3 : (y == 1) = false := by simpa using h3
        go_enter Try.func33, Try.ntmps33
        go_wp2_with (go_at_call 54; refine (H.out _).mono ?_; rintro e w1 ⟨rfl, rfl⟩)
        go_ret
        exact ⟨rfl, hb⟩
    · rw [decide_eq_false h2, Bool.false_and, Bool.and_false]
      have d1 : decide ((1 : Int) ≤ l) = true := decide_eq_true h1
      have d2 : decide (l ≤ all) = false := decide_eq_false h2
      go_enter Try.func33, Try.ntmps33
      go_wp2_with fail
      go_ret
      exact ⟨rfl, hb⟩
  · rw [decide_eq_false h1, Bool.false_and]
    have d1 : decide ((1 : Int) ≤ l) = false := decide_eq_false h1
    go_enter Try.func33, Try.ntmps33
    go_wp2_with fail
    go_ret
    exact ⟨rfl, hb⟩
end Go.Proofs.Ytdlmnnibgpfdbab
