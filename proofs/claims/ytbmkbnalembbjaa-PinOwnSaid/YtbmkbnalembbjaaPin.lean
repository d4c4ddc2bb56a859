/-
  package pin: Check, find, Many.
-/
import Derived.Test.YtbmkbnalembbjaaRows
import Derived.Test.YtbmkbnalembbjaaGapDefs
import Derived.Test.YtbmkbnalembbjaaBase2
import Derived.BigQuiet
namespace Go.Proofs.Ytbmkbnalembbjaa
open Go.RowKit

def pinBad (x : Rn) : Bool := !(decide (0 ≤ x.loc) && decide (x.loc < 256)) || decide (x.len < 1) || decide (1000000 < x.len)
def pinGo : Option Int → List Rn → Int
  | _, [] => 0
  | pv, x :: t => if pinBad x = true then 4 else if pv.any (fun p => decide (x.loc ≤ p)) = true then 3 else pinGo (some x.loc) t
def pinE (l : List Rn) : Int := if 16 < l.length then 2 else pinGo none l
structure PinsOk (l : List Rn) : Prop where
  len : l.length ≤ 16
  ok : ∀ x ∈ l, pinBad x = false
  rise : l.Pairwise (fun x y => x.loc < y.loc)
theorem pinGo_ok : ∀ (pv : Option Int) (l : List Rn), pinGo pv l = 0 ↔ (∀ x ∈ l, pinBad x = false) ∧ l.Pairwise (fun x y => x.loc < y.loc) ∧ ∀ p, pv = some p → ∀ x ∈ l, p < x.loc
  | pv, [] => by simp [pinGo]
  | pv, x :: t => by
    have ih := pinGo_ok (some x.loc) t
    unfold pinGo
    by_cases h1 : pinBad x = true
    · rw [if_pos h1]
      simp only [List.mem_cons, forall_eq_or_imp, h1]
      simp
    · rw [if_neg h1]
      have h1' : pinBad x = false := by simpa using h1
      by_cases h2 : pv.any (fun p => decide (x.loc ≤ p)) = true
      · rw [if_pos h2]
        refine ⟨fun h => (by cases h), fun ⟨_, _, h⟩ => ?_⟩
        cases pv with
        | none => simp at h2
        | some p =>
          have := h p rfl x List.mem_cons_self
          simp only [Option.any_some, decide_eq_true_eq] at h2
          omega
      · rw [if_neg h2, ih]
        constructor
        · rintro ⟨a1, a2, a3⟩
          refine ⟨fun y hy => ?_, List.pairwise_cons.2 ⟨fun y hy => a3 _ rfl y hy, a2⟩, fun p hp y hy => ?_⟩
          · rcases List.mem_cons.1 hy with rfl | hy
            · exact h1'
            · exact a1 y hy
          · subst hp
            simp only [Option.any_some, decide_eq_true_eq] at h2
            rcases List.mem_cons.1 hy with rfl | hy
            · omega
            · have := a3 _ rfl y hy; omega
        · rintro ⟨a1, a2, a3⟩
          exact ⟨fun y hy => a1 y (List.mem_cons_of_mem _ hy), (List.pairwise_cons.1 a2).2, fun p hp y hy => by injection hp with hp; subst hp; exact (List.pairwise_cons.1 a2).1 y hy⟩
theorem pinE_ok {l : List Rn} : pinE l = 0 ↔ PinsOk l := by
  unfold pinE
  by_cases h : 16 < l.length
  · rw [if_pos h]
    exact ⟨fun h => (by cases h), fun hk => by have := hk.len; omega⟩
  · rw [if_neg h, pinGo_ok]
    exact ⟨fun ⟨a, b, _⟩ => ⟨by omega, a, b⟩, fun ⟨_, a, b⟩ => ⟨a, b, by simp⟩⟩

def thereB (x : Int) : Bool := decide (0 ≤ x) && decide (x < 256)
set_option maxHeartbeats 400000 in
theorem pthere_any (x : Int) (w : World) : Calls Try.prog 62 #[.int .i64 x] w fun e w' => e = .returned (.bool (thereB x)) ∧ w' = w := by
  unfold thereB
  by_cases h0 : 0 ≤ x
  · have g0 : decide (0 ≤ x) = true := decide_eq_true h0
    have g0' : decide (x ≥ 0) = true := decide_eq_true h0
    rw [g0]
    go_enter Try.func62, Try.ntmps62
    go_wp2
    go_ret
    exact ⟨by first | rfl | simp, rfl⟩
  · have g0 : decide (0 ≤ x) = false := decide_eq_false h0
    have g0' : decide (x ≥ 0) = false := decide_eq_false h0
    rw [g0]
    go_enter Try.func62, Try.ntmps62
    go_wp2
    go_ret
    exact ⟨by first | rfl | simp, rfl⟩

set_option maxRecDepth 100000 in
set_option maxHeartbeats 2000000 in
theorem pcheck_any (A : Option Addr) (n c : Nat) (l : List Rn) (w : World) (hr : Reads w w.heap.size 2 A n (runsC l)) (hn : n ≤ 9223372036854775807) :
    Calls Try.prog 60 #[.slice A n c] w fun e w' => e = .returned (.int .i64 (pinE l)) ∧ Below w.heap.size w w' := by
  have hl : l.length = n := by have := hr.1; rw [runsC_length] at this; omega
  by_cases hbig : 16 < n
  · have e : pinE l = 2 := by unfold pinE; rw [if_pos (by omega)]
    have g1 : decide (16 < n) = true := decide_eq_true hbig
    have g1' : decide ((16 : Int) < (n : Int)) = true := decide_eq_true (by omega)
    rw [e]
    clear hl e
    go_enter Try.func60, Try.ntmps60
    go_wp2
    go_ret
    exact ⟨rfl, Below.refl _ _⟩
  · have g1 : decide (16 < n) = false := decide_eq_false hbig
    have g1' : decide ((16 : Int) < (n : Int)) = false := decide_eq_false (by omega)
    have HE : Hid (pinE l = pinGo none l) := by show _ = _; unfold pinE; rw [if_neg (by omega)]
    have HL := Lib.hid hl
    have HT := Lib.hid pthere_any
    clear hl
    go_enter Try.func60, Try.ntmps60
    go_wp2
    go_loopw [10] (fun i wr => ∃ (j : Nat) (pv : Option Int), j ≤ n ∧ i = .int .i64 j ∧ Hid (pinGo none l = pinGo pv (l.drop j)) ∧ Hid (pv = if j = 0 then none else (l[j - 1]?).map (·.loc)) ∧ Below w.heap.size w wr) (fun i _ => n - (intOf i).toNat)
    case atStart => exact ⟨0, none, Nat.zero_le _, rfl, rfl, rfl, Below.refl _ _⟩
    case round =>
      obtain ⟨j, pv, hj, rfl, HG, HP, hb⟩ := hrel
      by_cases hlt : j < n
      · obtain ⟨ad, x, rfl, had, hx, c0, c1⟩ := (hr.below hb).run hlt
        have hd : l.drop j = x :: l.drop (j + 1) := by
          obtain ⟨q1, q2⟩ := List.getElem?_eq_some_iff.1 hx
          rw [List.drop_eq_getElem_cons q1, q2]
        have hG := HG.out
        rw [hd, pinGo] at hG
        have hj1 : j + 1 ≤ n := hlt
        obtain ⟨loc, len⟩ := x
        dsimp only at c0 c1
        have hbx := hb.alloc hb.size (.cells #[.int .i64 loc, .int .i64 len] 47)
        have D0 := Blk.new wr 47 #[.int .i64 loc, .int .i64 len]
        have d0 := D0.cell 0
        have d1 := D0.cell 1
        simp only [List.getElem?_toArray, List.getElem?_cons_zero, List.getElem?_cons_succ] at d0 d1
        cases hth : thereB loc
        · have HT1 := Lib.hid (by have := HT.out loc (wr.alloc (.cells #[.int .i64 loc, .int .i64 len] 47)); rw [hth] at this; exact this)
          have HR : Hid (pinE l = 4) := by show _ = _; rw [HE.out, hG, if_pos (by unfold thereB at hth; simp [pinBad, hth])]
          clear hx hG hd hth
          go_wp2_with fail
          refine HT1.out.mono ?_
          rintro e w1 ⟨rfl, rfl⟩
          go_wp2
          go_ret
          exact ⟨by rw [HR.out]; rfl, hbx⟩
        · have HT1 := Lib.hid (by have := HT.out loc (wr.alloc (.cells #[.int .i64 loc, .int .i64 len] 47)); rw [hth] at this; exact this)
          by_cases h1 : len < 1
          · have z1 : decide (len < 1) = true := decide_eq_true h1
            have HR : Hid (pinE l = 4) := by show _ = _; rw [HE.out, hG, if_pos (by simp [pinBad, z1])]
            clear hx hG hd hth
            go_wp2_with fail
            refine HT1.out.mono ?_
            rintro e w1 ⟨rfl, rfl⟩
            go_wp2
            go_ret
            exact ⟨by rw [HR.out]; rfl, hbx⟩
          · have z1 : decide (len < 1) = false := decide_eq_false h1
            by_cases h2 : 1000000 < len
            · have z2 : decide (1000000 < len) = true := decide_eq_true h2
              have HR : Hid (pinE l = 4) := by show _ = _; rw [HE.out, hG, if_pos (by simp [pinBad, z2])]
              clear hx hG hd hth
              go_wp2_with fail
              refine HT1.out.mono ?_
              rintro e w1 ⟨rfl, rfl⟩
              go_wp2
              go_ret
              exact ⟨by rw [HR.out]; rfl, hbx⟩
            · have z2 : decide (1000000 < len) = false := decide_eq_false h2
              rw [if_neg (by unfold thereB at hth; simp [pinBad, z1, z2, hth])] at hG
              have HX := Lib.hid hx
              by_cases hj0 : j = 0
              · have hpv : pv = none := by have := HP.out; rw [if_pos hj0] at this; exact this
                subst hpv
                have z3 : decide ((0 : Int) < (j : Int)) = false := decide_eq_false (by omega)
                have z3' : decide (0 < j) = false := decide_eq_false (by omega)
                have HG2 : Hid (pinGo none l = pinGo (some loc) (l.drop (j + 1))) := by show _ = _; rw [hG]; simp
                have HP2 : Hid (some loc = if (j + 1 : Nat) = 0 then none else (l[j + 1 - 1]?).map (·.loc)) := by show _ = _; rw [if_neg (by omega), show (j + 1 - 1 : Nat) = j by omega, hx]; rfl
                clear hx hG hd hth hj0
                go_wp2_with fail
                refine HT1.out.mono ?_
                rintro e w1 ⟨rfl, rfl⟩
                go_wp2
                go_quiet (fail)
                go_wp2
                go_roundw
                case rel => exact ⟨j + 1, some loc, hj1, by go_num, HG2, HP2, below_drewN hbx _⟩
                case measure => simp [intOf]; omega
              · obtain ⟨k, rfl⟩ : ∃ k, j = k + 1 := ⟨j - 1, by omega⟩
                obtain ⟨ad2, y, e2, had2, hy, c2, c3⟩ := (hr.below hb).run (show k < n by omega)
                obtain rfl : ad = ad2 := by injection e2
                have hpv : pv = some y.loc := by have := HP.out; rw [if_neg (by omega), show k + 1 - 1 = k by omega, hy] at this; exact this
                subst hpv
                have wk : IntKind.i64.wrap ((k : Int) + 1 - 1) = k := by rw [show (k : Int) + 1 - 1 = k by omega]; exact IntWalk.i64_in _ (by omega)
                have wk2 : (k : Int) + 1 - 1 = k := by omega
                have wk3 : IntKind.i64.wrap (k : Int) = k := IntWalk.i64_in _ (by omega)
                have z3 : decide ((0 : Int) < (k : Int) + 1) = true := decide_eq_true (by omega)
                have z4 : (0 : Int) < (k : Int) + 1 := by omega
                have hkn : k < n := by omega
                have hkn' : (k : Int) < n := by omega
                have c2' := (hbx.cell (p := ad.add (k * 2)) (by unfold Addr.add; split <;> exact Nat.lt_of_lt_of_le had (Nat.le_refl _)))
                have e2' : (wr.alloc (.cells #[.int .i64 loc, .int .i64 len] 47)).cell? (ad.add (k * 2)) = some (.int .i64 y.loc) := by
                  rw [World.cell?_alloc_lt wr _ _ (by have := hb.size; unfold Addr.add; split <;> (first | omega | (dsimp only; omega)))]
                  exact c2
                obtain ⟨yl, yn⟩ := y
                try dsimp only at c2
                try dsimp only at c3
                try dsimp only at e2'
                try dsimp only at hG
                by_cases hge : loc ≤ yl
                · have z5 : decide (loc ≤ yl) = true := decide_eq_true hge
                  have HR : Hid (pinE l = 3) := by show _ = _; rw [HE.out, hG, if_pos (by simpa using hge)]
                  clear hx hG hd hth hy c2' HP
                  go_wp2_with fail
                  refine HT1.out.mono ?_
                  rintro e w1 ⟨rfl, rfl⟩
                  go_wp2
                  go_quiet (fail)
                  go_wp2
                  go_ret
                  exact ⟨by rw [HR.out]; rfl, below_drewN hbx _⟩
                · have z5 : decide (loc ≤ yl) = false := decide_eq_false hge
                  have HG2 : Hid (pinGo none l = pinGo (some loc) (l.drop (k + 1 + 1))) := by show _ = _; rw [hG, if_neg (by simpa using hge)]
                  have HP2 : Hid (some loc = if k + 1 + 1 = 0 then none else (l[k + 1 + 1 - 1]?).map (·.loc)) := by show _ = _; rw [if_neg (by omega), show k + 1 + 1 - 1 = k + 1 by omega, hx]; rfl
                  clear hx hG hd hth hy c2' HP
                  go_wp2_with fail
                  refine HT1.out.mono ?_
                  rintro e w1 ⟨rfl, rfl⟩
                  go_wp2
                  go_quiet (fail)
                  go_wp2
                  go_roundw
                  case rel => exact ⟨k + 1 + 1, some loc, hj1, by go_num, HG2, HP2, below_drewN hbx _⟩
                  case measure => simp [intOf]; omega
      · have hjn : j = n := by omega
        have HR : Hid (pinE l = 0) := by
          show _ = _
          rw [HE.out, HG.out, hjn, List.drop_of_length_le (by rw [HL.out]; exact Nat.le_refl _)]
          rfl
        have g0 : decide (j < n) = false := decide_eq_false hlt
        clear hjn HG HP
        go_wp2
        go_ret
        exact ⟨by rw [HR.out]; rfl, hb⟩
end Go.Proofs.Ytbmkbnalembbjaa
