/-
  Texts joined: GapDefs Pin TintDefs Head Spots Check.
-/
import Derived.Test.YtbmkbnalembbjaaGreatDoorRows
import Derived.BigQuiet
import Derived.Test.YtbmkbnalembbjaaGreatDoorR0
import Derived.Test.YtbmkbnalembbjaaGreatDoorR2
namespace Go.Proofs.YtbmkbnalembbjaaGreatDoor
open Go.RowKit
structure Rn where
  loc : Int
  len : Int
deriving DecidableEq
def runC (r : Rn) : List Value := [.int .i64 r.loc, .int .i64 r.len]
def runsC (l : List Rn) : List Value := l.flatMap runC
theorem runsC_length (l : List Rn) : (runsC l).length = l.length * 2 := flat_length runC 2 (fun _ => rfl) l
theorem runsC_one (l : List Rn) : ∀ u ∈ runsC l, u.oneCell' = true := by
  intro u hu
  obtain ⟨s, _, hs⟩ := List.mem_flatMap.1 hu
  simp only [runC, List.mem_cons, List.not_mem_nil, or_false] at hs
  rcases hs with rfl | rfl <;> rfl
theorem runsC_snoc (l : List Rn) (s : Rn) : runsC (l ++ [s]) = runsC l ++ runC s := by simp [runsC]
theorem Reads.run {w : World} {B : Nat} {A : Option Addr} {n j : Nat} {l : List Rn} (h : Reads w B 2 A n (runsC l)) (hj : j < n) :
    ∃ ad s, A = some ad ∧ ad.block < B ∧ l[j]? = some s ∧ w.cell? (ad.add (j * 2)) = some (.int .i64 s.loc) ∧
      w.cell? ⟨(ad.add (j * 2)).block, (ad.add (j * 2)).off + 1, none⟩ = some (.int .i64 s.len) := by
  obtain ⟨ad, s, e, hb, hs, c0, cs⟩ := Reads.elem (f := runC) (k := 2) (fun _ => rfl) h (by decide) hj
  exact ⟨ad, s, e, hb, hs, c0, cs 1 (by decide) (by decide)⟩
def badRun (r : Rn) : Bool := decide (r.loc < 0) || decide (r.len < 1)
def fitIx (n : Int) : Nat → List Rn → List Int
  | _, [] => []
  | i, r :: l => if n ≤ r.len then (i : Int) :: fitIx n (i + 1) l else fitIx n (i + 1) l
def fitsE (l : List Rn) (n : Int) : Int := if n < 1 then 1 else if l.any badRun = true then 4 else if fitIx n 0 l = [] then 7 else 0
theorem fitIx_snoc (n : Int) (l : List Rn) (r : Rn) (i : Nat) : fitIx n i (l ++ [r]) = fitIx n i l ++ (if n ≤ r.len then [((i + l.length : Nat) : Int)] else []) := by
  induction l generalizing i with
  | nil => simp only [List.nil_append, fitIx, List.length_nil, Nat.add_zero]
  | cons a l ih =>
    simp only [List.cons_append, fitIx, ih, List.length_cons]
    rw [show i + 1 + l.length = i + (l.length + 1) by omega]
    split <;> simp
theorem fitIx_mem {n : Int} {l : List Rn} {i : Nat} {x : Int} : x ∈ fitIx n i l ↔ ∃ (j : Nat) (r : Rn), l[j]? = some r ∧ n ≤ r.len ∧ x = ((i + j : Nat) : Int) := by
  induction l generalizing i with
  | nil => simp [fitIx]
  | cons a l ih =>
    simp only [fitIx]
    constructor
    · intro h
      split at h
      · rename_i ha
        rcases List.mem_cons.1 h with rfl | h
        · exact ⟨0, a, rfl, ha, rfl⟩
        · obtain ⟨j, r, h1, h2, h3⟩ := ih.1 h
          exact ⟨j + 1, r, h1, h2, by rw [h3]; omega⟩
      · obtain ⟨j, r, h1, h2, h3⟩ := ih.1 h
        exact ⟨j + 1, r, h1, h2, by rw [h3]; omega⟩
    · rintro ⟨j, r, h1, h2, rfl⟩
      cases j with
      | zero =>
        obtain rfl : a = r := by simpa using h1
        rw [if_pos h2]
        exact List.mem_cons_self
      | succ j =>
        have hm : ((i + (j + 1) : Nat) : Int) ∈ fitIx n (i + 1) l := ih.2 ⟨j, r, by simpa using h1, h2, by omega⟩
        split
        · exact List.mem_cons_of_mem _ hm
        · exact hm
theorem fitsE_ok {l : List Rn} {n : Int} : fitsE l n = 0 ↔ 1 ≤ n ∧ l.any badRun = false ∧ fitIx n 0 l ≠ [] := by
  unfold fitsE
  split
  · constructor
    · intro h; cases h
    · omega
  · split
    · rename_i h; constructor
      · intro h; cases h
      · rintro ⟨_, h2, _⟩; rw [h] at h2; cases h2
    · rename_i h
      split
      · rename_i h3; constructor
        · intro h; cases h
        · rintro ⟨_, _, h4⟩; exact absurd h3 h4
      · rename_i h3; exact ⟨fun _ => ⟨by omega, by simpa using h, h3⟩, fun _ => rfl⟩
def bump (acc : List Rn) (n : Int) : List Rn := acc.dropLast ++ (match acc.getLast? with | some r => [⟨r.loc, r.len + n⟩] | none => [])
def gapsA (acc : List Rn) (prev : Bool) : List Spot → List Rn
  | [] => acc
  | s :: l => if s.f = false then gapsA acc false l else if prev = true then gapsA (bump acc s.long) true l else gapsA (acc ++ [⟨s.loc, s.long⟩]) true l
def gapsL (l : List Spot) : List Rn := gapsA [] false l
theorem bump_snoc (acc : List Rn) (r : Rn) (n : Int) : bump (acc ++ [r]) n = acc ++ [⟨r.loc, r.len + n⟩] := by simp [bump]
theorem bump_length {acc : List Rn} (n : Int) : (bump acc n).length = acc.length := by
  rcases List.eq_nil_or_concat acc with rfl | ⟨l, r, rfl⟩
  · rfl
  · rw [List.concat_eq_append, bump_snoc]; simp
theorem gapsA_length (acc : List Rn) (prev : Bool) (l : List Spot) : (gapsA acc prev l).length ≤ acc.length + l.length := by
  induction l generalizing acc prev with
  | nil => simp [gapsA]
  | cons s l ih =>
    simp only [gapsA, List.length_cons]
    split
    · have := ih acc false; omega
    · split
      · have := ih (bump acc s.long) true; rw [bump_length] at this; omega
      · have := ih (acc ++ [⟨s.loc, s.long⟩]) true; simp only [List.length_append, List.length_cons, List.length_nil] at this; omega
theorem runsC_bump (acc : List Rn) (l n x : Int) : (runsC (acc ++ [⟨l, n⟩])).set (acc.length * 2 + 1) (.int .i64 x) = runsC (acc ++ [⟨l, x⟩]) := by
  rw [runsC_snoc, runsC_snoc, List.set_append_right _ _ (by rw [runsC_length]; omega), runsC_length, show acc.length * 2 + 1 - acc.length * 2 = 1 by omega]
  rfl
theorem runsC_last (acc : List Rn) (l n : Int) : (runsC (acc ++ [⟨l, n⟩]))[acc.length * 2 + 1]? = some (.int .i64 n) := by
  rw [runsC_snoc, List.getElem?_append_right (by rw [runsC_length]; omega), runsC_length, show acc.length * 2 + 1 - acc.length * 2 = 1 by omega]
  rfl
end Go.Proofs.YtbmkbnalembbjaaGreatDoor

namespace Go.Proofs.YtbmkbnalembbjaaGreatDoor
open Go.RowKit
def pinBad (x : Rn) : Bool := !(decide (0 ≤ x.loc) && decide (x.loc < 256)) || decide (x.len < 1) || decide (1000000 < x.len)
def pinGo : Option Int → List Rn → Int
  | _, [] => 0
  | pv, x :: t => if pinBad x = true then 4 else if pv.any (fun p => decide (x.loc ≤ p)) = true then 3 else pinGo (some x.loc) t
def pinE (l : List Rn) : Int := if 16 < l.length then 2 else pinGo none l
structure PinsOk (l : List Rn) : Prop where
  len : l.length ≤ 16
  ok : ∀ x ∈ l, pinBad x = false
  rise : l.Pairwise (fun x y => x.loc < y.loc)
theorem pinGo_ok : ∀ (pv : Option Int) (l : List Rn), pinGo pv l = 0 ↔ (∀ x ∈ l, pinBad x = false) ∧ l.Pairwise (fun x y => x.loc < y.loc) ∧ ∀ p, pv = some p → ∀ x ∈ l, p < x.loc
  | pv, [] => by simp [pinGo]
  | pv, x :: t => by
    have ih := pinGo_ok (some x.loc) t
    unfold pinGo
    by_cases h1 : pinBad x = true
    · rw [if_pos h1]
      simp only [List.mem_cons, forall_eq_or_imp, h1]
      simp
    · rw [if_neg h1]
      have h1' : pinBad x = false := by simpa using h1
      by_cases h2 : pv.any (fun p => decide (x.loc ≤ p)) = true
      · rw [if_pos h2]
        refine ⟨fun h => (by cases h), fun ⟨_, _, h⟩ => ?_⟩
        cases pv with
        | none => simp at h2
        | some p =>
          have := h p rfl x List.mem_cons_self
          simp only [Option.any_some, decide_eq_true_eq] at h2
          omega
      · rw [if_neg h2, ih]
        constructor
        · rintro ⟨a1, a2, a3⟩
          refine ⟨fun y hy => ?_, List.pairwise_cons.2 ⟨fun y hy => a3 _ rfl y hy, a2⟩, fun p hp y hy => ?_⟩
          · rcases List.mem_cons.1 hy with rfl | hy
            · exact h1'
            · exact a1 y hy
          · subst hp
            simp only [Option.any_some, decide_eq_true_eq] at h2
            rcases List.mem_cons.1 hy with rfl | hy
            · omega
            · have := a3 _ rfl y hy; omega
        · rintro ⟨a1, a2, a3⟩
          exact ⟨fun y hy => a1 y (List.mem_cons_of_mem _ hy), (List.pairwise_cons.1 a2).2, fun p hp y hy => by injection hp with hp; subst hp; exact (List.pairwise_cons.1 a2).1 y hy⟩
theorem pinE_ok {l : List Rn} : pinE l = 0 ↔ PinsOk l := by
  unfold pinE
  by_cases h : 16 < l.length
  · rw [if_pos h]
    exact ⟨fun h => (by cases h), fun hk => by have := hk.len; omega⟩
  · rw [if_neg h, pinGo_ok]
    exact ⟨fun ⟨a, b, _⟩ => ⟨by omega, a, b⟩, fun ⟨_, a, b⟩ => ⟨a, b, by simp⟩⟩
def thereB (x : Int) : Bool := decide (0 ≤ x) && decide (x < 256)
set_option maxHeartbeats 400000 in
theorem pthere_any (x : Int) (w : World) : Calls Tryz.prog 88 #[.int .i64 x] w fun e w' => e = .returned (.bool (thereB x)) ∧ w' = w := by
  unfold thereB
  by_cases h0 : 0 ≤ x
  · have g0 : decide (0 ≤ x) = true := decide_eq_true h0
    have g0' : decide (x ≥ 0) = true := decide_eq_true h0
    rw [g0]
    go_enter Tryz.func88, Tryz.ntmps88
    go_wp2
    go_ret
    exact ⟨by first | rfl | simp, rfl⟩
  · have g0 : decide (0 ≤ x) = false := decide_eq_false h0
    have g0' : decide (x ≥ 0) = false := decide_eq_false h0
    rw [g0]
    go_enter Tryz.func88, Tryz.ntmps88
    go_wp2
    go_ret
    exact ⟨by first | rfl | simp, rfl⟩
set_option maxRecDepth 100000 in
set_option maxHeartbeats 2000000 in
theorem pcheck_any (A : Option Addr) (n c : Nat) (l : List Rn) (w : World) (hr : Reads w w.heap.size 2 A n (runsC l)) (hn : n ≤ 9223372036854775807) :
    Calls Tryz.prog 55 #[.slice A n c] w fun e w' => e = .returned (.int .i64 (pinE l)) ∧ Below w.heap.size w w' := by
  have hl : l.length = n := by have := hr.1; rw [runsC_length] at this; omega
  by_cases hbig : 16 < n
  · have e : pinE l = 2 := by unfold pinE; rw [if_pos (by omega)]
    have g1 : decide (16 < n) = true := decide_eq_true hbig
    have g1' : decide ((16 : Int) < (n : Int)) = true := decide_eq_true (by omega)
    rw [e]
    clear hl e
    go_enter Tryz.func55, Tryz.ntmps55
    go_wp2
    go_ret
    exact ⟨rfl, Below.refl _ _⟩
  · have g1 : decide (16 < n) = false := decide_eq_false hbig
    have g1' : decide ((16 : Int) < (n : Int)) = false := decide_eq_false (by omega)
    have HE : Hid (pinE l = pinGo none l) := by show _ = _; unfold pinE; rw [if_neg (by omega)]
    have HL := Lib.hid hl
    have HT := Lib.hid pthere_any
    clear hl
    go_enter Tryz.func55, Tryz.ntmps55
    go_wp2
    go_loopw [10] (fun i wr => ∃ (j : Nat) (pv : Option Int), j ≤ n ∧ i = .int .i64 j ∧ Hid (pinGo none l = pinGo pv (l.drop j)) ∧ Hid (pv = if j = 0 then none else (l[j - 1]?).map (·.loc)) ∧ Below w.heap.size w wr) (fun i _ => n - (intOf i).toNat)
    case atStart => exact ⟨0, none, Nat.zero_le _, rfl, rfl, rfl, Below.refl _ _⟩
    case round =>
      obtain ⟨j, pv, hj, rfl, HG, HP, hb⟩ := hrel
      by_cases hlt : j < n
      · obtain ⟨ad, x, rfl, had, hx, c0, c1⟩ := (hr.below hb).run hlt
        have hd : l.drop j = x :: l.drop (j + 1) := by
          obtain ⟨q1, q2⟩ := List.getElem?_eq_some_iff.1 hx
          rw [List.drop_eq_getElem_cons q1, q2]
        have hG := HG.out
        rw [hd, pinGo] at hG
        have hj1 : j + 1 ≤ n := hlt
        obtain ⟨loc, len⟩ := x
        dsimp only at c0 c1
        have hbx := hb.alloc hb.size (.cells #[.int .i64 loc, .int .i64 len] 57)
        have D0 := Blk.new wr 57 #[.int .i64 loc, .int .i64 len]
        have d0 := D0.cell 0
        have d1 := D0.cell 1
        simp only [List.getElem?_toArray, List.getElem?_cons_zero, List.getElem?_cons_succ] at d0 d1
        cases hth : thereB loc
        · have HT1 := Lib.hid (by have := HT.out loc (wr.alloc (.cells #[.int .i64 loc, .int .i64 len] 57)); rw [hth] at this; exact this)
          have HR : Hid (pinE l = 4) := by show _ = _; rw [HE.out, hG, if_pos (by unfold thereB at hth; simp [pinBad, hth])]
          clear hx hG hd hth
          go_wp2_with fail
          refine HT1.out.mono ?_
          rintro e w1 ⟨rfl, rfl⟩
          go_wp2
          go_ret
          exact ⟨by rw [HR.out]; rfl, hbx⟩
        · have HT1 := Lib.hid (by have := HT.out loc (wr.alloc (.cells #[.int .i64 loc, .int .i64 len] 57)); rw [hth] at this; exact this)
          by_cases h1 : len < 1
          · have z1 : decide (len < 1) = true := decide_eq_true h1
            have HR : Hid (pinE l = 4) := by show _ = _; rw [HE.out, hG, if_pos (by simp [pinBad, z1])]
            clear hx hG hd hth
            go_wp2_with fail
            refine HT1.out.mono ?_
            rintro e w1 ⟨rfl, rfl⟩
            go_wp2
            go_ret
            exact ⟨by rw [HR.out]; rfl, hbx⟩
          · have z1 : decide (len < 1) = false := decide_eq_false h1
            by_cases h2 : 1000000 < len
            · have z2 : decide (1000000 < len) = true := decide_eq_true h2
              have HR : Hid (pinE l = 4) := by show _ = _; rw [HE.out, hG, if_pos (by simp [pinBad, z2])]
              clear hx hG hd hth
              go_wp2_with fail
              refine HT1.out.mono ?_
              rintro e w1 ⟨rfl, rfl⟩
              go_wp2
              go_ret
              exact ⟨by rw [HR.out]; rfl, hbx⟩
            · have z2 : decide (1000000 < len) = false := decide_eq_false h2
              rw [if_neg (by unfold thereB at hth; simp [pinBad, z1, z2, hth])] at hG
              have HX := Lib.hid hx
              by_cases hj0 : j = 0
              · have hpv : pv = none := by have := HP.out; rw [if_pos hj0] at this; exact this
                subst hpv
                have z3 : decide ((0 : Int) < (j : Int)) = false := decide_eq_false (by omega)
                have z3' : decide (0 < j) = false := decide_eq_false (by omega)
                have HG2 : Hid (pinGo none l = pinGo (some loc) (l.drop (j + 1))) := by show _ = _; rw [hG]; simp
                have HP2 : Hid (some loc = if (j + 1 : Nat) = 0 then none else (l[j + 1 - 1]?).map (·.loc)) := by show _ = _; rw [if_neg (by omega), show (j + 1 - 1 : Nat) = j by omega, hx]; rfl
                clear hx hG hd hth hj0
                go_wp2_with fail
                refine HT1.out.mono ?_
                rintro e w1 ⟨rfl, rfl⟩
                go_wp2
                go_quiet (fail)
                go_wp2
                go_roundw
                case rel => exact ⟨j + 1, some loc, hj1, by go_num, HG2, HP2, below_drewN hbx _⟩
                case measure => simp [intOf]; omega
              · obtain ⟨k, rfl⟩ : ∃ k, j = k + 1 := ⟨j - 1, by omega⟩
                obtain ⟨ad2, y, e2, had2, hy, c2, c3⟩ := (hr.below hb).run (show k < n by omega)
                obtain rfl : ad = ad2 := by injection e2
                have hpv : pv = some y.loc := by have := HP.out; rw [if_neg (by omega), show k + 1 - 1 = k by omega, hy] at this; exact this
                subst hpv
                have wk : IntKind.i64.wrap ((k : Int) + 1 - 1) = k := by rw [show (k : Int) + 1 - 1 = k by omega]; exact IntWalk.i64_in _ (by omega)
                have wk2 : (k : Int) + 1 - 1 = k := by omega
                have wk3 : IntKind.i64.wrap (k : Int) = k := IntWalk.i64_in _ (by omega)
                have z3 : decide ((0 : Int) < (k : Int) + 1) = true := decide_eq_true (by omega)
                have z4 : (0 : Int) < (k : Int) + 1 := by omega
                have hkn : k < n := by omega
                have hkn' : (k : Int) < n := by omega
                have c2' := (hbx.cell (p := ad.add (k * 2)) (by unfold Addr.add; split <;> exact Nat.lt_of_lt_of_le had (Nat.le_refl _)))
                have e2' : (wr.alloc (.cells #[.int .i64 loc, .int .i64 len] 57)).cell? (ad.add (k * 2)) = some (.int .i64 y.loc) := by
                  rw [World.cell?_alloc_lt wr _ _ (by have := hb.size; unfold Addr.add; split <;> (first | omega | (dsimp only; omega)))]
                  exact c2
                obtain ⟨yl, yn⟩ := y
                try dsimp only at c2
                try dsimp only at c3
                try dsimp only at e2'
                try dsimp only at hG
                by_cases hge : loc ≤ yl
                · have z5 : decide (loc ≤ yl) = true := decide_eq_true hge
                  have HR : Hid (pinE l = 3) := by show _ = _; rw [HE.out, hG, if_pos (by simpa using hge)]
                  clear hx hG hd hth hy c2' HP
                  go_wp2_with fail
                  refine HT1.out.mono ?_
                  rintro e w1 ⟨rfl, rfl⟩
                  go_wp2
                  go_quiet (fail)
                  go_wp2
                  go_ret
                  exact ⟨by rw [HR.out]; rfl, below_drewN hbx _⟩
                · have z5 : decide (loc ≤ yl) = false := decide_eq_false hge
                  have HG2 : Hid (pinGo none l = pinGo (some loc) (l.drop (k + 1 + 1))) := by show _ = _; rw [hG, if_neg (by simpa using hge)]
                  have HP2 : Hid (some loc = if k + 1 + 1 = 0 then none else (l[k + 1 + 1 - 1]?).map (·.loc)) := by show _ = _; rw [if_neg (by omega), show k + 1 + 1 - 1 = k + 1 by omega, hx]; rfl
                  clear hx hG hd hth hy c2' HP
                  go_wp2_with fail
                  refine HT1.out.mono ?_
                  rintro e w1 ⟨rfl, rfl⟩
                  go_wp2
                  go_quiet (fail)
                  go_wp2
                  go_roundw
                  case rel => exact ⟨k + 1 + 1, some loc, hj1, by go_num, HG2, HP2, below_drewN hbx _⟩
                  case measure => simp [intOf]; omega
      · have hjn : j = n := by omega
        have HR : Hid (pinE l = 0) := by
          show _ = _
          rw [HE.out, HG.out, hjn, List.drop_of_length_le (by rw [HL.out]; exact Nat.le_refl _)]
          rfl
        have g0 : decide (j < n) = false := decide_eq_false hlt
        clear hjn HG HP
        go_wp2
        go_ret
        exact ⟨by rw [HR.out]; rfl, hb⟩
end Go.Proofs.YtbmkbnalembbjaaGreatDoor

namespace Go.Proofs.YtbmkbnalembbjaaGreatDoor
open Go.RowKit
def isBeg (x : Int) (s : Spot) : Bool := !s.f && (s.loc == x)
def begsL (S : List Spot) : List Int := (S.filter fun s => !s.f).map (·.loc)
def spotAt (S : List Spot) (x : Int) : Option Spot := S.find? (isBeg x)
def headC (s : Spot) : Value := .agg #[.int .i64 s.r, .int .i64 s.b, .int .i64 s.t, .bool s.f]
def headF (S : List Spot) : Int → Option Value := fun x => (spotAt S x).map headC
def linksL (a : List Int) (s : Spot) : List Int := ((refsOf a s).filter fun v => v != 0).map fun v => v - 1
def linksAt (a : List Int) (S : List Spot) (x : Int) : List Int := match spotAt S x with | some s => linksL a s | none => []
theorem spotAt_some {S : List Spot} {x : Int} {s : Spot} (h : spotAt S x = some s) : s ∈ S ∧ s.f = false ∧ s.loc = x := by
  have h1 := List.find?_some h
  have h2 := List.mem_of_find?_eq_some h
  simp only [isBeg, Bool.and_eq_true, Bool.not_eq_true', beq_iff_eq] at h1
  exact ⟨h2, h1.1, h1.2⟩
theorem begsL_iff {S : List Spot} {x : Int} : x ∈ begsL S ↔ ∃ s, spotAt S x = some s := by
  unfold begsL spotAt
  rw [List.mem_map]
  constructor
  · rintro ⟨s, hs, rfl⟩
    obtain ⟨h1, h2⟩ := List.mem_filter.1 hs
    cases h : S.find? (isBeg s.loc) with
    | some s' => exact ⟨s', rfl⟩
    | none =>
      have := List.find?_eq_none.1 h s h1
      simp only [isBeg, h2, beq_self_eq_true, Bool.and_self, not_true] at this
  · rintro ⟨s, hs⟩
    obtain ⟨h1, h2, h3⟩ := spotAt_some hs
    exact ⟨s, List.mem_filter.2 ⟨h1, by simp [h2]⟩, h3⟩
theorem headF_isSome {S : List Spot} {x : Int} : (headF S x).isSome = true ↔ x ∈ begsL S := by
  rw [begsL_iff]
  unfold headF
  cases spotAt S x <;> simp
theorem begsL_snoc (l : List Spot) (s : Spot) : begsL (l ++ [s]) = if s.f = true then begsL l else begsL l ++ [s.loc] := by
  unfold begsL
  rw [List.filter_append, List.map_append]
  cases h : s.f <;> simp [h]
theorem headF_free {l : List Spot} {s : Spot} (h : s.f = true) : headF (l ++ [s]) = headF l := by
  funext x
  unfold headF spotAt
  rw [List.find?_append]
  have : List.find? (isBeg x) [s] = none := by simp [isBeg, h]
  rw [this]
  simp
theorem headF_snoc {l : List Spot} {s : Spot} (h : s.f = false) (hl : ∀ x ∈ l, x.loc < s.loc) : headF (l ++ [s]) = upd (headF l) s.loc (headC s) := by
  funext x
  unfold headF spotAt upd
  rw [List.find?_append]
  by_cases hx : x = s.loc
  · subst hx
    have h1 : List.find? (isBeg s.loc) l = none := by
      rw [List.find?_eq_none]
      intro y hy
      have := hl y hy
      simp [isBeg]
      intro _
      omega
    rw [h1, if_pos rfl]
    simp [isBeg, h]
  · rw [if_neg hx]
    have h1 : List.find? (isBeg x) [s] = none := by simp [isBeg]; intro _; omega
    rw [h1]
    simp
theorem begsL_bounds {a : List Int} (h : spotsE a = 0) : ∀ x ∈ begsL (spotsL a), 0 ≤ x ∧ x < 256 := by
  intro x hx
  obtain ⟨s, hs⟩ := begsL_iff.1 hx
  obtain ⟨h1, -, rfl⟩ := spotAt_some hs
  obtain ⟨hlen, hp⟩ := parse_ok h
  have := (parse_mem hp s h1).1
  have e1 := this.loc0
  have e2 := this.fits
  have e3 := this.r0
  have e4 := this.b0
  unfold Spot.long at e2
  omega
theorem placeF_some {l : List Spot} {v : Int} (h : (placeF l v).isSome = true) : v = 0 ∨ v - 1 ∈ begsL l := by
  unfold placeF at h
  by_cases h0 : v = 0
  · exact .inl h0
  · rw [if_neg h0] at h
    right
    cases hf : l.findIdx? (isPlace v) with
    | none => rw [hf] at h; cases h
    | some i =>
      obtain ⟨h1, h2, -⟩ := List.findIdx?_eq_some_iff_getElem.1 hf
      unfold begsL
      refine List.mem_map.2 ⟨l[i], List.mem_filter.2 ⟨List.getElem_mem h1, ?_⟩, ?_⟩
      · simp only [isPlace, Bool.and_eq_true] at h2; exact h2.1
      · simp only [isPlace, Bool.and_eq_true, beq_iff_eq] at h2; omega
theorem links_begs {a : List Int} (h : checkE a = 0) {s : Spot} (hs : s ∈ spotsL a) : ∀ y ∈ linksL a s, y ∈ begsL (spotsL a) := by
  intro y hy
  obtain ⟨v, hv, rfl⟩ := List.mem_map.1 hy
  obtain ⟨h1, h2⟩ := List.mem_filter.1 hv
  have h3 := List.all_eq_true.1 (List.all_eq_true.1 (checkE_ok.1 h).2 s hs) v h1
  rcases placeF_some h3 with h4 | h4
  · simp [h4] at h2
  · exact h4
theorem linksAt_begs {a : List Int} (h : checkE a = 0) (x : Int) : ∀ y ∈ linksAt a (spotsL a) x, y ∈ begsL (spotsL a) := by
  intro y hy
  unfold linksAt at hy
  split at hy
  · rename_i s hs
    exact links_begs h (spotAt_some hs).1 y hy
  · cases hy
structure Reached (a : List Int) (S : List Spot) (from_ L : List Int) : Prop where
  begs : ∀ x ∈ L, x ∈ begsL S
  roots : ∀ x ∈ from_, x ∈ L
  closed : ∀ x ∈ L, ∀ y ∈ linksAt a S x, y ∈ L
  least : ∀ X : Int → Prop, (∀ x ∈ from_, X x) → (∀ x, X x → ∀ y ∈ linksAt a S x, X y) → ∀ x ∈ L, X x
  sorted : L.Pairwise (fun x y => x ≤ y)
  once : L.Nodup
theorem sorted_unique : ∀ {L L' : List Int}, L.Pairwise (fun x y => x ≤ y) → L.Nodup → L'.Pairwise (fun x y => x ≤ y) → L'.Nodup → (∀ x, x ∈ L ↔ x ∈ L') → L = L'
  | [], [], _, _, _, _, _ => rfl
  | [], y :: t, _, _, _, _, h => by have := (h y).2 List.mem_cons_self; cases this
  | x :: t, [], _, _, _, _, h => by have := (h x).1 List.mem_cons_self; cases this
  | x :: t, y :: t', h1, h2, h3, h4, h => by
    obtain ⟨a1, a2⟩ := List.pairwise_cons.1 h1
    obtain ⟨b1, b2⟩ := List.nodup_cons.1 h2
    obtain ⟨c1, c2⟩ := List.pairwise_cons.1 h3
    obtain ⟨d1, d2⟩ := List.nodup_cons.1 h4
    have hxy : x = y := by
      have e1 : x ≤ y := by
        rcases List.mem_cons.1 ((h y).2 List.mem_cons_self) with e | e
        · omega
        · exact a1 y e
      have e2 : y ≤ x := by
        rcases List.mem_cons.1 ((h x).1 List.mem_cons_self) with e | e
        · omega
        · exact c1 x e
      omega
    subst hxy
    rw [sorted_unique a2 b2 c2 d2 (fun z => by
      constructor
      · intro hz
        rcases List.mem_cons.1 ((h z).1 (List.mem_cons_of_mem _ hz)) with e | e
        · subst e; exact absurd hz b1
        · exact e
      · intro hz
        rcases List.mem_cons.1 ((h z).2 (List.mem_cons_of_mem _ hz)) with e | e
        · subst e; exact absurd hz d1
        · exact e)]
theorem Reached.unique {a : List Int} {S : List Spot} {f L L' : List Int} (h : Reached a S f L) (h' : Reached a S f L') : L = L' :=
  sorted_unique h.sorted h.once h'.sorted h'.once (fun x => ⟨fun hx => h.least (· ∈ L') h'.roots h'.closed x hx, fun hx => h'.least (· ∈ L) h.roots h.closed x hx⟩)
theorem nodup_bound : ∀ (n : Nat) (L : List Int), L.Nodup → (∀ x ∈ L, 0 ≤ x ∧ x < n) → L.length ≤ n
  | 0, [], _, _ => Nat.le_refl _
  | 0, x :: _, _, h => by have := h x List.mem_cons_self; omega
  | n + 1, L, hn, h => by
    have h1 := nodup_bound n (L.erase (n : Int)) (hn.erase _) (fun x hx => by
      have h2 := h x (List.mem_of_mem_erase hx)
      have h3 : x ≠ (n : Int) := fun e => by subst e; exact absurd hx (hn.not_mem_erase)
      omega)
    have h4 := List.length_erase (a := (n : Int)) (l := L)
    split at h4 <;> omega
structure Search (a : List Int) (S : List Spot) (from_ out : List Int) (i : Nat) : Prop where
  begs : ∀ x ∈ out, x ∈ begsL S
  once : out.Nodup
  least : ∀ X : Int → Prop, (∀ x ∈ from_, X x) → (∀ x, X x → ∀ y ∈ linksAt a S x, X y) → ∀ x ∈ out, X x
  seen : ∀ k x, k < i → out[k]? = some x → ∀ y ∈ linksAt a S x, y ∈ out
def addL (out : List Int) (x : Int) : List Int := if x ∈ out then out else out ++ [x]
theorem addL_sub (out : List Int) (x : Int) : (∀ y ∈ out, y ∈ addL out x) ∧ x ∈ addL out x := by
  unfold addL
  split
  · rename_i h; exact ⟨fun y hy => hy, h⟩
  · exact ⟨fun y hy => List.mem_append_left _ hy, by simp⟩
theorem addL_mem {out : List Int} {x y : Int} (h : y ∈ addL out x) : y ∈ out ∨ y = x := by
  unfold addL at h
  split at h
  · exact .inl h
  · simpa using h
theorem addL_get {out : List Int} {x y : Int} {k : Nat} (hk : k < out.length) (h : (addL out x)[k]? = some y) : out[k]? = some y := by
  unfold addL at h
  split at h
  · exact h
  · rwa [List.getElem?_append_left hk] at h
theorem addL_nodup {out : List Int} {x : Int} (h : out.Nodup) : (addL out x).Nodup := by
  unfold addL
  split
  · exact h
  · rename_i hx
    exact List.nodup_append.2 ⟨h, by simp, by rintro a ha b hb rfl; simp at hb; subst hb; exact hx ha⟩
theorem addL_len (out : List Int) (x : Int) : out.length ≤ (addL out x).length := by unfold addL; split <;> simp
theorem Search.nil (a : List Int) (S : List Spot) (f : List Int) : Search a S f [] 0 := ⟨by simp, by simp, by simp, by simp⟩
theorem Search.add {a : List Int} {S : List Spot} {f out : List Int} {i : Nat} (h : Search a S f out i) (hi : i ≤ out.length) {x : Int} (hx : x ∈ begsL S)
    (hl : ∀ X : Int → Prop, (∀ x ∈ f, X x) → (∀ x, X x → ∀ y ∈ linksAt a S x, X y) → X x) : Search a S f (addL out x) i := by
  obtain ⟨s1, s2⟩ := addL_sub out x
  refine ⟨fun y hy => ?_, addL_nodup h.once, fun X hX hc y hy => ?_, fun k y hk hy z hz => s1 z (h.seen k y hk (addL_get (by omega) hy) z hz)⟩
  · rcases addL_mem hy with h1 | rfl
    · exact h.begs y h1
    · exact hx
  · rcases addL_mem hy with h1 | rfl
    · exact h.least X hX hc y h1
    · exact hl X hX hc
theorem Search.len {a : List Int} {f out : List Int} {i : Nat} (h : Search a (spotsL a) f out i) (ha : spotsE a = 0) : out.length ≤ 256 :=
  nodup_bound 256 out h.once (fun x hx => begsL_bounds ha x (h.begs x hx))
end Go.Proofs.YtbmkbnalembbjaaGreatDoor

namespace Go.Proofs.YtbmkbnalembbjaaGreatDoor
open Go.RowKit
set_option maxHeartbeats 400000 in
theorem hlong_any (r b t : Int) (f : Bool) (w : World) (h : 0 ≤ r ∧ r ≤ 100000 ∧ 0 ≤ b ∧ b ≤ 100000) :
    Calls Tryz.prog 64 #[.agg #[.int .i64 r, .int .i64 b, .int .i64 t, .bool f]] w fun e w' => e = .returned (.int .i64 (1 + r + b)) ∧ Below w.heap.size w w' := by
  obtain ⟨h1, h2, h3, h4⟩ := h
  go_enter Tryz.func64, Tryz.ntmps64
  go_wp2
  go_ret
  exact ⟨rfl, below_new _ _⟩
set_option maxHeartbeats 1000000 in
theorem hcheck_any (r b t : Int) (f : Bool) (w : World) :
    Calls Tryz.prog 34 #[.agg #[.int .i64 r, .int .i64 b, .int .i64 t, .bool f]] w fun e w' => e = .returned (.int .i64 (headE r b t f)) ∧ Below w.heap.size w w' := by
  by_cases hr : r < 0 ∨ b < 0 ∨ t < 0 ∨ 256 < r ∨ 256 < b ∨ 65535 < t
  · have HE : Hid (headE r b t f = 4) := by show _ = _; unfold headE; rw [if_pos hr]
    go_enter Tryz.func34, Tryz.ntmps34
    go_wp2_with fail
    all_goals
      go_ret
      exact ⟨ret_int HE.out.symm, below_new _ _⟩
  · have g1 : 0 ≤ r := by omega
    have g2 : 0 ≤ b := by omega
    have g3 : 0 ≤ t := by omega
    have g4 : r ≤ 256 := by omega
    have g5 : b ≤ 256 := by omega
    have g6 : t ≤ 65535 := by omega
    by_cases hf : f = true ∧ (0 < r ∨ 0 < t)
    · have HE : Hid (headE r b t f = 3) := by show _ = _; unfold headE; rw [if_neg hr, if_pos hf]
      obtain ⟨rfl, hf⟩ := hf
      clear hr
      rcases hf with hf | hf
      all_goals
        go_enter Tryz.func34, Tryz.ntmps34
        go_wp2_with fail
        all_goals
          go_ret
          exact ⟨ret_int HE.out.symm, below_new _ _⟩
    · have hf2 : f = false ∨ (f = true ∧ r = 0 ∧ t = 0) := by
        cases f
        · exact .inl rfl
        · exact .inr ⟨rfl, by simp at hf; omega⟩
      by_cases hl : 256 < 1 + r + b
      · have HE : Hid (headE r b t f = 2) := by show _ = _; unfold headE; rw [if_neg hr, if_neg hf, if_pos hl]
        clear hr hf
        rcases hf2 with rfl | ⟨rfl, rfl, rfl⟩
        all_goals
          go_enter Tryz.func34, Tryz.ntmps34
          go_wp2_with (go_at_call 64; refine (hlong_any _ _ _ _ _ (by omega)).mono ?_; rintro e w1 ⟨rfl, hb1⟩)
          all_goals
            go_ret
            exact ⟨ret_int HE.out.symm, below_step (below_new _ _) hb1⟩
      · have HE : Hid (headE r b t f = 0) := by show _ = _; unfold headE; rw [if_neg hr, if_neg hf, if_neg hl]
        clear hr hf
        rcases hf2 with rfl | ⟨rfl, rfl, rfl⟩
        all_goals
          go_enter Tryz.func34, Tryz.ntmps34
          go_wp2_with (go_at_call 64; refine (hlong_any _ _ _ _ _ (by omega)).mono ?_; rintro e w1 ⟨rfl, hb1⟩)
          all_goals
            go_ret
            exact ⟨ret_int HE.out.symm, below_step (below_new _ _) hb1⟩
set_option maxHeartbeats 400000 in
theorem hword_ok (r b t : Int) (f : Bool) (w : World) (hE : headE r b t f = 0) :
    Calls Tryz.prog 62 #[.agg #[.int .i64 r, .int .i64 b, .int .i64 t, .bool f]] w fun e w' => e = .returned (.tuple #[.int .u64 (wordOf r b t f), .int .i64 0]) ∧ Below w.heap.size w w' := by
  obtain ⟨h1, h2, h3, h4, h5, h6, h7, h8⟩ := headE_ok.1 hE
  have HE := Lib.hid hE
  have HF := Lib.hid h8
  clear hE h8
  have o1 := bor_join 16 (b * 65536) r (by omega) (by omega) (by omega) (by omega) (by omega) (by omega)
  have o2 := bor_join 32 (t * 4294967296) (r + b * 65536) (by omega) (by omega) (by omega) (by omega) (by omega) (by omega)
  have o3 := bor_join 48 281474976710656 (r + b * 65536 + t * 4294967296) (by omega) (by omega) (by omega) (by omega) (by omega) (by omega)
  cases f
  all_goals
    go_enter Tryz.func62, Tryz.ntmps62
    go_wp2_with (go_at_call 34; refine (hcheck_any _ _ _ _ _).mono ?_; rw [HE.out]; rintro e w1 ⟨rfl, hb1⟩; obtain ⟨hc1, hf1⟩ := bcell hb1)
    go_ret2
    exact ⟨by simp [wordOf], below_step (below_new _ _) hb1⟩
set_option maxHeartbeats 400000 in
theorem hlongc_ok (r b t : Int) (f : Bool) (w : World) (hE : headE r b t f = 0) :
    Calls Tryz.prog 65 #[.agg #[.int .i64 r, .int .i64 b, .int .i64 t, .bool f]] w fun e w' => e = .returned (.tuple #[.int .i64 (1 + r + b), .int .i64 0]) ∧ Below w.heap.size w w' := by
  obtain ⟨h1, h2, h3, h4, h5, h6, h7, h8⟩ := headE_ok.1 hE
  have HE := Lib.hid hE
  clear hE h8
  go_enter Tryz.func65, Tryz.ntmps65
  go_wp2_with (first
    | (go_at_call 34; refine (hcheck_any _ _ _ _ _).mono ?_; rw [HE.out]; rintro e w1 ⟨rfl, hb1⟩; obtain ⟨hc1, hf1⟩ := bcell hb1)
    | (go_at_call 64; refine (hlong_any _ _ _ _ _ (by omega)).mono ?_; rintro e w2 ⟨rfl, hb2⟩))
  go_ret2
  exact ⟨rfl, below_step (below_step (below_new _ _) hb1) hb2⟩
theorem hread_ok (v : Int) (w : World) (v0 : 0 ≤ v) (v1 : v < 18446744073709551616) (hok : readOk v) :
    Calls Tryz.prog 140 #[.int .u64 v] w fun e w' => e = .returned (.tuple #[.agg #[.int .i64 (rdR v), .int .i64 (rdB v), .int .i64 (rdT v), .bool (rdF v)], .int .i64 0]) ∧ Below w.heap.size w w' := by
  obtain ⟨hz, hE⟩ := hok
  have H := fun w => hcheck_any (rdR v) (rdB v) (rdT v) (rdF v) w
  rw [hE] at H
  have HH := Lib.hid H
  clear H hE
  have e1 : bits .and .u64 v 65535 = rdR v := band16 v v0 v1
  have e2 : bits .and .u64 (v / 65536) 65535 = rdB v := band16 (v / 65536) (by omega) (by omega)
  have e3 : bits .and .u64 (v / 4294967296) 65535 = rdT v := band16 (v / 4294967296) (by omega) (by omega)
  have e4 : (bits .and .u64 v 281474976710656 != 0) = rdF v := by
    rw [band48 v v0 v1]
    unfold rdF
    rw [Bool.eq_iff_iff]
    simp
    omega
  have b1 : 0 ≤ rdR v := by unfold rdR; omega
  have b2 : rdR v < 65536 := by unfold rdR; omega
  have b3 : 0 ≤ rdB v := by unfold rdB; omega
  have b4 : rdB v < 65536 := by unfold rdB; omega
  have b5 : 0 ≤ rdT v := by unfold rdT; omega
  have b6 : rdT v < 65536 := by unfold rdT; omega
  generalize rdR v = r at *
  generalize rdB v = b at *
  generalize rdT v = t at *
  generalize rdF v = f at *
  go_enter Tryz.func140, Tryz.ntmps140
  go_wp2_with (go_at_call 34; refine (HH.out _).mono ?_; rintro e w1 ⟨rfl, hb1⟩; obtain ⟨hc1, hf1⟩ := bcell hb1)
  have HB : Blk w1 w.heap.size 50 #[.int .i64 0, .int .i64 0, .int .i64 0, .bool false] := ((Blk.new _ _ _).alloc _).below hb1 (by simp only [World.size_alloc]; omega)
  have k0 := HB.cell 0
  have k1 := HB.cell 1
  have k2 := HB.cell 2
  have k3 := HB.cell 3
  simp at k0 k1 k2 k3
  have hb3 := below_step (below_step (below_new _ _) (below_new _ _)) hb1
  refine bodyPost_ret (v := .tuple #[.agg #[.int .i64 r, .int .i64 b, .int .i64 t, .bool f], .int .i64 0]) ?_ rfl ⟨rfl, ?_⟩
  · (simp only [results, Tryz.results140]; go_simp)
  · repeat (first | exact hb3 | refine Below.setCell ?_ (by simp) _)
theorem hread_bad (v : Int) (w : World) (v0 : 0 ≤ v) (v1 : v < 18446744073709551616) (hbad : ¬ readOk v) :
    Calls Tryz.prog 140 #[.int .u64 v] w fun e w' => e = .returned (.tuple #[.agg #[.int .i64 0, .int .i64 0, .int .i64 0, .bool false], .int .i64 3]) ∧ Below w.heap.size w w' := by
  have H := fun w => hcheck_any (rdR v) (rdB v) (rdT v) (rdF v) w
  have HH := Lib.hid H
  clear H
  have hb : ¬ v / 562949953421312 = 0 ∨ (v / 562949953421312 = 0 ∧ headE (rdR v) (rdB v) (rdT v) (rdF v) ≠ 0) := by
    unfold readOk at hbad
    by_cases h : v / 562949953421312 = 0
    · exact .inr ⟨h, fun h2 => hbad ⟨h, h2⟩⟩
    · exact .inl h
  clear hbad
  have e1 : bits .and .u64 v 65535 = rdR v := band16 v v0 v1
  have e2 : bits .and .u64 (v / 65536) 65535 = rdB v := band16 (v / 65536) (by omega) (by omega)
  have e3 : bits .and .u64 (v / 4294967296) 65535 = rdT v := band16 (v / 4294967296) (by omega) (by omega)
  have e4 : (bits .and .u64 v 281474976710656 != 0) = rdF v := by
    rw [band48 v v0 v1]
    unfold rdF
    rw [Bool.eq_iff_iff]
    simp
    omega
  have b1 : 0 ≤ rdR v := by unfold rdR; omega
  have b2 : rdR v < 65536 := by unfold rdR; omega
  have b3 : 0 ≤ rdB v := by unfold rdB; omega
  have b4 : rdB v < 65536 := by unfold rdB; omega
  have b5 : 0 ≤ rdT v := by unfold rdT; omega
  have b6 : rdT v < 65536 := by unfold rdT; omega
  generalize headE (rdR v) (rdB v) (rdT v) (rdF v) = E at *
  generalize rdR v = r at *
  generalize rdB v = b at *
  generalize rdT v = t at *
  generalize rdF v = f at *
  rcases hb with hz | ⟨hz, hE⟩
  · go_enter Tryz.func140, Tryz.ntmps140
    go_wp2_with fail
    refine bodyPost_ret (v := .tuple #[.agg #[.int .i64 0, .int .i64 0, .int .i64 0, .bool false], .int .i64 3]) ?_ rfl ⟨rfl, ?_⟩
    · simp [results, Tryz.results140, go_sem]
    · repeat (first | exact below_step (below_new _ _) (below_new _ _) | refine Below.setCell ?_ (by simp) _)
  · have hE1 : (E != 0) = true := by simpa using hE
    have hE2 : (E == 0) = false := by simpa using hE
    go_enter Tryz.func140, Tryz.ntmps140
    go_wp2_with (go_at_call 34; refine (HH.out _).mono ?_; rintro e w1 ⟨rfl, hb1⟩; obtain ⟨hc1, hf1⟩ := bcell hb1)
    have HB : Blk w1 w.heap.size 50 #[.int .i64 0, .int .i64 0, .int .i64 0, .bool false] := ((Blk.new _ _ _).alloc _).below hb1 (by simp only [World.size_alloc]; omega)
    have k0 := HB.cell 0
    have k1 := HB.cell 1
    have k2 := HB.cell 2
    have k3 := HB.cell 3
    simp at k0 k1 k2 k3
    have hb3 := below_step (below_step (below_new _ _) (below_new _ _)) hb1
    refine bodyPost_ret (v := .tuple #[.agg #[.int .i64 0, .int .i64 0, .int .i64 0, .bool false], .int .i64 3]) ?_ rfl ⟨rfl, ?_⟩
    · (simp only [results, Tryz.results140]; go_simp)
    · repeat (first | exact hb3 | refine Below.setCell ?_ (by simp) _)
end Go.Proofs.YtbmkbnalembbjaaGreatDoor

namespace Go.Proofs.YtbmkbnalembbjaaGreatDoor
open Go.RowKit
theorem info_spot : (Tryz.prog.info? 165).map (fun i => (i.zero, i.size, i.bytes)) = some (some (.agg #[.int .i64 0, .int .i64 0, .int .i64 0, .int .i64 0, .bool false]), 5, 40) := by kernel_rfl
set_option maxHeartbeats 400000 in
theorem spots_big (A : Option Addr) (n c : Nat) (w : World) (hn : 256 < n) :
    Calls Tryz.prog 117 #[.slice A n c] w fun e w' => e = .returned (.tuple #[.slice none 0 0, .int .i64 2]) ∧ w = w' := by
  go_enter Tryz.func117, Tryz.ntmps117
  go_wp2
  go_ret2
  exact ⟨rfl, rfl⟩
set_option maxRecDepth 100000 in
set_option maxHeartbeats 1000000 in
theorem spots_small (A : Option Addr) (n c : Nat) (a : List Int) (w : World) (hr : Reads w w.heap.size 1 A n (a.map (.int .u64))) (hn : n ≤ 256) (ha : ∀ x ∈ a, (Lit.int .u64 x).wf = true) :
    Calls Tryz.prog 117 #[.slice A n c] w fun e w' => Below w.heap.size w w' ∧ ∃ A' c', e = .returned (.tuple #[.slice A' (spotsL a).length c', .int .i64 (spotsE a)]) ∧ w'.ownsRow w.heap.size 165 5 (.slice A' (spotsL a).length c') (spotsL a).length (spotsC (spotsL a)) := by
  have hal : a.length = n := by have := hr.1; simpa using this
  have HL := Lib.hid hal
  obtain ⟨i0, hi, hz0, hz1, hz2⟩ := info_parts info_spot
  clear hal
  go_enter Tryz.func117, Tryz.ntmps117
  go_wp2
  go_loopw [4, 5] (fun o i wr => ∃ (j : Nat) (A' : Option Addr) (k c' : Nat) (acc : List Spot), j ≤ n ∧ i = .int .i64 j ∧ o = .slice A' k c' ∧ k ≤ j ∧ Hid (k = acc.length) ∧ Hid (spotsAt a 0 = (spotsAt a j).map (acc ++ ·)) ∧ wr.ownsRow w.heap.size 165 5 (.slice A' k c') k (spotsC acc) ∧ Below w.heap.size w wr) (fun _ i _ => n - (intOf i).toNat)
  case atStart => exact ⟨0, none, 0, 0, [], Nat.zero_le _, rfl, rfl, Nat.le_refl _, rfl, by show _ = _; simp, World.ownsRow_nil _ _ _ _, Below.refl _ _⟩
  case round =>
    obtain ⟨j, A', k, c', acc, hj, rfl, rfl, hkj, hk, hS, hown, hb⟩ := hrel
    by_cases hlt : j < n
    · obtain ⟨ad, v, rfl, had, hv, hc⟩ := (hr.below hb).num hlt
      have HV : Hid (a.getD j 0 = v) := by show _ = _; rw [List.getD_eq_getElem?_getD, hv]; rfl
      obtain ⟨v0, v1⟩ : 0 ≤ v ∧ v < 18446744073709551616 := by have := ha v (List.mem_of_getElem? hv); simp [Lit.wf, IntKind.min, IntKind.max, IntKind.signed, IntKind.bits] at this; omega
      clear hv
      by_cases hok : readOk v
      · have hE := headE_ok.1 hok.2
        have HR := Lib.hid (fun w => hread_ok v w v0 v1 hok)
        have HG := Lib.hid (fun w => hlongc_ok (rdR v) (rdB v) (rdT v) (rdF v) w hok.2)
        have HO := Lib.hid hok
        have HH : Hid (((hlen v : Nat) : Int) = 1 + rdR v + rdB v) := by show _ = _; unfold hlen; omega
        have HP : Hid (spotOf j v = ⟨j, rdR v, rdB v, rdT v, rdF v⟩) := rfl
        obtain ⟨r0, r1, b0, b1, t0, t1, l1, _⟩ := hE
        generalize rdR v = r at *
        generalize rdB v = b at *
        generalize rdT v = t at *
        generalize rdF v = f at *
        clear hok
        by_cases hfit : 1 + r + b ≤ (n : Int) - j
        · go_wp2_with fail
          refine (HR.out _).mono ?_
          rintro e w1 ⟨rfl, hb1⟩
          have hown1 := (own_below hown hb1).alloc (.cells #[.int .i64 r, .int .i64 b, .int .i64 t, .bool f] 50)
          have hb01 := hb.trans (hb1.mono hb.size)
          have hb02 := hb01.alloc hb01.size (.cells #[.int .i64 r, .int .i64 b, .int .i64 t, .bool f] 50)
          have hbl := Blk.new w1 50 #[.int .i64 r, .int .i64 b, .int .i64 t, .bool f]
          clear hown hb hb1
          go_wp2_with fail
          refine (HG.out _).mono ?_
          rintro e w2 ⟨rfl, hb2⟩
          have hbl2 := hbl.below hb2 (by simp)
          have k0 := hbl2.cell 0
          have k1 := hbl2.cell 1
          have k2 := hbl2.cell 2
          have k3 := hbl2.cell 3
          simp only [List.getElem?_toArray, List.getElem?_cons_zero, List.getElem?_cons_succ] at k0 k1 k2 k3
          have hown2 := (own_below hown1 hb2).alloc (.cells (spotC ⟨j, r, b, t, f⟩).toArray 165)
          have hb03 := hb02.trans (hb2.mono hb02.size)
          have hb04 := hb03.alloc hb03.size (.cells (spotC ⟨j, r, b, t, f⟩).toArray 165)
          have hnew := reads_new w2 (spotC ⟨j, r, b, t, f⟩) 165 1 5 rfl
          clear hown1 hb01 hb02 hb2 hbl hbl2
          go_wp2_with (at_builtin; refine wpList_append_any _ rfl (.tmp 40) (.tmp 44) 153 rfl w.heap.size 165 i0 _ 5 40 Tryz.underlying153 hi hz0 hz1 hz2 rfl (by decide) (.slice A' k c') k _ rfl hown2 (w2.heap.size + 1) (some ⟨w2.heap.size, 0, none⟩) 1 1 (spotC ⟨j, r, b, t, f⟩) rfl hnew (by simp [spotC, Value.oneCell']) (by simp [maxLen]; omega) (by omega) (by have := hb04.size; exact this) ?_; rintro v' w3 hown3 hgr hbl -; obtain ⟨A'', c'', rfl⟩ := own_slice hown3)
          have hb3 : Below w.heap.size w w3 := hb04.grown hgr hb04.size (fun g hg => (hown2.lt g hg).1)
          have hjl : j + hlen v ≤ n := by have := HH.out; omega
          go_roundw
          case rel => exact ⟨j + hlen v, A'', k + 1, c'', acc ++ [spotOf j v], hjl, by rw [Int.natCast_add, HH.out], rfl, by have := HH.out; omega, by show _ = _; rw [List.length_append, ← hk.out]; rfl, by
            show _ = _
            rw [hS.out, spotsAt_step (by rw [HL.out]; exact hlt) (by rw [HV.out]; exact HO.out) (by rw [HV.out, HL.out]; exact hjl), HV.out, Option.map_map]
            congr 1
            funext x
            simp, by rw [spotsC_snoc, HP.out]; exact hown3, hb3⟩
          case measure => have := HH.out; simp [intOf]; omega
        · have HZ : Hid (spotsAt a 0 = none) := by
            show _ = _
            rw [hS.out, spotsAt_bad (by rw [HL.out]; exact hlt) (by rw [HV.out, HL.out]; rintro ⟨_, h⟩; have := HH.out; omega)]
            rfl
          clear hown hS
          go_wp2_with fail
          refine (HR.out _).mono ?_
          rintro e w1 ⟨rfl, hb1⟩
          have hb01 := hb.trans (hb1.mono hb.size)
          go_wp2_with fail
          refine (HG.out _).mono ?_
          rintro e w2 ⟨rfl, hb2⟩
          go_wp2
          go_ret2
          have he : spotsE a = 3 := by unfold spotsE; rw [if_neg (by rw [HL.out]; omega), if_pos HZ.out]
          have hl : spotsL a = [] := spotsL_bad (by rw [he]; decide)
          rw [he, hl]
          exact ⟨(hb01.alloc hb01.size _).trans (hb2.mono (by have := hb01.size; simp; omega)), none, 0, rfl, World.ownsRow_nil _ _ _ _⟩
      · have HR := Lib.hid (fun w => hread_bad v w v0 v1 hok)
        have HG := Lib.hid (fun w => hlongc_ok 0 0 0 false w (by decide))
        have HZ : Hid (spotsAt a 0 = none) := by
          show _ = _
          rw [hS.out, spotsAt_bad (by rw [HL.out]; exact hlt) (by rw [HV.out]; rintro ⟨h, _⟩; exact hok h)]
          rfl
        clear hown hS hok
        go_wp2_with fail
        refine (HR.out _).mono ?_
        rintro e w1 ⟨rfl, hb1⟩
        have hb01 := hb.trans (hb1.mono hb.size)
        go_wp2_with fail
        refine (HG.out _).mono ?_
        rintro e w2 ⟨rfl, hb2⟩
        go_wp2
        go_ret2
        have he : spotsE a = 3 := by unfold spotsE; rw [if_neg (by rw [HL.out]; omega), if_pos HZ.out]
        have hl : spotsL a = [] := spotsL_bad (by rw [he]; decide)
        rw [he, hl]
        exact ⟨(hb01.alloc hb01.size _).trans (hb2.mono (by have := hb01.size; simp; omega)), none, 0, rfl, World.ownsRow_nil _ _ _ _⟩
    · have hjn : j = n := by omega
      subst hjn
      have HZ : Hid (spotsAt a 0 = some acc) := by
        show _ = _
        rw [hS.out, spotsAt_end (by rw [HL.out]; exact Nat.le_refl _)]
        simp
      clear hS
      go_wp2
      go_ret2
      have he : spotsE a = 0 := by unfold spotsE; rw [if_neg (by rw [HL.out]; omega), if_neg (by rw [HZ.out]; exact fun h => by cases h)]
      have hl : spotsL a = acc := by unfold spotsL; rw [if_neg (by rw [HL.out]; omega), HZ.out]; rfl
      rw [he, hl, ← hk.out]
      exact ⟨hb, A', c', rfl, hown⟩
theorem spots_any (A : Option Addr) (n c : Nat) (a : List Int) (w : World) (hr : Reads w w.heap.size 1 A n (a.map (.int .u64))) (ha : ∀ x ∈ a, (Lit.int .u64 x).wf = true) :
    Calls Tryz.prog 117 #[.slice A n c] w fun e w' => Below w.heap.size w w' ∧ ∃ A' c', e = .returned (.tuple #[.slice A' (spotsL a).length c', .int .i64 (spotsE a)]) ∧ w'.ownsRow w.heap.size 165 5 (.slice A' (spotsL a).length c') (spotsL a).length (spotsC (spotsL a)) := by
  by_cases hn : n ≤ 256
  · exact spots_small A n c a w hr hn ha
  · have hal : a.length = n := by have := hr.1; simpa using this
    refine (spots_big A n c w (by omega)).mono ?_
    rintro e w' ⟨rfl, rfl⟩
    have he : spotsE a = 2 := by unfold spotsE; rw [if_pos (by omega)]
    have hl : spotsL a = [] := spotsL_bad (by rw [he]; decide)
    rw [he, hl]
    exact ⟨Below.refl _ _, none, 0, rfl, World.ownsRow_nil _ _ _ _⟩
end Go.Proofs.YtbmkbnalembbjaaGreatDoor

namespace Go.Proofs.YtbmkbnalembbjaaGreatDoor
open Go.RowKit
def spotV (s : Spot) : Value := .agg #[.int .i64 s.loc, .int .i64 s.r, .int .i64 s.b, .int .i64 s.t, .bool s.f]
set_option maxHeartbeats 400000 in
theorem refs_any (A : Option Addr) (n c B : Nat) (a : List Int) (s : Spot) (w : World) (hr : Reads w B 1 A n (a.map (.int .u64))) (hB : B ≤ w.heap.size) (hc : n ≤ c) (hn : n ≤ 256) (hs : SpotOk a s) :
    Calls Tryz.prog 119 #[.slice A n c, .agg #[.int .i64 s.loc, .int .i64 s.r, .int .i64 s.b, .int .i64 s.t, .bool s.f]] w fun e w' => Below w.heap.size w w' ∧ ∃ A' c', e = .returned (.slice A' s.r.toNat c') ∧ s.r.toNat ≤ c' ∧ Reads w' B 1 A' s.r.toNat ((refsOf a s).map (.int .u64)) := by
  have hal : a.length = n := by have := hr.1; simpa using this
  have l0 := hs.loc0
  have r0 := hs.r0
  have b0 := hs.b0
  have ft := hs.fits
  clear hs
  obtain ⟨loc, r, b, t, f⟩ := s
  simp only [Spot.long] at ft l0 r0 b0 ⊢
  obtain ⟨i, rfl⟩ := Int.eq_ofNat_of_zero_le l0
  obtain ⟨k, rfl⟩ := Int.eq_ofNat_of_zero_le r0
  rw [hal] at ft
  have HS := Lib.hid (hr.sub (lo := i + 1) (hi := i + 1 + k) (by omega) (by omega) hc)
  have hpos : 0 < n := by omega
  obtain ⟨ad, rfl, had, -⟩ := hr.2 hpos
  rw [Int.toNat_natCast]
  have ek : ∀ (A : Option Addr) (c : Nat), Ending.returned (.slice A (i + 1 + k - (i + 1)) c) = .returned (.slice A k c) := fun A c => by rw [show i + 1 + k - (i + 1) = k by omega]
  have EK := Lib.hid ek
  clear ek
  have HR : Hid ((refsOf a ⟨i, k, b, t, f⟩).map (Value.int .u64) = ((a.map (Value.int .u64)).drop (i + 1)).take (i + 1 + k - (i + 1))) := by
    show _ = _
    simp only [refsOf, Int.toNat_natCast, List.map_take, List.map_drop]
    rw [show i + 1 + k - (i + 1) = k by omega]
  have h1 : i + 1 + k ≤ n := by omega
  clear hal hr l0 r0
  by_cases hci : c = i + 1
  · have HS := HS.out
    rw [if_pos hci, ← HR.out, show i + 1 + k - (i + 1) = k by omega] at HS
    have HS := Lib.hid (HS.alloc hB (.cells #[.int .i64 i, .int .i64 k, .int .i64 b, .int .i64 t, .bool f] 165))
    go_enter Tryz.func119, Tryz.ntmps119
    go_wp2
    go_ret
    exact ⟨below_new _ _, _, _, EK.out _ _, by omega, HS.out⟩
  · have HS := HS.out
    rw [if_neg hci, ← HR.out, show i + 1 + k - (i + 1) = k by omega] at HS
    have HS := Lib.hid (HS.alloc hB (.cells #[.int .i64 i, .int .i64 k, .int .i64 b, .int .i64 t, .bool f] 165))
    go_enter Tryz.func119, Tryz.ntmps119
    go_wp2
    go_ret
    exact ⟨below_new _ _, _, _, EK.out _ _, by omega, HS.out⟩
theorem zero_int (w : World) : (zeroValue 3).run Tryz.prog w = .ok (.int .i64 0) w := by kernel_rfl
set_option maxRecDepth 100000 in
set_option maxHeartbeats 1000000 in
theorem places_any (A : Option Addr) (n c : Nat) (l : List Spot) (w : World) (hr : Reads w w.heap.size 5 A n (spotsC l)) (hn : n ≤ 256) (hl : l.Pairwise (fun s t => s.loc < t.loc)) (hb : ∀ s ∈ l, 0 ≤ s.loc ∧ s.loc ≤ 256) :
    Calls Tryz.prog 118 #[.slice A n c] w fun e w' => Below w.heap.size w w' ∧ ∃ b, e = .returned (.map (some b)) ∧ w.heap.size ≤ b ∧ MapIs w' Tryz.prog 45 .u64 b 300 (placeV l) := by
  have hll : l.length = n := by have := hr.1; rw [spotsC_length] at this; omega
  have HL := Lib.hid hll
  have HO := Lib.hid hl
  have HB := Lib.hid hb
  clear hll hl hb
  obtain ⟨w1, hins, hM, hg1⟩ := (MapIs.made w Tryz.prog 45 .u64).store (k := 45) (t := 154) Tryz.underlying45 Tryz.underlying154 (by decide) (x := 0) (by decide) (.int .i64 (-1))
  rw [← placeV_nil] at hM
  have hb1 : Below w.heap.size w w1 := (below_new w _).grown hg1 (by simp) (by simp)
  have HM := Lib.hid (hM.mono (show 0 + 1 ≤ 1 by omega))
  clear hM
  have hmm := @run_makeMap Tryz.prog
  go_enter Tryz.func118, Tryz.ntmps118
  go_wp2
  clear hins
  go_loopw [4, 5, 10] (fun _ _ i wr => ∃ j : Nat, j ≤ n ∧ i = .int .i64 j ∧ MapIs wr Tryz.prog 45 .u64 w.heap.size (j + 1) (placeV (l.take j)) ∧ Below w.heap.size w wr) (fun _ _ i _ => n - (intOf i).toNat)
  case atStart => exact ⟨0, Nat.zero_le _, rfl, HM.out, hb1⟩
  case round =>
    obtain ⟨j, hj, rfl, hM, hb⟩ := hrel
    by_cases hlt : j < n
    · obtain ⟨ad, s, rfl, had, hs, c0, c1, c2, c3, c4⟩ := (hr.below hb).spot hlt
      have hq := HB.out s (List.mem_of_getElem? hs)
      have HT : Hid (l.take (j + 1) = l.take j ++ [s]) := by
        show _ = _
        obtain ⟨h1, rfl⟩ := List.getElem?_eq_some_iff.1 hs
        exact List.take_succ_eq_append_getElem h1
      have HJ : Hid (∀ x ∈ l.take j, x.loc < s.loc) := by
        intro x hx
        rw [List.mem_take_iff_getElem] at hx
        obtain ⟨k, hk, rfl⟩ := hx
        obtain ⟨h1, rfl⟩ := List.getElem?_eq_some_iff.1 hs
        exact List.pairwise_iff_getElem.1 HO.out k j (by omega) h1 (by omega)
      obtain ⟨loc, r, b, t, f⟩ := s
      dsimp only at c0 c1 c2 c3 c4 hq
      have hM0 := hM.alloc (.cells #[.int .i64 loc, .int .i64 r, .int .i64 b, .int .i64 t, .bool f] 165)
      have hb0 := hb.alloc hb.size (.cells #[.int .i64 loc, .int .i64 r, .int .i64 b, .int .i64 t, .bool f] 165)
      clear hM hs
      cases f
      · have hlen : (l.take j).length = j := by rw [List.length_take, HL.out]; omega
        have hP := placeV_snoc (l := l.take j) (s := ⟨loc, r, b, t, false⟩) rfl hq.1 HJ.out
        rw [← HT.out, hlen] at hP
        obtain ⟨w2, hupd, hM2, hg2⟩ := hM0.store (k := 45) (t := 154) Tryz.underlying45 Tryz.underlying154 (by unfold maxLen; omega) (x := loc + 1) (by simp [Lit.wf, IntKind.min, IntKind.max, IntKind.signed, IntKind.bits]; omega) (.int .i64 j)
        rw [← hP] at hM2
        have HM2 := Lib.hid hM2
        have hb2 := hb0.grown hg2 hb0.size (by simp)
        clear hP hlen hM2 hM0 hb0
        obtain ⟨q0, q1⟩ := hq
        go_wp2
        go_roundw
        case rel => exact ⟨j + 1, by omega, by go_num, HM2.out, hb2⟩
        case measure => simp [intOf]; omega
      · have HP : Hid (placeV (l.take (j + 1)) = placeV (l.take j)) := by show _ = _; rw [HT.out]; exact placeV_free rfl
        go_wp2
        go_roundw
        case rel => exact ⟨j + 1, by omega, by go_num, by rw [HP.out]; exact hM0.mono (by omega), hb0⟩
        case measure => simp [intOf]; omega
    · have hjn : j = n := by omega
      subst hjn
      rw [List.take_of_length_le (by rw [HL.out]; exact Nat.le_refl _)] at hM
      go_wp2
      go_ret
      exact ⟨hb, _, rfl, Nat.le_refl _, hM.mono (by omega)⟩
theorem spots_bounds {a : List Int} (h : spotsE a = 0) : ∀ s ∈ spotsL a, 0 ≤ s.loc ∧ s.loc ≤ 256 := by
  intro s hs
  obtain ⟨hlen, hp⟩ := parse_ok h
  have := (parse_mem hp s hs).1
  have h1 := this.loc0
  have h2 := this.fits
  have h3 := this.r0
  have h4 := this.b0
  unfold Spot.long at h2
  omega
set_option maxHeartbeats 400000 in
theorem check_bad0 (A : Option Addr) (n c : Nat) (a : List Int) (w : World) (hr : Reads w w.heap.size 1 A n (a.map (.int .u64))) (ha : ∀ x ∈ a, (Lit.int .u64 x).wf = true) (hE : spotsE a ≠ 0) :
    Calls Tryz.prog 84 #[.slice A n c] w fun e w' => e = .returned (.tuple #[.slice none 0 0, .map none, .int .i64 (checkE a)]) ∧ Below w.heap.size w w' := by
  have H := fun w hr => spots_any A n c a w hr ha
  rw [spotsL_bad hE] at H
  have HH := Lib.hid H
  have hc : checkE a = spotsE a := by unfold checkE; rw [if_pos hE]
  rw [hc]
  clear H hc
  generalize spotsE a = E at *
  have hE1 : (E != 0) = true := by simpa using hE
  go_enter Tryz.func84, Tryz.ntmps84
  go_wp2_with (go_at_call 117; refine (HH.out _ hr).mono ?_; rintro e w2 ⟨hb2, A', c', rfl, -⟩)
  go_ret3
  exact ⟨rfl, hb2⟩
set_option maxRecDepth 100000 in
set_option maxHeartbeats 1000000 in
theorem check_parse (A : Option Addr) (n c : Nat) (a : List Int) (w : World) (hr : Reads w w.heap.size 1 A n (a.map (.int .u64))) (hnc : n ≤ c) (ha : ∀ x ∈ a, (Lit.int .u64 x).wf = true) (hE : spotsE a = 0) :
    Calls Tryz.prog 84 #[.slice A n c] w fun e w' => Below w.heap.size w w' ∧ ((refsOk (spotsL a) a = false ∧ e = .returned (.tuple #[.slice none 0 0, .map none, .int .i64 5])) ∨
      (refsOk (spotsL a) a = true ∧ ∃ A' c' b, e = .returned (.tuple #[.slice A' (spotsL a).length c', .map (some b), .int .i64 0]) ∧ w.heap.size ≤ b ∧ w'.ownsRow w.heap.size 165 5 (.slice A' (spotsL a).length c') (spotsL a).length (spotsC (spotsL a)) ∧ MapIs w' Tryz.prog 45 .u64 b 300 (placeV (spotsL a)))) := by
  have H := fun w hr => spots_any A n c a w hr ha
  obtain ⟨hlen, hP⟩ := parse_ok hE
  have hrise := spots_rise hE
  have hbnd := spots_bounds hE
  rw [hE] at H
  have HH := Lib.hid H
  have hal : a.length = n := by have := hr.1; simpa using this
  have hn : n ≤ 256 := by omega
  have hm256 := spotsL_length a
  generalize spotsL a = l at *
  have HS := Lib.hid (fun s hs => (parse_mem hP s hs).1)
  have HPl := Lib.hid (fun A n c w hr hn => places_any A n c l w hr hn hrise hbnd)
  clear H hP hE hal hlen hrise hbnd
  go_enter Tryz.func84, Tryz.ntmps84
  go_wp2_with (go_at_call 117; refine (HH.out _ hr).mono ?_; rintro e w1 ⟨hb1, A', c', rfl, hown⟩)
  have hrl := Reads.of_own hown
  obtain ⟨m, hm⟩ : ∃ m, m = l.length := ⟨_, rfl⟩
  rw [← hm] at hrl hm256 hown
  rw [← hm]
  have HM := Lib.hid hm
  clear hm
  go_wp2_with fail
  refine (HPl.out _ _ _ _ hrl hm256).mono ?_
  rintro e w2 ⟨hb2, b, rfl, hbb, hMp⟩
  have hown2 := own_below hown hb2
  have hrl2 := (hrl.below hb2).more hb2.size
  have hb02 := below_step hb1 hb2
  have hbw : w.heap.size ≤ b := Nat.le_trans hb1.size hbb
  have hblt := hMp.lt
  clear hown hrl hb1 hb2 hbb
  go_wp2
  go_loopw [26] (fun i wr => ∃ j : Nat, j ≤ m ∧ i = .int .i64 j ∧ Below w2.heap.size w2 wr ∧ Hid (∀ s ∈ l.take j, (refsOf a s).all (fun v => (placeF l v).isSome) = true)) (fun i _ => m - (intOf i).toNat)
  case atStart => exact ⟨0, Nat.zero_le _, rfl, Below.refl _ _, by intro s hs; simp at hs⟩
  case round =>
    obtain ⟨j, hj, rfl, hb, hD⟩ := hrel
    by_cases hlt : j < m
    · obtain ⟨ad, s, rfl, had, hs, c0, c1, c2, c3, c4⟩ := (hrl2.below hb).spot hlt
      have hok := HS.out s (List.mem_of_getElem? hs)
      have hbw2 := hb02.trans (hb.mono hb02.size)
      have HT : Hid (l.take (j + 1) = l.take j ++ [s]) := by
        show _ = _
        obtain ⟨h1, rfl⟩ := List.getElem?_eq_some_iff.1 hs
        exact List.take_succ_eq_append_getElem h1
      have HSM : Hid (s ∈ l) := List.mem_of_getElem? hs
      have hb0 := hb.alloc hb.size (.cells (spotC s).toArray 165)
      have hbw0 := hbw2.alloc hbw2.size (.cells (spotC s).toArray 165)
      have HR := Lib.hid (refs_any A n c _ a s _ ((hr.below hbw0).more hbw0.size) (Nat.le_refl _) hnc hn hok)
      have hr0 := hok.r0
      have HF := Lib.hid (refsOf_length hok)
      have hr256 : s.r.toNat ≤ 256 := by have h1 := hok.fit256; unfold Spot.long at h1; have := hok.b0; omega
      clear hs hok hb hbw2
      have HRef : Hid (∃ rs, rs = refsOf a s) := ⟨_, rfl⟩
      go_wp2_with fail
      refine HR.out.mono ?_
      rintro e w3 ⟨hb3, A3, c3, rfl, hc3, hrr⟩
      have hb13 := hb0.trans (hb3.mono hb0.size)
      obtain ⟨q, hq⟩ : ∃ q, q = s.r.toNat := ⟨_, rfl⟩
      rw [← hq] at hrr hr256 hc3
      rw [← hq]
      have HQ := Lib.hid hq
      obtain ⟨rs, hrs⟩ : ∃ rs, rs = refsOf a s := ⟨_, rfl⟩
      rw [← hrs] at hrr
      have HRS := Lib.hid hrs
      have hrr' := hrr.more hb3.size
      have hb03 := hbw0.trans (hb3.mono hbw0.size)
      have hMr := hMp.below hb13 hblt
      have hbl3 : b < w3.heap.size := hMr.lt
      obtain ⟨wo, rfl⟩ : ∃ wo : World, wo = wr := ⟨_, rfl⟩
      clear hb0 hbw0 hb3 hrr hq hrs hr0
      go_wp2
      go_loopw [11, 34] (fun _ i wr => ∃ p : Nat, p ≤ q ∧ i = .int .i64 p ∧ Below w3.heap.size w3 wr ∧ Hid (∀ v ∈ rs.take p, (placeF l v).isSome = true)) (fun _ i _ => q - (intOf i).toNat)
      case atStart => exact ⟨0, Nat.zero_le _, rfl, Below.refl _ _, by intro s hs; simp at hs⟩
      case round =>
        obtain ⟨p, hp, rfl, hb, hD2⟩ := hrel
        by_cases hlt2 : p < q
        · obtain ⟨ad3, v, rfl, had3, hv, hc⟩ := (hrr'.below hb).num hlt2
          have hvm : v ∈ a := by
            have := List.mem_of_getElem? hv
            rw [HRS.out] at this
            unfold refsOf at this
            exact List.mem_of_mem_drop (List.mem_of_mem_take this)
          have hvw := ha v hvm
          have hlook := (hMr.below hb hbl3).look_ok Tryz.underlying45 Tryz.underlying154 (zero_int _) hvw
          have hpv : (placeV l v).isSome = (placeF l v).isSome := by unfold placeV; rw [Option.isSome_map]
          rw [hpv] at hlook
          have HV := Lib.hid hv
          clear hv hvm hvw hpv
          generalize hgd : (placeV l v).getD (.int .i64 0) = gd at hlook
          clear hgd
          cases hsome : (placeF l v).isSome
          · rw [hsome] at hlook
            have HSo := Lib.hid hsome
            clear hsome
            go_wp2
            go_ret3
            refine ⟨hb03.trans (hb.mono hb03.size), .inl ⟨?_, rfl⟩⟩
            unfold refsOk
            rw [List.all_eq_false]
            refine ⟨s, HSM.out, ?_⟩
            rw [Bool.not_eq_true, List.all_eq_false]
            exact ⟨v, by rw [← HRS.out]; exact List.mem_of_getElem? HV.out, by rw [HSo.out]; decide⟩
          · rw [hsome] at hlook
            have HSo := Lib.hid hsome
            clear hsome
            go_wp2
            go_roundw
            case rel => exact ⟨p + 1, by omega, by go_num, hb, fun x hx => by
              rcases take_succ_mem HV.out x hx with h | rfl
              · exact hD2.out x h
              · exact HSo.out⟩
            case measure => simp [intOf]; omega
        · have hpq : p = q := by omega
          subst hpq
          have HA : Hid (∀ x ∈ l.take (j + 1), (refsOf a x).all (fun v => (placeF l v).isSome) = true) := by
            intro x hx
            rw [HT.out, List.mem_append, List.mem_singleton] at hx
            rcases hx with hx | rfl
            · exact hD.out x hx
            · rw [List.all_eq_true]
              intro v hv
              refine hD2.out v ?_
              rw [← HRS.out] at hv
              rw [List.take_of_length_le (by rw [HRS.out, HF.out, ← HQ.out]; exact Nat.le_refl _)]
              exact hv
          have hb15 := hb13.trans (hb.mono hb13.size)
          clear hD2 hb
          go_wp2
          go_roundw
          case rel => exact ⟨j + 1, by omega, by go_num, hb15, HA⟩
          case measure => simp [intOf]; omega
    · have hjm : j = m := by omega
      subst hjm
      have HA : Hid (refsOk l a = true) := by
        show _ = _
        unfold refsOk
        rw [List.all_eq_true]
        intro s hs
        exact hD.out s (by rw [List.take_of_length_le (by rw [← HM.out]; exact Nat.le_refl _)]; exact hs)
      have hown3 := own_below hown2 hb
      have hM3 := hMp.below hb hblt
      clear hD
      go_wp2
      go_ret3
      have e := HM.out
      subst e
      exact ⟨hb02.trans (hb.mono hb02.size), .inr ⟨HA.out, A', c', b, rfl, hbw, hown3, hM3⟩⟩
theorem refsOk_false {a : List Int} (h0 : spotsE a = 0) (h : refsOk (spotsL a) a = false) : checkE a = 5 := by
  unfold checkE
  rw [if_neg (by simp [h0]), if_neg (by simp [h])]
theorem refsOk_true {a : List Int} (h0 : spotsE a = 0) (h : refsOk (spotsL a) a = true) : checkE a = 0 := checkE_ok.2 ⟨h0, h⟩
theorem check_bad (A : Option Addr) (n c : Nat) (a : List Int) (w : World) (hr : Reads w w.heap.size 1 A n (a.map (.int .u64))) (hnc : n ≤ c) (ha : ∀ x ∈ a, (Lit.int .u64 x).wf = true) (hE : checkE a ≠ 0) :
    Calls Tryz.prog 84 #[.slice A n c] w fun e w' => e = .returned (.tuple #[.slice none 0 0, .map none, .int .i64 (checkE a)]) ∧ Below w.heap.size w w' := by
  by_cases h0 : spotsE a = 0
  · refine (check_parse A n c a w hr hnc ha h0).mono ?_
    rintro e w' ⟨hb, ⟨h1, h2⟩ | ⟨h1, _⟩⟩
    · rw [refsOk_false h0 h1]
      exact ⟨h2, hb⟩
    · exact absurd (refsOk_true h0 h1) hE
  · exact check_bad0 A n c a w hr ha h0
theorem check_ok (A : Option Addr) (n c : Nat) (a : List Int) (w : World) (hr : Reads w w.heap.size 1 A n (a.map (.int .u64))) (hnc : n ≤ c) (ha : ∀ x ∈ a, (Lit.int .u64 x).wf = true) (hE : checkE a = 0) :
    Calls Tryz.prog 84 #[.slice A n c] w fun e w' => Below w.heap.size w w' ∧ ∃ A' c' b, e = .returned (.tuple #[.slice A' (spotsL a).length c', .map (some b), .int .i64 0]) ∧ w.heap.size ≤ b ∧ w'.ownsRow w.heap.size 165 5 (.slice A' (spotsL a).length c') (spotsL a).length (spotsC (spotsL a)) ∧ MapIs w' Tryz.prog 45 .u64 b 300 (placeV (spotsL a)) := by
  obtain ⟨h0, h1⟩ := checkE_ok.1 hE
  refine (check_parse A n c a w hr hnc ha h0).mono ?_
  rintro e w' ⟨hb, ⟨h2, _⟩ | ⟨_, h2⟩⟩
  · rw [h1] at h2; cases h2
  · exact ⟨hb, h2⟩
set_option maxHeartbeats 400000 in
theorem checkFn_any (A : Option Addr) (n c : Nat) (a : List Int) (w : World) (hr : Reads w w.heap.size 1 A n (a.map (.int .u64))) (hnc : n ≤ c) (ha : ∀ x ∈ a, (Lit.int .u64 x).wf = true) :
    Calls Tryz.prog 53 #[.slice A n c] w fun e w' => e = .returned (.int .i64 (checkE a)) ∧ Below w.heap.size w w' := by
  by_cases hE : checkE a = 0
  · have H := Lib.hid (check_ok A n c a w hr hnc ha hE)
    rw [hE]
    clear hE
    go_enter Tryz.func53, Tryz.ntmps53
    go_wp2_with fail
    refine H.out.mono ?_
    rintro e w1 ⟨hb, A', c', b, rfl, -, -, -⟩
    go_wp2
    go_ret
    exact ⟨rfl, hb⟩
  · have H := Lib.hid (check_bad A n c a w hr hnc ha hE)
    generalize checkE a = E at *
    clear hE
    go_enter Tryz.func53, Tryz.ntmps53
    go_wp2_with fail
    refine H.out.mono ?_
    rintro e w1 ⟨rfl, hb⟩
    go_wp2
    go_ret
    exact ⟨rfl, hb⟩
end Go.Proofs.YtbmkbnalembbjaaGreatDoor
