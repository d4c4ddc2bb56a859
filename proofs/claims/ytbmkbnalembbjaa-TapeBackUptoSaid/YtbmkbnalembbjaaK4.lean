/-
  Texts joined: HandLaw Contains Law LawElems LawSlots HandLive GapDefs Pin TintDefs TintHeap.
-/
import Derived.Test.YtbmkbnalembbjaaRows
import Derived.ProofKit
import Derived.Deep.Slices
import Derived.Lib.SmallJoins
import Derived.BigQuiet
import Derived.Deep.RegionHeld3
import Derived.StillTailTactics
import Derived.IntWalk
import Derived.Test.YtbmkbnalembbjaaK0
import Derived.Test.YtbmkbnalembbjaaK1
import Derived.Test.YtbmkbnalembbjaaK3
namespace Go.Proofs.Ytbmkbnalembbjaa
open Go.RowKit
def findS (l : List Slot) (v : Int) : Option Slot :=
  match l[(v % 65536).toNat]? with
  | some s => if s.opn = true ∧ v % 65536 + s.gen * 65536 = v then some s else none
  | none => none
def lookV (l : List Slot) (v : Int) : Int := if handE l ≠ 0 then 0 else match findS l v with | some s => s.loc | none => 0
def lookE (l : List Slot) (v : Int) : Int := if handE l ≠ 0 then handE l else match findS l v with | some _ => 0 | none => 9
end Go.Proofs.Ytbmkbnalembbjaa

namespace Go.Proofs.Ytbmkbnalembbjaa
open Go.RowKit
end Go.Proofs.Ytbmkbnalembbjaa

namespace Go.Proofs.Ytbmkbnalembbjaa
open Go.ChangeShapes Go.WideShapes Go.ChangeAt Go.RowKit
theorem trodAll_below {H : Type} {enc : TypeId × Value → H} {P : Program} (hl : laidOutB P = true) {W W' : World} (hb : Below W.heap.size W W') :
    ∀ {ts : List TypeId} {vs : List Value} {ds : List (DataW H)} {ps : List MemPlace}, ts.all (fun t => P.readableRec t && decide (t < P.types.size)) = true →
      (∀ x ∈ ps, x.block < W.heap.size) → DataW.TrodAll enc P W 0 (fun _ => true) true ts vs ds ps → DataW.TrodAll enc P W' 0 (fun b => decide (b < W.heap.size)) true ts vs ds ps
  | [], [], [], _, _, _, h => h
  | t :: ts, v :: vs, d :: ds, ps, hr, hlt, h => by
    obtain ⟨p, q, h1, h2, rfl⟩ := h
    simp only [List.all_cons, Bool.and_eq_true, decide_eq_true_eq] at hr
    exact ⟨p, q, Below.trod hl hr.1.1 hr.1.2 h1 hb (fun x hx => hlt x (List.mem_append_left _ hx)), trodAll_below hl hb hr.2 (fun x hx => hlt x (List.mem_append_right _ hx)) h2, rfl⟩
  | [], _ :: _, _, _, _, _, h => h.elim
  | [], [], _ :: _, _, _, _, h => h.elim
  | _ :: _, [], _, _, _, _, h => h.elim
  | _ :: _, _ :: _, [], _, _, _, h => h.elim
theorem law_post {H : Type} {enc : TypeId × Value → H} {P : Program} {f : Func} {s : ChangeSpec} {tb : TypeId} {W W' : World} {args : Array Value} {ds gs : List (DataW H)} {before : List MemPlace}
    (hl : laidOutB P = true) (hu : P.underlying tb = some .bool) (hrt : f.resultTypes = #[tb]) (hts : f.params.toList.all (fun t => P.readableRec t && decide (t < P.types.size)) = true)
    (hv : s.vars = []) (hfn : s.fn H ds = { results := [.lit (.bool true)], args := ds })
    (hW : DataW.Whole enc P f.params.toList s.vars false W args.toList ds gs before) (hb : Below W.heap.size W W') :
    s.post enc P f false true false false W args (.bool true) W' := by
  have hW' := hW
  obtain ⟨p, q, hA, hV, rfl, hz, hn⟩ := hW
  rw [hv] at hV
  obtain ⟨rfl, rfl⟩ := trodVars_none hV
  refine ⟨ds, [], _, [], p, [], hW', ?_, ?_, ?_, hb.frame _, fun h => by cases h⟩
  · rw [List.append_nil, hfn, hrt]
    exact trodAll_mk1 (shut_bool hu true)
  · rw [List.append_nil, hfn]
    exact trodAll_below hl hb hts (fun x hx => hW'.lt x (List.mem_append_left _ hx)) hA
  · rw [hv, List.append_nil, hfn]
    rfl
end Go.Proofs.Ytbmkbnalembbjaa

namespace Go.Proofs.Ytbmkbnalembbjaa
open Go.ChangeShapes Go.WideShapes Go.ChangeAt Go.RowKit Go.Joins Go.Deep
theorem trod_struct2 {H : Type} {enc : TypeId × Value → H} {P : Program} {w : World} {base : Nat} {spare : Nat → Bool} {held : Bool} {t : TypeId} {f0 f1 : Field} {fuel : Nat} {cs : List Value} {x : DataW H × List MemPlace} (ht : P.underlying t = some (.struct #[f0, f1])) (h : DataW.trod enc P w base spare held fuel t cs = some x) :
    ∃ y0 y1 n, x = (.agg [y0.1, y1.1], y0.2 ++ y1.2) ∧ cs.length = P.cellsOf t ∧ DataW.trod enc P w base spare held n f0.type ((cs.drop f0.offset).take (P.cellsOf f0.type)) = some y0 ∧
      DataW.trod enc P w base spare held n f1.type ((cs.drop f1.offset).take (P.cellsOf f1.type)) = some y1 := by
  obtain ⟨xs, n, _, rfl, hl, hlen, hf⟩ := DataW.trod_struct ht h
  match xs, hlen with
  | [y0, y1], _ => exact ⟨y0, y1, n, by simp, hl, by simpa using hf 0 _ rfl, by simpa using hf 1 _ rfl⟩
end Go.Proofs.Ytbmkbnalembbjaa

namespace Go.Proofs.Ytbmkbnalembbjaa
open Go.ChangeShapes Go.WideShapes Go.ChangeAt Go.RowKit Go.Joins Go.Deep
instance : Inhabited Slot := ⟨⟨0, false, 0⟩⟩
theorem list3 {α : Type} {l : List α} (h : l.length = 3) : ∃ a b c, l = [a, b, c] := by
  match l, h with
  | [a, b, c], _ => exact ⟨a, b, c, rfl⟩
end Go.Proofs.Ytbmkbnalembbjaa

namespace Go.Proofs.Ytbmkbnalembbjaa
open Go.RowKit
def liveL (i : Nat) : List Slot → List Int
  | [] => []
  | s :: r => if s.opn = true then ((i : Int) + s.gen * 65536) :: liveL (i + 1) r else liveL (i + 1) r
namespace HandLive
open Go.ChangeShapes Go.WideShapes Go.ChangeAt Go.RowKit
theorem own : ownKnob Try.prog.godebug = none := by kernel_rfl
theorem laidOut : laidOutB Try.prog = true := by kernel_rfl
end HandLive
end Go.Proofs.Ytbmkbnalembbjaa

namespace Go.Proofs.Ytbmkbnalembbjaa
open Go.RowKit
structure Rn where
  loc : Int
  len : Int
deriving DecidableEq
def runC (r : Rn) : List Value := [.int .i64 r.loc, .int .i64 r.len]
def runsC (l : List Rn) : List Value := l.flatMap runC
theorem runsC_length (l : List Rn) : (runsC l).length = l.length * 2 := flat_length runC 2 (fun _ => rfl) l
theorem Reads.run {w : World} {B : Nat} {A : Option Addr} {n j : Nat} {l : List Rn} (h : Reads w B 2 A n (runsC l)) (hj : j < n) :
    ∃ ad s, A = some ad ∧ ad.block < B ∧ l[j]? = some s ∧ w.cell? (ad.add (j * 2)) = some (.int .i64 s.loc) ∧
      w.cell? ⟨(ad.add (j * 2)).block, (ad.add (j * 2)).off + 1, none⟩ = some (.int .i64 s.len) := by
  obtain ⟨ad, s, e, hb, hs, c0, cs⟩ := Reads.elem (f := runC) (k := 2) (fun _ => rfl) h (by decide) hj
  exact ⟨ad, s, e, hb, hs, c0, cs 1 (by decide) (by decide)⟩
def badRun (r : Rn) : Bool := decide (r.loc < 0) || decide (r.len < 1)
def fitIx (n : Int) : Nat → List Rn → List Int
  | _, [] => []
  | i, r :: l => if n ≤ r.len then (i : Int) :: fitIx n (i + 1) l else fitIx n (i + 1) l
def fitsE (l : List Rn) (n : Int) : Int := if n < 1 then 1 else if l.any badRun = true then 4 else if fitIx n 0 l = [] then 7 else 0
def bump (acc : List Rn) (n : Int) : List Rn := acc.dropLast ++ (match acc.getLast? with | some r => [⟨r.loc, r.len + n⟩] | none => [])
def gapsA (acc : List Rn) (prev : Bool) : List Spot → List Rn
  | [] => acc
  | s :: l => if s.f = false then gapsA acc false l else if prev = true then gapsA (bump acc s.long) true l else gapsA (acc ++ [⟨s.loc, s.long⟩]) true l
def gapsL (l : List Spot) : List Rn := gapsA [] false l
theorem bump_snoc (acc : List Rn) (r : Rn) (n : Int) : bump (acc ++ [r]) n = acc ++ [⟨r.loc, r.len + n⟩] := by simp [bump]
end Go.Proofs.Ytbmkbnalembbjaa

namespace Go.Proofs.Ytbmkbnalembbjaa
open Go.RowKit
def pinBad (x : Rn) : Bool := !(decide (0 ≤ x.loc) && decide (x.loc < 256)) || decide (x.len < 1) || decide (1000000 < x.len)
def pinGo : Option Int → List Rn → Int
  | _, [] => 0
  | pv, x :: t => if pinBad x = true then 4 else if pv.any (fun p => decide (x.loc ≤ p)) = true then 3 else pinGo (some x.loc) t
def pinE (l : List Rn) : Int := if 16 < l.length then 2 else pinGo none l
structure PinsOk (l : List Rn) : Prop where
  len : l.length ≤ 16
  ok : ∀ x ∈ l, pinBad x = false
  rise : l.Pairwise (fun x y => x.loc < y.loc)
theorem pinGo_ok : ∀ (pv : Option Int) (l : List Rn), pinGo pv l = 0 ↔ (∀ x ∈ l, pinBad x = false) ∧ l.Pairwise (fun x y => x.loc < y.loc) ∧ ∀ p, pv = some p → ∀ x ∈ l, p < x.loc
  | pv, [] => by simp [pinGo]
  | pv, x :: t => by
    have ih := pinGo_ok (some x.loc) t
    unfold pinGo
    by_cases h1 : pinBad x = true
    · rw [if_pos h1]
      simp only [List.mem_cons, forall_eq_or_imp, h1]
      simp
    · rw [if_neg h1]
      have h1' : pinBad x = false := by simpa using h1
      by_cases h2 : pv.any (fun p => decide (x.loc ≤ p)) = true
      · rw [if_pos h2]
        refine ⟨fun h => (by cases h), fun ⟨_, _, h⟩ => ?_⟩
        cases pv with
        | none => simp at h2
        | some p =>
          have := h p rfl x List.mem_cons_self
          simp only [Option.any_some, decide_eq_true_eq] at h2
          omega
      · rw [if_neg h2, ih]
        constructor
        · rintro ⟨a1, a2, a3⟩
          refine ⟨fun y hy => ?_, List.pairwise_cons.2 ⟨fun y hy => a3 _ rfl y hy, a2⟩, fun p hp y hy => ?_⟩
          · rcases List.mem_cons.1 hy with rfl | hy
            · exact h1'
            · exact a1 y hy
          · subst hp
            simp only [Option.any_some, decide_eq_true_eq] at h2
            rcases List.mem_cons.1 hy with rfl | hy
            · omega
            · have := a3 _ rfl y hy; omega
        · rintro ⟨a1, a2, a3⟩
          exact ⟨fun y hy => a1 y (List.mem_cons_of_mem _ hy), (List.pairwise_cons.1 a2).2, fun p hp y hy => by injection hp with hp; subst hp; exact (List.pairwise_cons.1 a2).1 y hy⟩
theorem pinE_ok {l : List Rn} : pinE l = 0 ↔ PinsOk l := by
  unfold pinE
  by_cases h : 16 < l.length
  · rw [if_pos h]
    exact ⟨fun h => (by cases h), fun hk => by have := hk.len; omega⟩
  · rw [if_neg h, pinGo_ok]
    exact ⟨fun ⟨a, b, _⟩ => ⟨by omega, a, b⟩, fun ⟨_, a, b⟩ => ⟨a, b, by simp⟩⟩
def thereB (x : Int) : Bool := decide (0 ≤ x) && decide (x < 256)
set_option maxHeartbeats 400000 in
theorem pthere_any (x : Int) (w : World) : Calls Try.prog 62 #[.int .i64 x] w fun e w' => e = .returned (.bool (thereB x)) ∧ w' = w := by
  unfold thereB
  by_cases h0 : 0 ≤ x
  · have g0 : decide (0 ≤ x) = true := decide_eq_true h0
    have g0' : decide (x ≥ 0) = true := decide_eq_true h0
    rw [g0]
    go_enter Try.func62, Try.ntmps62
    go_wp2
    go_ret
    exact ⟨by first | rfl | simp, rfl⟩
  · have g0 : decide (0 ≤ x) = false := decide_eq_false h0
    have g0' : decide (x ≥ 0) = false := decide_eq_false h0
    rw [g0]
    go_enter Try.func62, Try.ntmps62
    go_wp2
    go_ret
    exact ⟨by first | rfl | simp, rfl⟩
set_option maxRecDepth 100000 in
set_option maxHeartbeats 2000000 in
theorem pcheck_any (A : Option Addr) (n c : Nat) (l : List Rn) (w : World) (hr : Reads w w.heap.size 2 A n (runsC l)) (hn : n ≤ 9223372036854775807) :
    Calls Try.prog 60 #[.slice A n c] w fun e w' => e = .returned (.int .i64 (pinE l)) ∧ Below w.heap.size w w' := by
  have hl : l.length = n := by have := hr.1; rw [runsC_length] at this; omega
  by_cases hbig : 16 < n
  · have e : pinE l = 2 := by unfold pinE; rw [if_pos (by omega)]
    have g1 : decide (16 < n) = true := decide_eq_true hbig
    have g1' : decide ((16 : Int) < (n : Int)) = true := decide_eq_true (by omega)
    rw [e]
    clear hl e
    go_enter Try.func60, Try.ntmps60
    go_wp2
    go_ret
    exact ⟨rfl, Below.refl _ _⟩
  · have g1 : decide (16 < n) = false := decide_eq_false hbig
    have g1' : decide ((16 : Int) < (n : Int)) = false := decide_eq_false (by omega)
    have HE : Hid (pinE l = pinGo none l) := by show _ = _; unfold pinE; rw [if_neg (by omega)]
    have HL := Lib.hid hl
    have HT := Lib.hid pthere_any
    clear hl
    go_enter Try.func60, Try.ntmps60
    go_wp2
    go_loopw [10] (fun i wr => ∃ (j : Nat) (pv : Option Int), j ≤ n ∧ i = .int .i64 j ∧ Hid (pinGo none l = pinGo pv (l.drop j)) ∧ Hid (pv = if j = 0 then none else (l[j - 1]?).map (·.loc)) ∧ Below w.heap.size w wr) (fun i _ => n - (intOf i).toNat)
    case atStart => exact ⟨0, none, Nat.zero_le _, rfl, rfl, rfl, Below.refl _ _⟩
    case round =>
      obtain ⟨j, pv, hj, rfl, HG, HP, hb⟩ := hrel
      by_cases hlt : j < n
      · obtain ⟨ad, x, rfl, had, hx, c0, c1⟩ := (hr.below hb).run hlt
        have hd : l.drop j = x :: l.drop (j + 1) := by
          obtain ⟨q1, q2⟩ := List.getElem?_eq_some_iff.1 hx
          rw [List.drop_eq_getElem_cons q1, q2]
        have hG := HG.out
        rw [hd, pinGo] at hG
        have hj1 : j + 1 ≤ n := hlt
        obtain ⟨loc, len⟩ := x
        dsimp only at c0 c1
        have hbx := hb.alloc hb.size (.cells #[.int .i64 loc, .int .i64 len] 47)
        have D0 := Blk.new wr 47 #[.int .i64 loc, .int .i64 len]
        have d0 := D0.cell 0
        have d1 := D0.cell 1
        simp only [List.getElem?_toArray, List.getElem?_cons_zero, List.getElem?_cons_succ] at d0 d1
        cases hth : thereB loc
        · have HT1 := Lib.hid (by have := HT.out loc (wr.alloc (.cells #[.int .i64 loc, .int .i64 len] 47)); rw [hth] at this; exact this)
          have HR : Hid (pinE l = 4) := by show _ = _; rw [HE.out, hG, if_pos (by unfold thereB at hth; simp [pinBad, hth])]
          clear hx hG hd hth
          go_wp2_with fail
          refine HT1.out.mono ?_
          rintro e w1 ⟨rfl, rfl⟩
          go_wp2
          go_ret
          exact ⟨by rw [HR.out]; rfl, hbx⟩
        · have HT1 := Lib.hid (by have := HT.out loc (wr.alloc (.cells #[.int .i64 loc, .int .i64 len] 47)); rw [hth] at this; exact this)
          by_cases h1 : len < 1
          · have z1 : decide (len < 1) = true := decide_eq_true h1
            have HR : Hid (pinE l = 4) := by show _ = _; rw [HE.out, hG, if_pos (by simp [pinBad, z1])]
            clear hx hG hd hth
            go_wp2_with fail
            refine HT1.out.mono ?_
            rintro e w1 ⟨rfl, rfl⟩
            go_wp2
            go_ret
            exact ⟨by rw [HR.out]; rfl, hbx⟩
          · have z1 : decide (len < 1) = false := decide_eq_false h1
            by_cases h2 : 1000000 < len
            · have z2 : decide (1000000 < len) = true := decide_eq_true h2
              have HR : Hid (pinE l = 4) := by show _ = _; rw [HE.out, hG, if_pos (by simp [pinBad, z2])]
              clear hx hG hd hth
              go_wp2_with fail
              refine HT1.out.mono ?_
              rintro e w1 ⟨rfl, rfl⟩
              go_wp2
              go_ret
              exact ⟨by rw [HR.out]; rfl, hbx⟩
            · have z2 : decide (1000000 < len) = false := decide_eq_false h2
              rw [if_neg (by unfold thereB at hth; simp [pinBad, z1, z2, hth])] at hG
              have HX := Lib.hid hx
              by_cases hj0 : j = 0
              · have hpv : pv = none := by have := HP.out; rw [if_pos hj0] at this; exact this
                subst hpv
                have z3 : decide ((0 : Int) < (j : Int)) = false := decide_eq_false (by omega)
                have z3' : decide (0 < j) = false := decide_eq_false (by omega)
                have HG2 : Hid (pinGo none l = pinGo (some loc) (l.drop (j + 1))) := by show _ = _; rw [hG]; simp
                have HP2 : Hid (some loc = if (j + 1 : Nat) = 0 then none else (l[j + 1 - 1]?).map (·.loc)) := by show _ = _; rw [if_neg (by omega), show (j + 1 - 1 : Nat) = j by omega, hx]; rfl
                clear hx hG hd hth hj0
                go_wp2_with fail
                refine HT1.out.mono ?_
                rintro e w1 ⟨rfl, rfl⟩
                go_wp2
                go_quiet (fail)
                go_wp2
                go_roundw
                case rel => exact ⟨j + 1, some loc, hj1, by go_num, HG2, HP2, below_drewN hbx _⟩
                case measure => simp [intOf]; omega
              · obtain ⟨k, rfl⟩ : ∃ k, j = k + 1 := ⟨j - 1, by omega⟩
                obtain ⟨ad2, y, e2, had2, hy, c2, c3⟩ := (hr.below hb).run (show k < n by omega)
                obtain rfl : ad = ad2 := by injection e2
                have hpv : pv = some y.loc := by have := HP.out; rw [if_neg (by omega), show k + 1 - 1 = k by omega, hy] at this; exact this
                subst hpv
                have wk : IntKind.i64.wrap ((k : Int) + 1 - 1) = k := by rw [show (k : Int) + 1 - 1 = k by omega]; exact IntWalk.i64_in _ (by omega)
                have wk2 : (k : Int) + 1 - 1 = k := by omega
                have wk3 : IntKind.i64.wrap (k : Int) = k := IntWalk.i64_in _ (by omega)
                have z3 : decide ((0 : Int) < (k : Int) + 1) = true := decide_eq_true (by omega)
                have z4 : (0 : Int) < (k : Int) + 1 := by omega
                have hkn : k < n := by omega
                have hkn' : (k : Int) < n := by omega
                have c2' := (hbx.cell (p := ad.add (k * 2)) (by unfold Addr.add; split <;> exact Nat.lt_of_lt_of_le had (Nat.le_refl _)))
                have e2' : (wr.alloc (.cells #[.int .i64 loc, .int .i64 len] 47)).cell? (ad.add (k * 2)) = some (.int .i64 y.loc) := by
                  rw [World.cell?_alloc_lt wr _ _ (by have := hb.size; unfold Addr.add; split <;> (first | omega | (dsimp only; omega)))]
                  exact c2
                obtain ⟨yl, yn⟩ := y
                try dsimp only at c2
                try dsimp only at c3
                try dsimp only at e2'
                try dsimp only at hG
                by_cases hge : loc ≤ yl
                · have z5 : decide (loc ≤ yl) = true := decide_eq_true hge
                  have HR : Hid (pinE l = 3) := by show _ = _; rw [HE.out, hG, if_pos (by simpa using hge)]
                  clear hx hG hd hth hy c2' HP
                  go_wp2_with fail
                  refine HT1.out.mono ?_
                  rintro e w1 ⟨rfl, rfl⟩
                  go_wp2
                  go_quiet (fail)
                  go_wp2
                  go_ret
                  exact ⟨by rw [HR.out]; rfl, below_drewN hbx _⟩
                · have z5 : decide (loc ≤ yl) = false := decide_eq_false hge
                  have HG2 : Hid (pinGo none l = pinGo (some loc) (l.drop (k + 1 + 1))) := by show _ = _; rw [hG, if_neg (by simpa using hge)]
                  have HP2 : Hid (some loc = if k + 1 + 1 = 0 then none else (l[k + 1 + 1 - 1]?).map (·.loc)) := by show _ = _; rw [if_neg (by omega), show k + 1 + 1 - 1 = k + 1 by omega, hx]; rfl
                  clear hx hG hd hth hy c2' HP
                  go_wp2_with fail
                  refine HT1.out.mono ?_
                  rintro e w1 ⟨rfl, rfl⟩
                  go_wp2
                  go_quiet (fail)
                  go_wp2
                  go_roundw
                  case rel => exact ⟨k + 1 + 1, some loc, hj1, by go_num, HG2, HP2, below_drewN hbx _⟩
                  case measure => simp [intOf]; omega
      · have hjn : j = n := by omega
        have HR : Hid (pinE l = 0) := by
          show _ = _
          rw [HE.out, HG.out, hjn, List.drop_of_length_le (by rw [HL.out]; exact Nat.le_refl _)]
          rfl
        have g0 : decide (j < n) = false := decide_eq_false hlt
        clear hjn HG HP
        go_wp2
        go_ret
        exact ⟨by rw [HR.out]; rfl, hb⟩
end Go.Proofs.Ytbmkbnalembbjaa

namespace Go.Proofs.Ytbmkbnalembbjaa
open Go.RowKit
def isBeg (x : Int) (s : Spot) : Bool := !s.f && (s.loc == x)
def begsL (S : List Spot) : List Int := (S.filter fun s => !s.f).map (·.loc)
def spotAt (S : List Spot) (x : Int) : Option Spot := S.find? (isBeg x)
def headC (s : Spot) : Value := .agg #[.int .i64 s.r, .int .i64 s.b, .int .i64 s.t, .bool s.f]
def headF (S : List Spot) : Int → Option Value := fun x => (spotAt S x).map headC
def linksL (a : List Int) (s : Spot) : List Int := ((refsOf a s).filter fun v => v != 0).map fun v => v - 1
def linksAt (a : List Int) (S : List Spot) (x : Int) : List Int := match spotAt S x with | some s => linksL a s | none => []
theorem spotAt_some {S : List Spot} {x : Int} {s : Spot} (h : spotAt S x = some s) : s ∈ S ∧ s.f = false ∧ s.loc = x := by
  have h1 := List.find?_some h
  have h2 := List.mem_of_find?_eq_some h
  simp only [isBeg, Bool.and_eq_true, Bool.not_eq_true', beq_iff_eq] at h1
  exact ⟨h2, h1.1, h1.2⟩
theorem begsL_iff {S : List Spot} {x : Int} : x ∈ begsL S ↔ ∃ s, spotAt S x = some s := by
  unfold begsL spotAt
  rw [List.mem_map]
  constructor
  · rintro ⟨s, hs, rfl⟩
    obtain ⟨h1, h2⟩ := List.mem_filter.1 hs
    cases h : S.find? (isBeg s.loc) with
    | some s' => exact ⟨s', rfl⟩
    | none =>
      have := List.find?_eq_none.1 h s h1
      simp only [isBeg, h2, beq_self_eq_true, Bool.and_self, not_true] at this
  · rintro ⟨s, hs⟩
    obtain ⟨h1, h2, h3⟩ := spotAt_some hs
    exact ⟨s, List.mem_filter.2 ⟨h1, by simp [h2]⟩, h3⟩
theorem begsL_bounds {a : List Int} (h : spotsE a = 0) : ∀ x ∈ begsL (spotsL a), 0 ≤ x ∧ x < 256 := by
  intro x hx
  obtain ⟨s, hs⟩ := begsL_iff.1 hx
  obtain ⟨h1, -, rfl⟩ := spotAt_some hs
  obtain ⟨hlen, hp⟩ := parse_ok h
  have := (parse_mem hp s h1).1
  have e1 := this.loc0
  have e2 := this.fits
  have e3 := this.r0
  have e4 := this.b0
  unfold Spot.long at e2
  omega
structure Reached (a : List Int) (S : List Spot) (from_ L : List Int) : Prop where
  begs : ∀ x ∈ L, x ∈ begsL S
  roots : ∀ x ∈ from_, x ∈ L
  closed : ∀ x ∈ L, ∀ y ∈ linksAt a S x, y ∈ L
  least : ∀ X : Int → Prop, (∀ x ∈ from_, X x) → (∀ x, X x → ∀ y ∈ linksAt a S x, X y) → ∀ x ∈ L, X x
  sorted : L.Pairwise (fun x y => x ≤ y)
  once : L.Nodup
theorem sorted_unique : ∀ {L L' : List Int}, L.Pairwise (fun x y => x ≤ y) → L.Nodup → L'.Pairwise (fun x y => x ≤ y) → L'.Nodup → (∀ x, x ∈ L ↔ x ∈ L') → L = L'
  | [], [], _, _, _, _, _ => rfl
  | [], y :: t, _, _, _, _, h => by have := (h y).2 List.mem_cons_self; cases this
  | x :: t, [], _, _, _, _, h => by have := (h x).1 List.mem_cons_self; cases this
  | x :: t, y :: t', h1, h2, h3, h4, h => by
    obtain ⟨a1, a2⟩ := List.pairwise_cons.1 h1
    obtain ⟨b1, b2⟩ := List.nodup_cons.1 h2
    obtain ⟨c1, c2⟩ := List.pairwise_cons.1 h3
    obtain ⟨d1, d2⟩ := List.nodup_cons.1 h4
    have hxy : x = y := by
      have e1 : x ≤ y := by
        rcases List.mem_cons.1 ((h y).2 List.mem_cons_self) with e | e
        · omega
        · exact a1 y e
      have e2 : y ≤ x := by
        rcases List.mem_cons.1 ((h x).1 List.mem_cons_self) with e | e
        · omega
        · exact c1 x e
      omega
    subst hxy
    rw [sorted_unique a2 b2 c2 d2 (fun z => by
      constructor
      · intro hz
        rcases List.mem_cons.1 ((h z).1 (List.mem_cons_of_mem _ hz)) with e | e
        · subst e; exact absurd hz b1
        · exact e
      · intro hz
        rcases List.mem_cons.1 ((h z).2 (List.mem_cons_of_mem _ hz)) with e | e
        · subst e; exact absurd hz d1
        · exact e)]
theorem Reached.unique {a : List Int} {S : List Spot} {f L L' : List Int} (h : Reached a S f L) (h' : Reached a S f L') : L = L' :=
  sorted_unique h.sorted h.once h'.sorted h'.once (fun x => ⟨fun hx => h.least (· ∈ L') h'.roots h'.closed x hx, fun hx => h'.least (· ∈ L) h.roots h.closed x hx⟩)
theorem nodup_bound : ∀ (n : Nat) (L : List Int), L.Nodup → (∀ x ∈ L, 0 ≤ x ∧ x < n) → L.length ≤ n
  | 0, [], _, _ => Nat.le_refl _
  | 0, x :: _, _, h => by have := h x List.mem_cons_self; omega
  | n + 1, L, hn, h => by
    have h1 := nodup_bound n (L.erase (n : Int)) (hn.erase _) (fun x hx => by
      have h2 := h x (List.mem_of_mem_erase hx)
      have h3 : x ≠ (n : Int) := fun e => by subst e; exact absurd hx (hn.not_mem_erase)
      omega)
    have h4 := List.length_erase (a := (n : Int)) (l := L)
    split at h4 <;> omega
structure Search (a : List Int) (S : List Spot) (from_ out : List Int) (i : Nat) : Prop where
  begs : ∀ x ∈ out, x ∈ begsL S
  once : out.Nodup
  least : ∀ X : Int → Prop, (∀ x ∈ from_, X x) → (∀ x, X x → ∀ y ∈ linksAt a S x, X y) → ∀ x ∈ out, X x
  seen : ∀ k x, k < i → out[k]? = some x → ∀ y ∈ linksAt a S x, y ∈ out
def addL (out : List Int) (x : Int) : List Int := if x ∈ out then out else out ++ [x]
theorem addL_sub (out : List Int) (x : Int) : (∀ y ∈ out, y ∈ addL out x) ∧ x ∈ addL out x := by
  unfold addL
  split
  · rename_i h; exact ⟨fun y hy => hy, h⟩
  · exact ⟨fun y hy => List.mem_append_left _ hy, by simp⟩
theorem addL_mem {out : List Int} {x y : Int} (h : y ∈ addL out x) : y ∈ out ∨ y = x := by
  unfold addL at h
  split at h
  · exact .inl h
  · simpa using h
theorem addL_get {out : List Int} {x y : Int} {k : Nat} (hk : k < out.length) (h : (addL out x)[k]? = some y) : out[k]? = some y := by
  unfold addL at h
  split at h
  · exact h
  · rwa [List.getElem?_append_left hk] at h
theorem addL_nodup {out : List Int} {x : Int} (h : out.Nodup) : (addL out x).Nodup := by
  unfold addL
  split
  · exact h
  · rename_i hx
    exact List.nodup_append.2 ⟨h, by simp, by rintro a ha b hb rfl; simp at hb; subst hb; exact hx ha⟩
theorem addL_len (out : List Int) (x : Int) : out.length ≤ (addL out x).length := by unfold addL; split <;> simp
theorem Search.nil (a : List Int) (S : List Spot) (f : List Int) : Search a S f [] 0 := ⟨by simp, by simp, by simp, by simp⟩
theorem Search.add {a : List Int} {S : List Spot} {f out : List Int} {i : Nat} (h : Search a S f out i) (hi : i ≤ out.length) {x : Int} (hx : x ∈ begsL S)
    (hl : ∀ X : Int → Prop, (∀ x ∈ f, X x) → (∀ x, X x → ∀ y ∈ linksAt a S x, X y) → X x) : Search a S f (addL out x) i := by
  obtain ⟨s1, s2⟩ := addL_sub out x
  refine ⟨fun y hy => ?_, addL_nodup h.once, fun X hX hc y hy => ?_, fun k y hk hy z hz => s1 z (h.seen k y hk (addL_get (by omega) hy) z hz)⟩
  · rcases addL_mem hy with h1 | rfl
    · exact h.begs y h1
    · exact hx
  · rcases addL_mem hy with h1 | rfl
    · exact h.least X hX hc y h1
    · exact hl X hX hc
theorem Search.len {a : List Int} {f out : List Int} {i : Nat} (h : Search a (spotsL a) f out i) (ha : spotsE a = 0) : out.length ≤ 256 :=
  nodup_bound 256 out h.once (fun x hx => begsL_bounds ha x (h.begs x hx))
end Go.Proofs.Ytbmkbnalembbjaa

namespace Go.Proofs.Ytbmkbnalembbjaa
open Go.RowKit
def HeapIs (w : World) (base gh : Nat) (A : Option Addr) (n c : Nat) (S : List Spot) : Prop :=
  ∃ b Ao k co, Blk w gh 152 #[.slice A n c, .map (some b), .slice Ao k co] ∧ base ≤ gh ∧ base ≤ b ∧ MapIs w Try.prog 3 .i64 b 300 (headF S) ∧ w.ownsRow base 3 1 (.slice Ao k co) k ((begsL S).map (.int .i64))
theorem HeapIs.below {w w' : World} {base gh n c : Nat} {A : Option Addr} {S : List Spot} (h : HeapIs w base gh A n c S) (hb : Below w.heap.size w w') : HeapIs w' base gh A n c S := by
  obtain ⟨b, Ao, k, co, h1, h2, h3, h4, h5⟩ := h
  exact ⟨b, Ao, k, co, h1.below hb h1.lt, h2, h3, h4.below hb h4.lt, own_below h5 hb⟩
theorem HeapIs.mono {w : World} {base base' gh n c : Nat} {A : Option Addr} {S : List Spot} (h : HeapIs w base' gh A n c S) (hb : base ≤ base') : HeapIs w base gh A n c S := by
  obtain ⟨b, Ao, k, co, h1, h2, h3, h4, h5⟩ := h
  exact ⟨b, Ao, k, co, h1, by omega, by omega, h4, own_mono h5 hb⟩
theorem own_off {w : World} {base size n b : Nat} {e : TypeId} {v : Value} {xs : List Value} (h : w.ownsRow base e size v n xs) (hb : b < base) : v.ownBlock ≠ some b := fun hg => by have := (h.lt b hg).1; omega
end Go.Proofs.Ytbmkbnalembbjaa
