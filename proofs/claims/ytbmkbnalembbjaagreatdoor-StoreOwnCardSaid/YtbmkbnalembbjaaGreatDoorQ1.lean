/-
  Texts joined: ConcatInt Bits Hand Hand2 HandOpen HandLaw Contains Law LawElems LawSlots HandLive.
-/
import Derived.Test.YtbmkbnalembbjaaGreatDoorRows
import Derived.Lib.AppendZeros
import Derived.Deep.RegionHeld3
import Derived.StillTailTactics
import Derived.WalkKit
import Derived.ProofKit
import Derived.Deep.Slices
import Derived.Lib.SmallJoins
import Derived.Test.YtbmkbnalembbjaaGreatDoorQ0
namespace Go.Proofs.YtbmkbnalembbjaaGreatDoor
open Go.RowKit
set_option maxRecDepth 100000 in
set_option maxHeartbeats 400000 in
theorem growInt_nil (n : Nat) (w : World) (hn : n ≤ 35184372088832) :
    Calls Tryz.prog 123 #[.slice none 0 0, .int .i64 n] w fun e w' => ∃ A' c', e = .returned (.slice A' 0 c') ∧ w'.ownsRow w.heap.size 3 1 (.slice A' 0 c') 0 [] ∧ n ≤ c' ∧ Below w.heap.size w w' := by
  obtain ⟨i0, hi, hz0, hz1, hz2⟩ := info_parts info_int
  by_cases h0 : n = 0
  · subst h0
    go_enter Tryz.func123, Tryz.ntmps123
    go_wp2
    go_ret
    exact ⟨none, 0, rfl, World.ownsRow_nil _ _ _ _, Nat.le_refl _, Below.refl _ _⟩
  · have hw : IntKind.i64.wrap (n : Int) = n := IntWalk.i64_in _ (by omega)
    have g1 : decide (0 < n) = true := decide_eq_true (by omega)
    have hrun := fun ty => Lib.run_append_nil_zeros (P := Tryz.prog) w 23 3 ty 3 i0 _ .i64 .i64 Tryz.underlying23 Tryz.underlying3 hi hz0 n (by omega) (by rw [hz1]; decide) (by omega) (by rw [hz2]; omega)
    obtain ⟨cap, hcap, hc1, hc2⟩ : ∃ cap, cap = grownCap w n 0 3 ∧ n ≤ cap ∧ cap ≤ maxLen := ⟨_, rfl, grownCap_ge .., grownCap_le_maxLen _ _ _ _ (by unfold maxLen; omega)⟩
    rw [← hcap] at hrun
    have hsz : (Builtin.zeroCells (Value.int .i64 0).cells n ++ Builtin.zeroCells (Value.int .i64 0).cells (cap - n)).size = cap * 1 := by
      rw [Array.size_append, size_zeroCells, size_zeroCells]
      have : (Value.int .i64 0).cells.size = 1 := rfl
      rw [this]; omega
    generalize hcs : Builtin.zeroCells (Value.int .i64 0).cells n ++ Builtin.zeroCells (Value.int .i64 0).cells (cap - n) = cs at *
    have hfin : (w.drew.alloc (.cells cs 3)).ownsRow w.heap.size 3 1 (.slice (some ⟨w.heap.size, 0, none⟩) 0 cap) 0 [] := by
      have := own_close (w := w.drew.alloc (.cells cs 3)) (base := w.heap.size) (e := 3) (size := 1) (n := 0) (c := cap) (g := w.heap.size) cs.toList (Nat.le_refl _) (by simpa using heap_alloc_new w.drew _) (Nat.zero_le _) hc2 (by simpa using hsz)
      simpa using this
    have HF := Lib.hid hfin
    clear hfin hsz hcs hcap
    go_enter Tryz.func123, Tryz.ntmps123
    go_wp2_with (at_builtin; refine Lib.wpList_append_run _ rfl _ _ _ _ rfl _ _ rfl rfl _ _ (hrun _) ?_)
    go_ret
    exact ⟨_, _, rfl, HF.out, hc1, (Below.refl _ _).drew.alloc (Nat.le_refl _) _⟩
theorem Reads.pair {w : World} {B : Nat} {A : Option Addr} {x y : Value} (h : Reads w B 1 A 2 [x, y]) : ∃ ad, A = some ad ∧ ad.block < B ∧ w.cell? ad = some x ∧ w.cell? ⟨ad.block, ad.off + 1, none⟩ = some y := by
  obtain ⟨ad, u, e, hb, hu, hc⟩ := h.at_ (k := 0) (by decide)
  obtain ⟨ad', u', e', hb', hu', hc'⟩ := h.at_ (k := 1) (by decide)
  obtain rfl : ad' = ad := by rw [e] at e'; injection e' with e'; exact e'.symm
  simp at hu hu'
  subst hu
  subst hu'
  exact ⟨ad', e, hb, by simpa [Addr.add] using hc, by rw [addr_add_pos _ _ (by decide)] at hc'; exact hc'⟩
set_option maxRecDepth 100000 in
set_option maxHeartbeats 1000000 in
theorem concat2_int (A1 : Option Addr) (q1 c1 : Nat) (xs1 : List Value) (A2 : Option Addr) (q2 c2 : Nat) (xs2 : List Value) (Av : Option Addr) (cv : Nat) (w : World)
    (hv : Reads w w.heap.size 1 Av 2 [.slice A1 q1 c1, .slice A2 q2 c2]) (h1 : Reads w w.heap.size 1 A1 q1 xs1) (h2 : Reads w w.heap.size 1 A2 q2 xs2)
    (o1 : ∀ u ∈ xs1, u.oneCell' = true) (o2 : ∀ u ∈ xs2, u.oneCell' = true) (hq : q1 + q2 ≤ 35184372088832) :
    Calls Tryz.prog 91 #[.slice Av 2 cv] w fun e w' => ∃ A' c', e = .returned (.slice A' (q1 + q2) c') ∧ w'.ownsRow w.heap.size 3 1 (.slice A' (q1 + q2) c') (q1 + q2) (xs1 ++ xs2) ∧ Below w.heap.size w w' := by
  obtain ⟨i0, hi, hz0, hz1, hz2⟩ := info_parts info_int
  obtain ⟨ad, rfl, hbl, k0, k1⟩ := hv.pair
  obtain ⟨S, hS⟩ : ∃ S, S = q1 + q2 := ⟨_, rfl⟩
  have wS : IntKind.i64.wrap ((q1 : Int) + q2) = (S : Int) := by rw [IntWalk.i64_in _ (by omega)]; omega
  have wQ : IntKind.i64.wrap (q1 : Int) = (q1 : Int) := IntWalk.i64_in _ (by omega)
  have HG := Lib.hid (fun w => growInt_nil S w (by omega))
  have HS := Lib.hid hS
  rw [← hS]
  clear hS hv
  go_enter Tryz.func91, Tryz.ntmps91
  go_wp2_with fail
  go_loop [3, 5, 11] (fun sz _ i => (i = .int .i64 0 ∧ sz = .int .i64 0) ∨ (i = .int .i64 1 ∧ sz = .int .i64 q1) ∨ (i = .int .i64 2 ∧ sz = .int .i64 S)) (fun _ _ i => 2 - (intOf i).toNat)
  case atStart => exact .inl ⟨rfl, rfl⟩
  case round =>
    rcases hrel with ⟨rfl, rfl⟩ | ⟨rfl, rfl⟩ | ⟨rfl, rfl⟩
    · go_wp2_with fail
      go_round
      case rel => exact .inr (.inl ⟨rfl, rfl⟩)
      case measure => simp [intOf]
    · go_wp2_with fail
      go_round
      case rel => exact .inr (.inr ⟨rfl, rfl⟩)
      case measure => simp [intOf]
    · go_wp2_with fail
      refine (HG.out _).mono ?_
      rintro e w1 ⟨A', c', rfl, hown, hcap, hb⟩
      rw [HS.out] at hcap
      go_wp2
      go_loopw [6, 8, 27] (fun ns _ i wr => Below w.heap.size w wr ∧ ((∃ A' c', i = .int .i64 0 ∧ ns = .slice A' 0 c' ∧ wr.ownsRow w.heap.size 3 1 (.slice A' 0 c') 0 [] ∧ q1 + q2 ≤ c') ∨
        (∃ A' c', i = .int .i64 1 ∧ ns = .slice A' q1 c' ∧ wr.ownsRow w.heap.size 3 1 (.slice A' q1 c') q1 xs1 ∧ q1 + q2 ≤ c') ∨
        (∃ A' c', i = .int .i64 2 ∧ ns = .slice A' S c' ∧ wr.ownsRow w.heap.size 3 1 (.slice A' S c') S (xs1 ++ xs2)))) (fun _ _ i _ => 2 - (intOf i).toNat)
      case atStart => exact ⟨hb, .inl ⟨_, _, rfl, rfl, hown, hcap⟩⟩
      case round =>
        obtain ⟨hb, ⟨A', c', rfl, rfl, hown, hcap⟩ | ⟨A', c', rfl, rfl, hown, hcap⟩ | ⟨A', c', rfl, rfl, hown⟩⟩ := hrel
        · have m0 := (hb.cell (p := ad) hbl).trans k0
          obtain ⟨w2, hrun, hown2, hgr⟩ := run_append_fit (P := Tryz.prog) wr w.heap.size 23 23 3 i0 1 Tryz.underlying23 hi hz1 A' 0 c' [] hown w.heap.size A1 q1 c1 xs1 (h1.below hb) o1 (by decide) (by omega)
          go_wp2_with (at_builtin; refine Lib.wpList_append_run _ rfl _ _ _ _ rfl _ _ rfl rfl _ _ hrun ?_)
          have hb2 : Below w.heap.size w w2 := hb.grown hgr hb.size (fun g hg => (hown.lt g hg).1)
          rw [Nat.zero_add, List.nil_append] at hown2
          go_roundw
          case rel => exact ⟨hb2, .inr (.inl ⟨_, _, rfl, by simp, hown2, hcap⟩)⟩
          case measure => simp [intOf]
        · have m0 := (hb.cell (p := ⟨ad.block, ad.off + 1, none⟩) hbl).trans k1
          obtain ⟨w2, hrun, hown2, hgr⟩ := run_append_fit (P := Tryz.prog) wr w.heap.size 23 23 3 i0 1 Tryz.underlying23 hi hz1 A' q1 c' xs1 hown w.heap.size A2 q2 c2 xs2 (h2.below hb) o2 (by decide) hcap
          go_wp2_with (at_builtin; refine Lib.wpList_append_run _ rfl _ _ _ _ rfl _ _ rfl rfl _ _ hrun ?_)
          have hb2 : Below w.heap.size w w2 := hb.grown hgr hb.size (fun g hg => (hown.lt g hg).1)
          rw [← HS.out] at hown2
          go_roundw
          case rel => exact ⟨hb2, .inr (.inr ⟨_, _, rfl, by rw [HS.out], hown2⟩)⟩
          case measure => simp [intOf]
        · go_wp2
          go_ret
          exact ⟨A', c', rfl, hown, hb⟩
end Go.Proofs.YtbmkbnalembbjaaGreatDoor

namespace Go.Proofs.YtbmkbnalembbjaaGreatDoor
open Go.RowKit
theorem band16 (x : Int) (h0 : 0 ≤ x) (h1 : x < 18446744073709551616) : bits .and .u64 x 65535 = x % 65536 := by
  rw [u64_and x 65535 h0 h1 (by decide) (by decide), show (65535 : Int).toNat = 2 ^ 16 - 1 from rfl, Nat.and_two_pow_sub_one_eq_mod]
  omega
theorem band48 (x : Int) (h0 : 0 ≤ x) (h1 : x < 18446744073709551616) : bits .and .u64 x 281474976710656 = x / 281474976710656 % 2 * 281474976710656 := by
  rw [u64_and x 281474976710656 h0 h1 (by decide) (by decide), show (281474976710656 : Int).toNat = 2 ^ 48 from rfl, nat_bit]
  have : (2 : Nat) ^ 48 = 281474976710656 := by decide
  rw [this]
  omega
theorem bor_join (i : Nat) (x y : Int) (h0 : 0 ≤ x) (h1 : x < 18446744073709551616) (h2 : 0 ≤ y) (h3 : y < 18446744073709551616) (hx : x % 2 ^ i = 0) (hy : y < 2 ^ i) : bits .or .u64 y x = y + x := by
  obtain ⟨a, rfl⟩ := Int.eq_ofNat_of_zero_le h0
  obtain ⟨b, rfl⟩ := Int.eq_ofNat_of_zero_le h2
  rw [u64_or_nat b a (by omega) (by omega), Nat.or_comm, nat_join i a b (by exact_mod_cast hx) (by exact_mod_cast hy)]
  omega
theorem wrap_u64_of {x : Int} (h0 : 0 ≤ x) (h1 : x < 18446744073709551616) : IntKind.u64.wrap x = x := by
  have : IntKind.u64.wrap x = x % 18446744073709551616 := by simp [IntKind.wrap, IntKind.signed, IntKind.bits]
  rw [this]
  omega
end Go.Proofs.YtbmkbnalembbjaaGreatDoor

namespace Go.Proofs.YtbmkbnalembbjaaGreatDoor
open Go.RowKit
structure Slot where
  gen : Int
  opn : Bool
  loc : Int
deriving DecidableEq
def slotC (s : Slot) : List Value := [.int .i64 s.gen, .bool s.opn, .int .i64 s.loc]
def slotsC (l : List Slot) : List Value := l.flatMap slotC
theorem slotsC_length (l : List Slot) : (slotsC l).length = l.length * 3 := by
  induction l with
  | nil => rfl
  | cons a l ih => simp only [slotsC, List.flatMap_cons, List.length_append, List.length_cons] at ih ⊢; rw [ih]; simp [slotC]; omega
theorem slotsC_at (l : List Slot) (j i : Nat) (hj : j < l.length) (hi : i < 3) : (slotsC l)[j * 3 + i]? = (slotC l[j])[i]? := by
  induction l generalizing j with
  | nil => simp at hj
  | cons a l ih =>
    simp only [slotsC, List.flatMap_cons] at ih ⊢
    cases j with
    | zero => rw [List.getElem?_append_left (by simp [slotC]; omega)]; simp
    | succ j =>
      rw [List.getElem?_append_right (by simp [slotC]; omega)]
      have : (j + 1) * 3 + i - (slotC a).length = j * 3 + i := by simp [slotC]; omega
      rw [this]
      exact ih j (by simpa using hj)
theorem Reads.slot {w : World} {B : Nat} {A : Option Addr} {n j : Nat} {l : List Slot} (h : Reads w B 3 A n (slotsC l)) (hj : j < n) :
    ∃ ad s, A = some ad ∧ ad.block < B ∧ l[j]? = some s ∧ w.cell? (ad.add (j * 3)) = some (.int .i64 s.gen) ∧ w.cell? ⟨(ad.add (j * 3)).block, (ad.add (j * 3)).off + 1, none⟩ = some (.bool s.opn) ∧ w.cell? ⟨(ad.add (j * 3)).block, (ad.add (j * 3)).off + 2, none⟩ = some (.int .i64 s.loc) := by
  have hl : j < l.length := by have := h.1; rw [slotsC_length] at this; omega
  obtain ⟨ad, e, hb, hc⟩ := h.2 (by omega)
  refine ⟨ad, l[j], e, hb, List.getElem?_eq_getElem hl, ?_, ?_, ?_⟩
  · have := hc (j * 3 + 0) (.int .i64 l[j].gen) (by rw [slotsC_at l j 0 hl (by omega)]; rfl)
    exact this
  · have := hc (j * 3 + 1) _ (by rw [slotsC_at l j 1 hl (by omega)]; rfl)
    rw [← add_of_add] at this
    exact this
  · have := hc (j * 3 + 2) _ (by rw [slotsC_at l j 2 hl (by omega)]; rfl)
    rw [← add_of_add] at this
    exact this
def slotE (s : Slot) : Int :=
  if s.gen < 0 ∨ 65535 < s.gen ∨ s.loc < 0 ∨ 256 ≤ s.loc then 4
  else if (s.opn = true ∧ s.gen = 0) ∨ (s.opn = false ∧ s.loc ≠ 0) then 3 else 0
def slotsE : List Slot → Int
  | [] => 0
  | s :: r => if slotE s ≠ 0 then slotE s else slotsE r
def handE (l : List Slot) : Int := if 16 < l.length then 2 else slotsE l
theorem handThere_yes (x : Int) (w : World) (h : 0 ≤ x ∧ x < 256) : Calls Tryz.prog 89 #[.int .i64 x] w fun e w' => e = .returned (.bool true) ∧ w = w' := by
  obtain ⟨h1, h2⟩ := h
  go_enter Tryz.func89, Tryz.ntmps89
  go_wp2
  go_ret
  exact ⟨rfl, rfl⟩
theorem handThere_no (x : Int) (w : World) (h : x < 0 ∨ 256 ≤ x) : Calls Tryz.prog 89 #[.int .i64 x] w fun e w' => e = .returned (.bool false) ∧ w = w' := by
  have h' : x < 0 ∨ (0 ≤ x ∧ 256 ≤ x) := by omega
  clear h
  rcases h' with h | ⟨h1, h⟩
  all_goals
    go_enter Tryz.func89, Tryz.ntmps89
    go_wp2
    go_ret
    exact ⟨by first | rfl | (simp; omega), rfl⟩
set_option maxHeartbeats 400000 in
theorem handCheck_big (A : Option Addr) (n c : Nat) (w : World) (hn : 16 < n) :
    Calls Tryz.prog 56 #[.slice A n c] w fun e w' => e = .returned (.int .i64 2) ∧ Below w.heap.size w w' := by
  go_enter Tryz.func56, Tryz.ntmps56
  go_wp2
  go_ret
  exact ⟨rfl, Below.refl _ _⟩
set_option maxHeartbeats 1000000 in
theorem handCheck_small (A : Option Addr) (n c B : Nat) (l : List Slot) (w : World) (hr : Reads w B 3 A n (slotsC l)) (hB : B ≤ w.heap.size) (hn : n ≤ 16) :
    Calls Tryz.prog 56 #[.slice A n c] w fun e w' => e = .returned (.int .i64 (slotsE l)) ∧ Below w.heap.size w w' := by
  have hll : l.length = n := by have := hr.1; rw [slotsC_length] at this; omega
  have HL := Lib.hid hll
  clear hll
  go_enter Tryz.func56, Tryz.ntmps56
  go_wp2
  go_loopw [10] (fun i wr => ∃ j : Nat, j ≤ n ∧ i = .int .i64 j ∧ Below w.heap.size w wr ∧ slotsE (l.drop j) = slotsE l) (fun i _ => n - (intOf i).toNat)
  case atStart => exact ⟨0, Nat.zero_le _, rfl, Below.refl _ _, rfl⟩
  case round =>
    obtain ⟨j, hj, rfl, hb, hd⟩ := hrel
    have HD := Lib.hid hd
    clear hd
    by_cases hlt : j < n
    · obtain ⟨ad, s, rfl, had, hs, hc0, hc1, hc2⟩ := (hr.below (hb.mono hB)).slot hlt
      have HT : Hid (slotsE (l.drop j) = if slotE s ≠ 0 then slotE s else slotsE (l.drop (j + 1))) := by
        show _ = _
        obtain ⟨hl, rfl⟩ := List.getElem?_eq_some_iff.1 hs
        rw [List.drop_eq_getElem_cons hl]
        rfl
      clear hs
      obtain ⟨gen, opn, loc⟩ := s
      dsimp only at hc0 hc1 hc2
      have hbn := hb.trans (((Below.refl wr.heap.size wr).alloc (Nat.le_refl _) (.cells #[.int .i64 gen, .bool opn, .int .i64 loc] 60)).mono hb.size)
      by_cases h4 : gen < 0 ∨ 65535 < gen ∨ loc < 0 ∨ 256 ≤ loc
      · have HE : Hid (slotsE l = 4) := by
          show _ = _
          rw [← HD.out, HT.out]
          have : slotE ⟨gen, opn, loc⟩ = 4 := by unfold slotE; rw [if_pos h4]
          rw [this]
          rfl
        have h4' : (gen < 0 ∨ 65535 < gen) ∨ ((¬ gen < 0 ∧ ¬ 65535 < gen) ∧ (loc < 0 ∨ 256 ≤ loc)) := by
          by_cases hg : gen < 0 ∨ 65535 < gen
          · exact .inl hg
          · exact .inr ⟨by omega, by omega⟩
        clear h4
        rcases h4' with h4 | ⟨⟨g1, g2⟩, h4⟩
        · go_wp2_with fail
          all_goals
            go_ret
            exact ⟨ret_int HE.out.symm, hbn⟩
        · have H4 := Lib.hid h4
          clear h4
          go_wp2_with (go_at_call 89; refine (handThere_no _ _ H4.out).mono ?_; rintro e w' ⟨rfl, rfl⟩)
          all_goals
            go_ret
            exact ⟨ret_int HE.out.symm, hbn⟩
      · have g1 : ¬ gen < 0 := by omega
        have g2 : ¬ 65535 < gen := by omega
        have G3 : Hid (0 ≤ loc ∧ loc < 256) := by show _ ∧ _; omega
        by_cases h3 : (opn = true ∧ gen = 0) ∨ (opn = false ∧ loc ≠ 0)
        · have HE : Hid (slotsE l = 3) := by
            show _ = _
            rw [← HD.out, HT.out]
            have : slotE ⟨gen, opn, loc⟩ = 3 := by unfold slotE; rw [if_neg h4, if_pos h3]
            rw [this]
            rfl
          clear h4
          rcases h3 with ⟨rfl, rfl⟩ | ⟨rfl, h3⟩
          · go_wp2_with (go_at_call 89; refine (handThere_yes _ _ G3.out).mono ?_; rintro e w' ⟨rfl, rfl⟩)
            go_ret
            exact ⟨ret_int HE.out.symm, hbn⟩
          · have e1 : (loc != 0) = true := by simpa using h3
            have e2 : (loc == 0) = false := by simpa using h3
            go_wp2_with (go_at_call 89; refine (handThere_yes _ _ G3.out).mono ?_; rintro e w' ⟨rfl, rfl⟩)
            go_ret
            exact ⟨ret_int HE.out.symm, hbn⟩
        · have HE : Hid (slotsE (l.drop (j + 1)) = slotsE l) := by
            show _ = _
            rw [← HD.out, HT.out]
            have : slotE ⟨gen, opn, loc⟩ = 0 := by unfold slotE; rw [if_neg h4, if_neg h3]
            rw [this]
            rfl
          have h3' : (opn = true ∧ gen ≠ 0) ∨ (opn = false ∧ loc = 0) := by
            cases opn
            · exact .inr ⟨rfl, by simpa using h3⟩
            · exact .inl ⟨rfl, by simpa using h3⟩
          clear h4 h3
          rcases h3' with ⟨rfl, h3⟩ | ⟨rfl, rfl⟩
          · have e1 : (gen != 0) = true := by simpa using h3
            have e2 : (gen == 0) = false := by simpa using h3
            go_wp2_with (go_at_call 89; refine (handThere_yes _ _ G3.out).mono ?_; rintro e w' ⟨rfl, rfl⟩)
            go_roundw
            case rel => exact ⟨j + 1, by omega, by go_num, hbn, HE.out⟩
            case measure => simp [intOf]; omega
          · go_wp2_with (go_at_call 89; refine (handThere_yes _ _ G3.out).mono ?_; rintro e w' ⟨rfl, rfl⟩)
            go_roundw
            case rel => exact ⟨j + 1, by omega, by go_num, hbn, HE.out⟩
            case measure => simp [intOf]; omega
    · go_wp2
      go_ret
      refine ⟨ret_int ?_, hb⟩
      rw [← HD.out, List.drop_of_length_le (by rw [HL.out]; omega)]
      rfl
theorem handE_small (l : List Slot) (n : Nat) (h : l.length = n) (hn : n ≤ 16) : handE l = slotsE l := by unfold handE; rw [if_neg (by omega)]
theorem handCheck_any (A : Option Addr) (n c B : Nat) (l : List Slot) (w : World) (hr : Reads w B 3 A n (slotsC l)) (hB : B ≤ w.heap.size) :
    Calls Tryz.prog 56 #[.slice A n c] w fun e w' => e = .returned (.int .i64 (handE l)) ∧ Below w.heap.size w w' := by
  have hll : l.length = n := by have := hr.1; rw [slotsC_length] at this; omega
  by_cases h : 16 < n
  · rw [show handE l = 2 from by unfold handE; rw [if_pos (by omega)]]
    exact handCheck_big A n c w h
  · rw [handE_small l n hll (by omega)]
    exact handCheck_small A n c B l w hr hB (by omega)
theorem slotE_ok {s : Slot} : slotE s = 0 ↔ (0 ≤ s.gen ∧ s.gen ≤ 65535 ∧ 0 ≤ s.loc ∧ s.loc < 256 ∧ (s.opn = true → s.gen ≠ 0) ∧ (s.opn = false → s.loc = 0)) := by
  unfold slotE
  constructor
  · intro h
    split at h
    · cases h
    · split at h
      · cases h
      · rename_i a b
        exact ⟨by omega, by omega, by omega, by omega, fun ho hg => b (.inl ⟨ho, hg⟩), fun ho => Classical.byContradiction fun hl => b (.inr ⟨ho, hl⟩)⟩
  · rintro ⟨h1, h2, h3, h4, h5, h6⟩
    rw [if_neg (by omega), if_neg]
    rintro (⟨ho, hg⟩ | ⟨ho, hl⟩)
    · exact h5 ho hg
    · exact hl (h6 ho)
theorem slotsE_ok {l : List Slot} : slotsE l = 0 ↔ ∀ s ∈ l, slotE s = 0 := by
  induction l with
  | nil => simp [slotsE]
  | cons a l ih =>
    unfold slotsE
    split
    · rename_i h
      constructor
      · intro h2; exact absurd h2 h
      · intro h2; exact absurd (h2 a (by simp)) h
    · rename_i h
      rw [ih]
      constructor
      · intro h2 s hs
        rcases List.mem_cons.1 hs with rfl | hs
        · simpa using h
        · exact h2 s hs
      · intro h2 s hs; exact h2 s (List.mem_cons_of_mem _ hs)
theorem handE_ok {l : List Slot} : handE l = 0 ↔ l.length ≤ 16 ∧ ∀ s ∈ l, slotE s = 0 := by
  unfold handE
  split
  · constructor
    · intro h; cases h
    · rintro ⟨h, _⟩; omega
  · rw [slotsE_ok]
    constructor
    · intro h; exact ⟨by omega, h⟩
    · intro h; exact h.2
def nameOf (i gen : Int) : Int := i + gen * 65536
set_option maxHeartbeats 400000 in
theorem handName_any (i gen loc : Int) (opn : Bool) (w : World) (h1 : 0 ≤ i ∧ i < 65536) (h2 : 0 ≤ gen ∧ gen ≤ 65535) :
    Calls Tryz.prog 115 #[.int .i64 i, .agg #[.int .i64 gen, .bool opn, .int .i64 loc]] w fun e w' => e = .returned (.int .u64 (i + gen * 65536)) ∧ Below w.heap.size w w' := by
  have o1 := bor_join 16 (gen * 65536) i (by omega) (by omega) (by omega) (by omega) (by omega) (by omega)
  obtain ⟨g1, g2⟩ := h1
  obtain ⟨g3, g4⟩ := h2
  go_enter Tryz.func115, Tryz.ntmps115
  go_wp2
  go_ret
  exact ⟨rfl, below_new _ _⟩
def Found (l : List Slot) (n : Int) (i : Nat) (s : Slot) : Prop := n % 65536 = (i : Int) ∧ l[i]? = some s ∧ s.opn = true ∧ (i : Int) + s.gen * 65536 = n
set_option maxHeartbeats 400000 in
theorem find_bad (A : Option Addr) (n c B : Nat) (l : List Slot) (v : Int) (w : World) (hr : Reads w B 3 A n (slotsC l)) (hB : B ≤ w.heap.size) (hE : handE l ≠ 0) :
    Calls Tryz.prog 116 #[.slice A n c, .int .u64 v] w fun e w' => e = .returned (.tuple #[.int .i64 0, .int .i64 (handE l)]) ∧ Below w.heap.size w w' := by
  have H := handCheck_any A n c B l w hr hB
  have HH := Lib.hid H
  clear H
  generalize handE l = E at *
  have hE1 : (E != 0) = true := by simpa using hE
  have hE2 : (E == 0) = false := by simpa using hE
  go_enter Tryz.func116, Tryz.ntmps116
  go_wp2_with (go_at_call 56; refine HH.out.mono ?_; rintro e w1 ⟨rfl, hb1⟩)
  go_ret2
  exact ⟨rfl, hb1⟩
set_option maxHeartbeats 400000 in
theorem find_ok (A : Option Addr) (n c B : Nat) (l : List Slot) (v : Int) (i : Nat) (s : Slot) (w : World) (hr : Reads w B 3 A n (slotsC l)) (hB : B ≤ w.heap.size) (hE : handE l = 0) (v0 : 0 ≤ v) (v1 : v < 18446744073709551616) (hf : Found l v i s) :
    Calls Tryz.prog 116 #[.slice A n c, .int .u64 v] w fun e w' => e = .returned (.tuple #[.int .i64 i, .int .i64 0]) ∧ Below w.heap.size w w' := by
  have H := handCheck_any A n c B l w hr hB
  rw [hE] at H
  have HH := Lib.hid H
  obtain ⟨hlen, hall⟩ := handE_ok.1 hE
  have hll : l.length = n := by have := hr.1; rw [slotsC_length] at this; omega
  obtain ⟨hi, hs, ho, hn⟩ := hf
  have hil : i < n := by have := (List.getElem?_eq_some_iff.1 hs).1; omega
  have hb := band16 v v0 v1
  rw [hi] at hb
  obtain ⟨g1, g2, _, _, _, _⟩ := slotE_ok.1 (hall s (List.mem_of_getElem? hs))
  obtain ⟨ad, s', rfl, had, hs', c0, c1, c2⟩ := hr.slot hil
  obtain rfl : s' = s := by rw [hs] at hs'; exact (Option.some.inj hs').symm
  have HC0 := Lib.hid c0
  have HC1 := Lib.hid c1
  have HC2 := Lib.hid c2
  have HN := Lib.hid hn
  clear H hE hall hi hs hs' c0 c1 c2 hn hr
  obtain ⟨gen, opn, loc⟩ := s'
  obtain rfl : opn = true := ho
  dsimp only at g1 g2 HC0 HC1 HC2 HN
  have hil2 : (i : Int) < n := by omega
  have hn16 : n ≤ 16 := by omega
  have hbl : (ad.add (i * 3)).block < w.heap.size := by rw [block_of_add]; omega
  have hle : ¬ (n : Int) ≤ i := by omega
  clear hll
  go_enter Tryz.func116, Tryz.ntmps116
  go_wp2_with fail
  refine HH.out.mono ?_
  rintro e w1 ⟨rfl, hb1⟩
  have c0 := (hb1.cell (p := ad.add (i * 3)) hbl).trans HC0.out
  have c1 := (hb1.cell (p := ⟨(ad.add (i * 3)).block, (ad.add (i * 3)).off + 1, none⟩) hbl).trans HC1.out
  have c2 := (hb1.cell (p := ⟨(ad.add (i * 3)).block, (ad.add (i * 3)).off + 2, none⟩) hbl).trans HC2.out
  go_wp2_with fail
  refine (handName_any _ _ _ _ _ (by omega) (by omega)).mono ?_
  rw [HN.out]
  rintro e w2 ⟨rfl, hb2⟩
  clear c0 c1 c2
  go_wp2
  go_ret2
  exact ⟨rfl, below_step hb1 hb2⟩
set_option maxHeartbeats 400000 in
theorem find_stale (A : Option Addr) (n c B : Nat) (l : List Slot) (v : Int) (w : World) (hr : Reads w B 3 A n (slotsC l)) (hB : B ≤ w.heap.size) (hE : handE l = 0) (v0 : 0 ≤ v) (v1 : v < 18446744073709551616) (hf : ∀ i s, ¬ Found l v i s) :
    Calls Tryz.prog 116 #[.slice A n c, .int .u64 v] w fun e w' => e = .returned (.tuple #[.int .i64 0, .int .i64 9]) ∧ Below w.heap.size w w' := by
  have H := handCheck_any A n c B l w hr hB
  rw [hE] at H
  have HH := Lib.hid H
  obtain ⟨hlen, hall⟩ := handE_ok.1 hE
  have hll : l.length = n := by have := hr.1; rw [slotsC_length] at this; omega
  obtain ⟨i, hi⟩ := Int.eq_ofNat_of_zero_le (show 0 ≤ v % 65536 by omega)
  have hb := band16 v v0 v1
  rw [hi] at hb
  have hn16 : n ≤ 16 := by omega
  have hi6 : i < 65536 := by omega
  by_cases hil : i < n
  · obtain ⟨ad, s, rfl, had, hs, c0, c1, c2⟩ := hr.slot hil
    obtain ⟨g1, g2, _, _, _, _⟩ := slotE_ok.1 (hall s (List.mem_of_getElem? hs))
    have hnf := hf i s
    have hcase : s.opn = false ∨ (s.opn = true ∧ (i : Int) + s.gen * 65536 ≠ v) := by
      cases ho : s.opn
      · exact .inl rfl
      · exact .inr ⟨rfl, fun h => hnf ⟨hi, hs, ho, h⟩⟩
    have HC0 := Lib.hid c0
    have HC1 := Lib.hid c1
    have HC2 := Lib.hid c2
    clear H hE hall hi hs c0 c1 c2 hr hf hnf hll
    obtain ⟨gen, opn, loc⟩ := s
    dsimp only at g1 g2 HC0 HC1 HC2 hcase
    have hil2 : (i : Int) < n := by omega
    have hbl : (ad.add (i * 3)).block < w.heap.size := by rw [block_of_add]; omega
    have hle : ¬ (n : Int) ≤ i := by omega
    rcases hcase with rfl | ⟨rfl, hne⟩
    · go_enter Tryz.func116, Tryz.ntmps116
      go_wp2_with fail
      refine HH.out.mono ?_
      rintro e w1 ⟨rfl, hb1⟩
      have c0 := (hb1.cell (p := ad.add (i * 3)) hbl).trans HC0.out
      have c1 := (hb1.cell (p := ⟨(ad.add (i * 3)).block, (ad.add (i * 3)).off + 1, none⟩) hbl).trans HC1.out
      have c2 := (hb1.cell (p := ⟨(ad.add (i * 3)).block, (ad.add (i * 3)).off + 2, none⟩) hbl).trans HC2.out
      go_wp2_with fail
      go_ret2
      exact ⟨rfl, hb1⟩
    · have HN : Hid ((i : Int) + gen * 65536 ≠ v) := hne
      clear hne
      go_enter Tryz.func116, Tryz.ntmps116
      go_wp2_with fail
      refine HH.out.mono ?_
      rintro e w1 ⟨rfl, hb1⟩
      have c0 := (hb1.cell (p := ad.add (i * 3)) hbl).trans HC0.out
      have c1 := (hb1.cell (p := ⟨(ad.add (i * 3)).block, (ad.add (i * 3)).off + 1, none⟩) hbl).trans HC1.out
      have c2 := (hb1.cell (p := ⟨(ad.add (i * 3)).block, (ad.add (i * 3)).off + 2, none⟩) hbl).trans HC2.out
      go_wp2_with fail
      refine (handName_any _ _ _ _ _ (by omega) (by omega)).mono ?_
      have hn := HN.out
      generalize (i : Int) + gen * 65536 = nm at hn ⊢
      have e1 : (nm == v) = false := by simpa using hn
      have e2 : (nm != v) = true := by simpa using hn
      rintro e w2 ⟨rfl, hb2⟩
      clear c0 c1 c2
      go_wp2
      go_ret2
      exact ⟨rfl, below_step hb1 hb2⟩
  · have hle : (n : Int) ≤ i := by omega
    clear H hE hall hi hf hll
    go_enter Tryz.func116, Tryz.ntmps116
    go_wp2_with fail
    refine HH.out.mono ?_
    rintro e w1 ⟨rfl, hb1⟩
    go_wp2_with fail
    go_ret2
    exact ⟨rfl, hb1⟩
end Go.Proofs.YtbmkbnalembbjaaGreatDoor

namespace Go.Proofs.YtbmkbnalembbjaaGreatDoor
open Go.RowKit
theorem slotsC_one (l : List Slot) : ∀ u ∈ slotsC l, u.oneCell' = true := by
  intro u hu
  obtain ⟨s, _, hs⟩ := List.mem_flatMap.1 hu
  simp only [slotC, List.mem_cons, List.not_mem_nil, or_false] at hs
  rcases hs with rfl | rfl | rfl <;> rfl
theorem slotsC_set (l : List Slot) (i : Nat) (s : Slot) : (((slotsC l).set (i * 3) (.int .i64 s.gen)).set (i * 3 + 1) (.bool s.opn)).set (i * 3 + 2) (.int .i64 s.loc) = slotsC (l.set i s) := by
  induction l generalizing i with
  | nil => simp [slotsC]
  | cons a l ih =>
    cases i with
    | zero => simp [slotsC, slotC]
    | succ i =>
      have e : (i + 1) * 3 = i * 3 + 1 + 1 + 1 := by omega
      have := ih i
      simp only [slotsC, slotC, List.flatMap_cons, List.cons_append, List.nil_append, e, List.set_cons_succ] at this ⊢
      rw [← this]
def slotFree (s : Slot) : Bool := !s.opn && decide (s.gen < 65535)
def freeIx (l : List Slot) : Int := match l.findIdx? slotFree with | some i => (i : Int) | none => -1
theorem freeIx_some (l : List Slot) (i : Nat) (s : Slot) (h : l[i]? = some s) (hs : slotFree s = true) (hb : ∀ x ∈ l.take i, slotFree x = false) : freeIx l = i := by
  unfold freeIx
  have : l.findIdx? slotFree = some i := by
    obtain ⟨hl, rfl⟩ := List.getElem?_eq_some_iff.1 h
    rw [List.findIdx?_eq_some_iff_getElem]
    refine ⟨hl, hs, fun j hj => ?_⟩
    have := hb l[j] (by rw [List.mem_take_iff_getElem]; exact ⟨j, by omega, rfl⟩)
    rw [this]
    simp
  rw [this]
theorem freeIx_none (l : List Slot) (hb : ∀ x ∈ l, slotFree x = false) : freeIx l = -1 := by
  unfold freeIx
  have : l.findIdx? slotFree = none := by
    rw [List.findIdx?_eq_none_iff]
    exact hb
  rw [this]
theorem freeIx_cases (l : List Slot) : (freeIx l = -1 ∧ ∀ x ∈ l, slotFree x = false) ∨ ∃ (i : Nat) (s : Slot), freeIx l = i ∧ l[i]? = some s ∧ slotFree s = true := by
  unfold freeIx
  cases h : l.findIdx? slotFree with
  | none => exact .inl ⟨rfl, List.findIdx?_eq_none_iff.1 h⟩
  | some i =>
    obtain ⟨hl, hs, _⟩ := List.findIdx?_eq_some_iff_getElem.1 h
    exact .inr ⟨i, l[i], rfl, List.getElem?_eq_getElem hl, hs⟩
set_option maxHeartbeats 400000 in
theorem isFree_any (gen loc : Int) (opn : Bool) (w : World) :
    Calls Tryz.prog 114 #[.agg #[.int .i64 gen, .bool opn, .int .i64 loc]] w fun e w' => e = .returned (.bool (slotFree ⟨gen, opn, loc⟩)) ∧ Below w.heap.size w w' := by
  cases opn
  · by_cases h : gen < 65535
    · have HE : Hid (slotFree ⟨gen, false, loc⟩ = true) := by show _ = _; simp [slotFree, h]
      go_enter Tryz.func114, Tryz.ntmps114
      go_wp2
      go_ret
      exact ⟨by rw [HE.out]; rfl, below_new _ _⟩
    · have HE : Hid (slotFree ⟨gen, false, loc⟩ = false) := by show _ = _; simp [slotFree]; omega
      go_enter Tryz.func114, Tryz.ntmps114
      go_wp2
      go_ret
      exact ⟨by rw [HE.out]; rfl, below_new _ _⟩
  · have HE : Hid (slotFree ⟨gen, true, loc⟩ = false) := by show _ = _; simp [slotFree]
    go_enter Tryz.func114, Tryz.ntmps114
    go_wp2
    go_ret
    exact ⟨by rw [HE.out]; rfl, below_new _ _⟩
set_option maxHeartbeats 1000000 in
theorem indexFree_any (A : Option Addr) (n c B : Nat) (l : List Slot) (w : World) (hr : Reads w B 3 A n (slotsC l)) (hB : B ≤ w.heap.size) (hn : n ≤ 1000000) :
    Calls Tryz.prog 113 #[.slice A n c, .func (.func 114) #[] #[]] w fun e w' => e = .returned (.int .i64 (freeIx l)) ∧ Below w.heap.size w w' := by
  have hll : l.length = n := by have := hr.1; rw [slotsC_length] at this; omega
  have HL := Lib.hid hll
  clear hll
  go_enter Tryz.func113, Tryz.ntmps113
  go_wp2
  go_loopw [8] (fun i wr => ∃ j : Nat, j ≤ n ∧ i = .int .i64 j ∧ Below w.heap.size w wr ∧ ∀ x ∈ l.take j, slotFree x = false) (fun i _ => n - (intOf i).toNat)
  case atStart => exact ⟨0, Nat.zero_le _, rfl, Below.refl _ _, by simp⟩
  case round =>
    obtain ⟨j, hj, rfl, hb, hd⟩ := hrel
    have HD := Lib.hid hd
    clear hd
    by_cases hlt : j < n
    · obtain ⟨ad, s, rfl, had, hs, hc0, hc1, hc2⟩ := (hr.below (hb.mono hB)).slot hlt
      have HS := Lib.hid hs
      clear hs
      have HQ : Hid (∀ x ∈ l.take (j + 1), x ∈ l.take j ∨ x = s) := by
        intro x hx
        obtain ⟨hl, rfl⟩ := List.getElem?_eq_some_iff.1 HS.out
        rw [List.take_succ_eq_append_getElem hl, List.mem_append, List.mem_singleton] at hx
        exact hx
      obtain ⟨gen, opn, loc⟩ := s
      dsimp only at hc0 hc1 hc2
      cases hfr : slotFree ⟨gen, opn, loc⟩
      · have HF := Lib.hid hfr
        clear hfr
        go_wp2_with (go_at_call 114; refine (isFree_any _ _ _ _).mono ?_; rw [HF.out]; rintro e w1 ⟨rfl, hb1⟩)
        go_roundw
        case rel => exact ⟨j + 1, by omega, by go_num, hb.trans (hb1.mono hb.size), fun x hx => by
          rcases HQ.out x hx with h | rfl
          · exact HD.out x h
          · exact HF.out⟩
        case measure => simp [intOf]; omega
      · have HF := Lib.hid hfr
        clear hfr
        go_wp2_with (go_at_call 114; refine (isFree_any _ _ _ _).mono ?_; rw [HF.out]; rintro e w1 ⟨rfl, hb1⟩)
        go_ret
        exact ⟨ret_int (freeIx_some l j _ HS.out HF.out HD.out).symm, hb.trans (hb1.mono hb.size)⟩
    · go_wp2
      go_ret
      exact ⟨ret_int (freeIx_none l (by have := HD.out; rwa [List.take_of_length_le (by rw [HL.out]; omega)] at this)).symm, hb⟩
theorem info_slot : (Tryz.prog.info? 60).map (fun i => (i.zero, i.size, i.bytes)) = some (some (.agg #[.int .i64 0, .bool false, .int .i64 0]), 3, 24) := by kernel_rfl
theorem own_slot {w : World} {base g n c j : Nat} {e : TypeId} {l : List Slot} {s : Slot} (h : w.ownsRow base e 3 (.slice (some ⟨g, 0, none⟩) n c) n (slotsC l)) (hs : l[j]? = some s) :
    w.cell? ⟨g, j * 3, none⟩ = some (.int .i64 s.gen) ∧ w.cell? ⟨g, j * 3 + 1, none⟩ = some (.bool s.opn) ∧ w.cell? ⟨g, j * 3 + 2, none⟩ = some (.int .i64 s.loc) := by
  obtain ⟨hl, rfl⟩ := List.getElem?_eq_some_iff.1 hs
  have hn : l.length = n := by have := h.1; rw [slotsC_length] at this; omega
  refine ⟨?_, ?_, ?_⟩
  · rw [h.cellAt (j * 3) (by omega)]
    exact slotsC_at l j 0 hl (by omega)
  · rw [h.cellAt (j * 3 + 1) (by omega)]
    exact slotsC_at l j 1 hl (by omega)
  · rw [h.cellAt (j * 3 + 2) (by omega)]
    exact slotsC_at l j 2 hl (by omega)
theorem below_set3 {B : Nat} {w w' : World} (h : Below B w w') {g : Nat} (hg : B ≤ g) (a b c : Nat) (x y z : Value) : Below B w (((w'.setCell ⟨g, a, none⟩ x).setCell ⟨g, b, none⟩ y).setCell ⟨g, c, none⟩ z) :=
  ((h.setCell (p := ⟨g, a, none⟩) hg x).setCell (p := ⟨g, b, none⟩) hg y).setCell (p := ⟨g, c, none⟩) hg z
set_option maxHeartbeats 400000 in
theorem look_bad (A : Option Addr) (n c B : Nat) (l : List Slot) (v : Int) (w : World) (hr : Reads w B 3 A n (slotsC l)) (hB : B ≤ w.heap.size) (hE : handE l ≠ 0) :
    Calls Tryz.prog 82 #[.slice A n c, .int .u64 v] w fun e w' => e = .returned (.tuple #[.int .i64 0, .int .i64 (handE l)]) ∧ Below w.heap.size w w' := by
  have H := find_bad A n c B l v w hr hB hE
  have HH := Lib.hid H
  clear H
  generalize handE l = E at *
  have hE1 : (E != 0) = true := by simpa using hE
  have hE2 : (E == 0) = false := by simpa using hE
  go_enter Tryz.func82, Tryz.ntmps82
  go_wp2_with (go_at_call 116; refine HH.out.mono ?_; rintro e w1 ⟨rfl, hb1⟩)
  go_ret2
  exact ⟨rfl, hb1⟩
set_option maxHeartbeats 400000 in
theorem look_stale (A : Option Addr) (n c B : Nat) (l : List Slot) (v : Int) (w : World) (hr : Reads w B 3 A n (slotsC l)) (hB : B ≤ w.heap.size) (hE : handE l = 0) (v0 : 0 ≤ v) (v1 : v < 18446744073709551616) (hf : ∀ i s, ¬ Found l v i s) :
    Calls Tryz.prog 82 #[.slice A n c, .int .u64 v] w fun e w' => e = .returned (.tuple #[.int .i64 0, .int .i64 9]) ∧ Below w.heap.size w w' := by
  have H := find_stale A n c B l v w hr hB hE v0 v1 hf
  have HH := Lib.hid H
  clear H hE
  go_enter Tryz.func82, Tryz.ntmps82
  go_wp2_with (go_at_call 116; refine HH.out.mono ?_; rintro e w1 ⟨rfl, hb1⟩)
  go_ret2
  exact ⟨rfl, hb1⟩
set_option maxHeartbeats 400000 in
theorem look_ok (A : Option Addr) (n c B : Nat) (l : List Slot) (v : Int) (i : Nat) (s : Slot) (w : World) (hr : Reads w B 3 A n (slotsC l)) (hB : B ≤ w.heap.size) (hE : handE l = 0) (v0 : 0 ≤ v) (v1 : v < 18446744073709551616) (hf : Found l v i s) :
    Calls Tryz.prog 82 #[.slice A n c, .int .u64 v] w fun e w' => e = .returned (.tuple #[.int .i64 s.loc, .int .i64 0]) ∧ Below w.heap.size w w' := by
  have H := find_ok A n c B l v i s w hr hB hE v0 v1 hf
  have HH := Lib.hid H
  have hll : l.length = n := by have := hr.1; rw [slotsC_length] at this; omega
  have hs := hf.2.1
  have hil : i < n := by have := (List.getElem?_eq_some_iff.1 hs).1; omega
  have hn16 : n ≤ 16 := by have := (handE_ok.1 hE).1; omega
  obtain ⟨ad, s', rfl, had, hs', c0, c1, c2⟩ := hr.slot hil
  obtain rfl : s' = s := by rw [hs] at hs'; exact (Option.some.inj hs').symm
  have HC2 := Lib.hid c2
  clear H hE hf hs hs' c0 c1 c2 hr hll
  obtain ⟨gen, opn, loc⟩ := s'
  dsimp only at HC2 ⊢
  have hil2 : (i : Int) < n := by omega
  have hbl : (ad.add (i * 3)).block < w.heap.size := by rw [block_of_add]; omega
  go_enter Tryz.func82, Tryz.ntmps82
  go_wp2_with fail
  refine HH.out.mono ?_
  rintro e w1 ⟨rfl, hb1⟩
  have c2 := (hb1.cell (p := ⟨(ad.add (i * 3)).block, (ad.add (i * 3)).off + 2, none⟩) hbl).trans HC2.out
  go_wp2
  go_ret2
  exact ⟨rfl, hb1⟩
set_option maxHeartbeats 400000 in
theorem close_stale (A : Option Addr) (n c B : Nat) (l : List Slot) (v : Int) (w : World) (hr : Reads w B 3 A n (slotsC l)) (hB : B ≤ w.heap.size) (hE : handE l = 0) (v0 : 0 ≤ v) (v1 : v < 18446744073709551616) (hf : ∀ i s, ¬ Found l v i s) :
    Calls Tryz.prog 83 #[.slice A n c, .int .u64 v] w fun e w' => e = .returned (.tuple #[.slice none 0 0, .int .i64 9]) ∧ Below w.heap.size w w' := by
  have H := find_stale A n c B l v w hr hB hE v0 v1 hf
  have HH := Lib.hid H
  clear H hE
  go_enter Tryz.func83, Tryz.ntmps83
  go_wp2_with (go_at_call 116; refine HH.out.mono ?_; rintro e w1 ⟨rfl, hb1⟩)
  go_ret2
  exact ⟨rfl, hb1⟩
end Go.Proofs.YtbmkbnalembbjaaGreatDoor

namespace Go.Proofs.YtbmkbnalembbjaaGreatDoor
open Go.RowKit
def openE (l : List Slot) (loc : Int) : Int := if handE l ≠ 0 then handE l else if loc < 0 ∨ 256 ≤ loc then 4 else if freeIx l = -1 then 7 else 0
theorem openE_ok {l : List Slot} {loc : Int} (h : openE l loc = 0) : handE l = 0 ∧ 0 ≤ loc ∧ loc < 256 ∧ ∃ (i : Nat) (s : Slot), freeIx l = i ∧ l[i]? = some s ∧ slotFree s = true := by
  unfold openE at h
  split at h
  · rename_i a; exact absurd h a
  · rename_i a
    split at h
    · cases h
    · rename_i b
      split at h
      · cases h
      · rename_i c
        refine ⟨by simpa using a, by omega, by omega, ?_⟩
        rcases freeIx_cases l with ⟨h1, _⟩ | h1
        · exact absurd h1 c
        · exact h1
set_option maxHeartbeats 400000 in
theorem open_bad (A : Option Addr) (n c B : Nat) (l : List Slot) (loc : Int) (w : World) (hr : Reads w B 3 A n (slotsC l)) (hB : B ≤ w.heap.size) (hE : openE l loc ≠ 0) :
    Calls Tryz.prog 80 #[.slice A n c, .int .i64 loc] w fun e w' => e = .returned (.tuple #[.slice none 0 0, .int .u64 0, .int .i64 (openE l loc)]) ∧ Below w.heap.size w w' := by
  have H := handCheck_any A n c B l w hr hB
  have HH := Lib.hid H
  clear H
  by_cases h1 : handE l = 0
  · by_cases h2 : loc < 0 ∨ 256 ≤ loc
    · have HE : Hid (openE l loc = 4) := by show _ = _; unfold openE; rw [if_neg (by simpa using h1), if_pos h2]
      have HH : Hid (Calls Tryz.prog 56 #[.slice A n c] w fun e w' => e = .returned (.int .i64 0) ∧ Below w.heap.size w w') := by have := HH.out; rw [h1] at this; exact this
      have H2 := Lib.hid h2
      clear h1 h2 hE
      go_enter Tryz.func80, Tryz.ntmps80
      go_wp2_with (first
        | (go_at_call 56; refine HH.out.mono ?_; rintro e w1 ⟨rfl, hb1⟩)
        | (go_at_call 89; refine (handThere_no _ _ H2.out).mono ?_; rintro e w2 ⟨rfl, rfl⟩))
      go_ret3
      exact ⟨by rw [HE.out]; rfl, hb1⟩
    · have h3 : freeIx l = -1 := by
        unfold openE at hE
        rw [if_neg (by simpa using h1), if_neg h2] at hE
        by_cases h : freeIx l = -1
        · exact h
        · rw [if_neg h] at hE; exact absurd rfl hE
      have HE : Hid (openE l loc = 7) := by show _ = _; unfold openE; rw [if_neg (by simpa using h1), if_neg h2, if_pos h3]
      have HH : Hid (Calls Tryz.prog 56 #[.slice A n c] w fun e w' => e = .returned (.int .i64 0) ∧ Below w.heap.size w w') := by have := HH.out; rw [h1] at this; exact this
      have hn16 : n ≤ 16 := by have := (handE_ok.1 h1).1; have := hr.1; rw [slotsC_length] at this; omega
      have H2 : Hid (0 ≤ loc ∧ loc < 256) := by show _ ∧ _; omega
      have H3 := Lib.hid h3
      clear h1 h2 hE h3
      go_enter Tryz.func80, Tryz.ntmps80
      go_wp2_with (first
        | (go_at_call 56; refine HH.out.mono ?_; rintro e w1 ⟨rfl, hb1⟩)
        | (go_at_call 89; refine (handThere_yes _ _ H2.out).mono ?_; rintro e w2 ⟨rfl, rfl⟩)
        | (go_at_call 113; refine (indexFree_any _ _ _ _ _ _ (hr.below (hb1.mono hB)) (Nat.le_trans hB hb1.size) (by omega)).mono ?_; rw [H3.out]; rintro e w3 ⟨rfl, hb3⟩))
      go_ret3
      exact ⟨by rw [HE.out]; rfl, below_step hb1 hb3⟩
  · have HE : Hid (openE l loc = handE l) := by show _ = _; unfold openE; rw [if_pos h1]
    generalize handE l = E at *
    have hE1 : (E != 0) = true := by simpa using h1
    have hE2 : (E == 0) = false := by simpa using h1
    clear hE
    go_enter Tryz.func80, Tryz.ntmps80
    go_wp2_with (go_at_call 56; refine HH.out.mono ?_; rintro e w1 ⟨rfl, hb1⟩)
    go_ret3
    exact ⟨by rw [HE.out]; rfl, hb1⟩
end Go.Proofs.YtbmkbnalembbjaaGreatDoor

namespace Go.Proofs.YtbmkbnalembbjaaGreatDoor
open Go.RowKit
def findS (l : List Slot) (v : Int) : Option Slot :=
  match l[(v % 65536).toNat]? with
  | some s => if s.opn = true ∧ v % 65536 + s.gen * 65536 = v then some s else none
  | none => none
theorem findS_some {l : List Slot} {v : Int} {s : Slot} : findS l v = some s ↔ Found l v (v % 65536).toNat s := by
  unfold findS Found
  have e : ((v % 65536).toNat : Int) = v % 65536 := by omega
  rw [e]
  cases h : l[(v % 65536).toNat]? with
  | none => simp
  | some t =>
    dsimp only
    split
    · rename_i hc
      constructor
      · intro hh; cases hh; exact ⟨rfl, rfl, hc.1, hc.2⟩
      · rintro ⟨_, h2, _, _⟩; exact h2
    · rename_i hc
      constructor
      · intro hh; cases hh
      · rintro ⟨_, h2, h3, h4⟩
        cases h2
        exact absurd ⟨h3, h4⟩ hc
theorem found_findS {l : List Slot} {v : Int} {i : Nat} {s : Slot} (h : Found l v i s) : findS l v = some s := by
  rw [findS_some]
  have : (v % 65536).toNat = i := by have := h.1; omega
  rw [this]
  exact h
def lookV (l : List Slot) (v : Int) : Int := if handE l ≠ 0 then 0 else match findS l v with | some s => s.loc | none => 0
def lookE (l : List Slot) (v : Int) : Int := if handE l ≠ 0 then handE l else match findS l v with | some _ => 0 | none => 9
theorem look_any (A : Option Addr) (n c B : Nat) (l : List Slot) (v : Int) (w : World) (hr : Reads w B 3 A n (slotsC l)) (hB : B ≤ w.heap.size) (v0 : 0 ≤ v) (v1 : v < 18446744073709551616) :
    Calls Tryz.prog 82 #[.slice A n c, .int .u64 v] w fun e w' => e = .returned (.tuple #[.int .i64 (lookV l v), .int .i64 (lookE l v)]) ∧ Below w.heap.size w w' := by
  unfold lookV lookE
  by_cases hE : handE l = 0
  · rw [if_neg (by simpa using hE), if_neg (by simpa using hE)]
    cases h : findS l v with
    | some s => exact look_ok A n c B l v _ s w hr hB hE v0 v1 (findS_some.1 h)
    | none => exact look_stale A n c B l v w hr hB hE v0 v1 (fun i s hf => by rw [found_findS hf] at h; cases h)
  · rw [if_pos hE, if_pos hE]
    exact look_bad A n c B l v w hr hB hE
theorem handE_set {l : List Slot} {i : Nat} {s : Slot} (h : handE l = 0) (hs : slotE s = 0) : handE (l.set i s) = 0 := by
  rw [handE_ok] at h ⊢
  refine ⟨by simpa using h.1, fun x hx => ?_⟩
  rcases List.mem_or_eq_of_mem_set hx with h2 | rfl
  · exact h.2 x h2
  · exact hs
theorem slotE_of {l : List Slot} {i : Nat} {s : Slot} (h : handE l = 0) (hs : l[i]? = some s) : slotE s = 0 := (handE_ok.1 h).2 s (List.mem_of_getElem? hs)
end Go.Proofs.YtbmkbnalembbjaaGreatDoor

namespace Go.Proofs.YtbmkbnalembbjaaGreatDoor
open Go.RowKit
end Go.Proofs.YtbmkbnalembbjaaGreatDoor

namespace Go.Proofs.YtbmkbnalembbjaaGreatDoor
open Go.ChangeShapes Go.WideShapes Go.ChangeAt Go.RowKit
theorem trodAll_below {H : Type} {enc : TypeId × Value → H} {P : Program} (hl : laidOutB P = true) {W W' : World} (hb : Below W.heap.size W W') :
    ∀ {ts : List TypeId} {vs : List Value} {ds : List (DataW H)} {ps : List MemPlace}, ts.all (fun t => P.readableRec t && decide (t < P.types.size)) = true →
      (∀ x ∈ ps, x.block < W.heap.size) → DataW.TrodAll enc P W 0 (fun _ => true) true ts vs ds ps → DataW.TrodAll enc P W' 0 (fun b => decide (b < W.heap.size)) true ts vs ds ps
  | [], [], [], _, _, _, h => h
  | t :: ts, v :: vs, d :: ds, ps, hr, hlt, h => by
    obtain ⟨p, q, h1, h2, rfl⟩ := h
    simp only [List.all_cons, Bool.and_eq_true, decide_eq_true_eq] at hr
    exact ⟨p, q, Below.trod hl hr.1.1 hr.1.2 h1 hb (fun x hx => hlt x (List.mem_append_left _ hx)), trodAll_below hl hb hr.2 (fun x hx => hlt x (List.mem_append_right _ hx)) h2, rfl⟩
  | [], _ :: _, _, _, _, _, h => h.elim
  | [], [], _ :: _, _, _, _, h => h.elim
  | _ :: _, [], _, _, _, _, h => h.elim
  | _ :: _, _ :: _, [], _, _, _, h => h.elim
theorem law_post {H : Type} {enc : TypeId × Value → H} {P : Program} {f : Func} {s : ChangeSpec} {tb : TypeId} {W W' : World} {args : Array Value} {ds gs : List (DataW H)} {before : List MemPlace}
    (hl : laidOutB P = true) (hu : P.underlying tb = some .bool) (hrt : f.resultTypes = #[tb]) (hts : f.params.toList.all (fun t => P.readableRec t && decide (t < P.types.size)) = true)
    (hv : s.vars = []) (hfn : s.fn H ds = { results := [.lit (.bool true)], args := ds })
    (hW : DataW.Whole enc P f.params.toList s.vars false W args.toList ds gs before) (hb : Below W.heap.size W W') :
    s.post enc P f false true false false W args (.bool true) W' := by
  have hW' := hW
  obtain ⟨p, q, hA, hV, rfl, hz, hn⟩ := hW
  rw [hv] at hV
  obtain ⟨rfl, rfl⟩ := trodVars_none hV
  refine ⟨ds, [], _, [], p, [], hW', ?_, ?_, ?_, hb.frame _, fun h => by cases h⟩
  · rw [List.append_nil, hfn, hrt]
    exact trodAll_mk1 (shut_bool hu true)
  · rw [List.append_nil, hfn]
    exact trodAll_below hl hb hts (fun x hx => hW'.lt x (List.mem_append_left _ hx)) hA
  · rw [hv, List.append_nil, hfn]
    rfl
end Go.Proofs.YtbmkbnalembbjaaGreatDoor

namespace Go.Proofs.YtbmkbnalembbjaaGreatDoor
open Go.ChangeShapes Go.WideShapes Go.ChangeAt Go.RowKit Go.Joins Go.Deep
theorem trod_struct2 {H : Type} {enc : TypeId × Value → H} {P : Program} {w : World} {base : Nat} {spare : Nat → Bool} {held : Bool} {t : TypeId} {f0 f1 : Field} {fuel : Nat} {cs : List Value} {x : DataW H × List MemPlace} (ht : P.underlying t = some (.struct #[f0, f1])) (h : DataW.trod enc P w base spare held fuel t cs = some x) :
    ∃ y0 y1 n, x = (.agg [y0.1, y1.1], y0.2 ++ y1.2) ∧ cs.length = P.cellsOf t ∧ DataW.trod enc P w base spare held n f0.type ((cs.drop f0.offset).take (P.cellsOf f0.type)) = some y0 ∧
      DataW.trod enc P w base spare held n f1.type ((cs.drop f1.offset).take (P.cellsOf f1.type)) = some y1 := by
  obtain ⟨xs, n, _, rfl, hl, hlen, hf⟩ := DataW.trod_struct ht h
  match xs, hlen with
  | [y0, y1], _ => exact ⟨y0, y1, n, by simp, hl, by simpa using hf 0 _ rfl, by simpa using hf 1 _ rfl⟩
end Go.Proofs.YtbmkbnalembbjaaGreatDoor

namespace Go.Proofs.YtbmkbnalembbjaaGreatDoor
open Go.ChangeShapes Go.WideShapes Go.ChangeAt Go.RowKit Go.Joins Go.Deep
instance : Inhabited Slot := ⟨⟨0, false, 0⟩⟩
end Go.Proofs.YtbmkbnalembbjaaGreatDoor

namespace Go.Proofs.YtbmkbnalembbjaaGreatDoor
open Go.RowKit
def liveL (i : Nat) : List Slot → List Int
  | [] => []
  | s :: r => if s.opn = true then ((i : Int) + s.gen * 65536) :: liveL (i + 1) r else liveL (i + 1) r
namespace HandLive
open Go.ChangeShapes Go.WideShapes Go.ChangeAt Go.RowKit
theorem own : ownKnob Tryz.prog.godebug = none := by kernel_rfl
theorem laidOut : laidOutB Tryz.prog = true := by kernel_rfl
end HandLive
end Go.Proofs.YtbmkbnalembbjaaGreatDoor
