/-
  Texts joined: Bits Hand Hand2 HandOpen HandLaw Contains Law LawElems LawSlots HandLive HeadDefs.
-/
import Derived.WalkKit
import Derived.Test.YtbhbgdlnfobjaaaGreatRows
import Derived.ProofKit
import Derived.Deep.Slices
import Derived.Lib.SmallJoins
import Derived.Test.YtbhbgdlnfobjaaaGreatG0
/-
  Plain arithmetic of bits: masks and joins of 64-bit words.
-/
namespace Go.Proofs.YtbhbgdlnfobjaaaGreat
open Go.RowKit

theorem band16 (x : Int) (h0 : 0 ≤ x) (h1 : x < 18446744073709551616) : bits .and .u64 x 65535 = x % 65536 := by
  rw [u64_and x 65535 h0 h1 (by decide) (by decide), show (65535 : Int).toNat = 2 ^ 16 - 1 from rfl, Nat.and_two_pow_sub_one_eq_mod]
  omega
theorem band48 (x : Int) (h0 : 0 ≤ x) (h1 : x < 18446744073709551616) : bits .and .u64 x 281474976710656 = x / 281474976710656 % 2 * 281474976710656 := by
  rw [u64_and x 281474976710656 h0 h1 (by decide) (by decide), show (281474976710656 : Int).toNat = 2 ^ 48 from rfl, nat_bit]
  have : (2 : Nat) ^ 48 = 281474976710656 := by decide
  rw [this]
  omega
theorem bor_join (i : Nat) (x y : Int) (h0 : 0 ≤ x) (h1 : x < 18446744073709551616) (h2 : 0 ≤ y) (h3 : y < 18446744073709551616) (hx : x % 2 ^ i = 0) (hy : y < 2 ^ i) : bits .or .u64 y x = y + x := by
  obtain ⟨a, rfl⟩ := Int.eq_ofNat_of_zero_le h0
  obtain ⟨b, rfl⟩ := Int.eq_ofNat_of_zero_le h2
  rw [u64_or_nat b a (by omega) (by omega), Nat.or_comm, nat_join i a b (by exact_mod_cast hx) (by exact_mod_cast hy)]
  omega

theorem wrap_u64_of {x : Int} (h0 : 0 ≤ x) (h1 : x < 18446744073709551616) : IntKind.u64.wrap x = x := by
  have : IntKind.u64.wrap x = x % 18446744073709551616 := by simp [IntKind.wrap, IntKind.signed, IntKind.bits]
  rw [this]
  omega
theorem or_byte (old : Int) (b e : Nat) (h0 : 0 ≤ old) (h1 : old < 2 ^ e) (hb : b < 256) (he : e ≤ 56) : bits .or .u64 old (IntKind.u64.wrap (IntKind.u64.wrap (b : Int) * 2 ^ e)) = old + b * 2 ^ e := by
  have hp : (2 : Nat) ^ e ≤ 2 ^ 56 := Nat.pow_le_pow_right (by decide) he
  have hp2 : ((2 ^ e : Nat) : Int) ≤ ((2 ^ 56 : Nat) : Int) := Int.ofNat_le.2 hp
  rw [Int.natCast_pow] at hp2
  have hp3 : (2 : Int) ^ e ≤ 72057594037927936 := hp2
  have hp0 : (0 : Int) < 2 ^ e := Int.pow_pos (by decide)
  have hm : (b : Int) * 2 ^ e ≤ 255 * 72057594037927936 := Int.le_trans (Int.mul_le_mul_of_nonneg_right (by omega : (b : Int) ≤ 255) (Int.le_of_lt hp0)) (Int.mul_le_mul_of_nonneg_left hp3 (by decide))
  have hm0 : 0 ≤ (b : Int) * 2 ^ e := Int.mul_nonneg (by omega) (Int.le_of_lt hp0)
  rw [wrap_u64_of (x := (b : Int)) (by omega) (by omega)]
  generalize hx : (b : Int) * 2 ^ e = x at *
  rw [wrap_u64_of hm0 (by omega)]
  have h : x % 2 ^ e = 0 := by rw [← hx]; exact Int.mul_emod_left _ _
  have hj := bor_join e x old
  generalize (2 : Int) ^ e = p at *
  exact hj hm0 (by omega) h0 (by omega) h h1

end Go.Proofs.YtbhbgdlnfobjaaaGreat

/-
  package hand: contracts of its functions.
-/
namespace Go.Proofs.YtbhbgdlnfobjaaaGreat
open Go.RowKit

/-- A slot of a name. -/
structure Slot where
  gen : Int
  opn : Bool
  loc : Int
deriving DecidableEq

def slotC (s : Slot) : List Value := [.int .i64 s.gen, .bool s.opn, .int .i64 s.loc]
def slotsC (l : List Slot) : List Value := l.flatMap slotC

theorem slotsC_length (l : List Slot) : (slotsC l).length = l.length * 3 := by
  induction l with
  | nil => rfl
  | cons a l ih => simp only [slotsC, List.flatMap_cons, List.length_append, List.length_cons] at ih ⊢; rw [ih]; simp [slotC]; omega

theorem slotsC_at (l : List Slot) (j i : Nat) (hj : j < l.length) (hi : i < 3) : (slotsC l)[j * 3 + i]? = (slotC l[j])[i]? := by
  induction l generalizing j with
  | nil => simp at hj
  | cons a l ih =>
    simp only [slotsC, List.flatMap_cons] at ih ⊢
    cases j with
    | zero => rw [List.getElem?_append_left (by simp [slotC]; omega)]; simp
    | succ j =>
      rw [List.getElem?_append_right (by simp [slotC]; omega)]
      have : (j + 1) * 3 + i - (slotC a).length = j * 3 + i := by simp [slotC]; omega
      rw [this]
      exact ih j (by simpa using hj)

theorem Reads.slot {w : World} {B : Nat} {A : Option Addr} {n j : Nat} {l : List Slot} (h : Reads w B 3 A n (slotsC l)) (hj : j < n) :
    ∃ ad s, A = some ad ∧ ad.block < B ∧ l[j]? = some s ∧ w.cell? (ad.add (j * 3)) = some (.int .i64 s.gen) ∧ w.cell? ⟨(ad.add (j * 3)).block, (ad.add (j * 3)).off + 1, none⟩ = some (.bool s.opn) ∧ w.cell? ⟨(ad.add (j * 3)).block, (ad.add (j * 3)).off + 2, none⟩ = some (.int .i64 s.loc) := by
  have hl : j < l.length := by have := h.1; rw [slotsC_length] at this; omega
  obtain ⟨ad, e, hb, hc⟩ := h.2 (by omega)
  refine ⟨ad, l[j], e, hb, List.getElem?_eq_getElem hl, ?_, ?_, ?_⟩
  · have := hc (j * 3 + 0) (.int .i64 l[j].gen) (by rw [slotsC_at l j 0 hl (by omega)]; rfl)
    exact this
  · have := hc (j * 3 + 1) _ (by rw [slotsC_at l j 1 hl (by omega)]; rfl)
    rw [← add_of_add] at this
    exact this
  · have := hc (j * 3 + 2) _ (by rw [slotsC_at l j 2 hl (by omega)]; rfl)
    rw [← add_of_add] at this
    exact this

/-- One slot is in order: what hand.Check says of it. -/
def slotE (s : Slot) : Int :=
  if s.gen < 0 ∨ 65535 < s.gen ∨ s.loc < 0 ∨ 256 ≤ s.loc then 4
  else if (s.opn = true ∧ s.gen = 0) ∨ (s.opn = false ∧ s.loc ≠ 0) then 3 else 0
def slotsE : List Slot → Int
  | [] => 0
  | s :: r => if slotE s ≠ 0 then slotE s else slotsE r
def handE (l : List Slot) : Int := if 16 < l.length then 2 else slotsE l

theorem handThere_yes (x : Int) (w : World) (h : 0 ≤ x ∧ x < 256) : Calls Tryz.prog 63 #[.int .i64 x] w fun e w' => e = .returned (.bool true) ∧ w = w' := by
  obtain ⟨h1, h2⟩ := h
  go_enter Tryz.func63, Tryz.ntmps63
  go_wp2
  go_ret
  exact ⟨rfl, rfl⟩
theorem handThere_no (x : Int) (w : World) (h : x < 0 ∨ 256 ≤ x) : Calls Tryz.prog 63 #[.int .i64 x] w fun e w' => e = .returned (.bool false) ∧ w = w' := by
  have h' : x < 0 ∨ (0 ≤ x ∧ 256 ≤ x) := by omega
  clear h
  rcases h' with h | ⟨h1, h⟩
  all_goals
    go_enter Tryz.func63, Tryz.ntmps63
    go_wp2
    go_ret
    exact ⟨by first | rfl | (simp; omega), rfl⟩

set_option maxHeartbeats 400000 in
theorem handCheck_big (A : Option Addr) (n c : Nat) (w : World) (hn : 16 < n) :
    Calls Tryz.prog 30 #[.slice A n c] w fun e w' => e = .returned (.int .i64 2) ∧ Below w.heap.size w w' := by
  go_enter Tryz.func30, Tryz.ntmps30
  go_wp2
  go_ret
  exact ⟨rfl, Below.refl _ _⟩

set_option maxHeartbeats 1000000 in
theorem handCheck_small (A : Option Addr) (n c B : Nat) (l : List Slot) (w : World) (hr : Reads w B 3 A n (slotsC l)) (hB : B ≤ w.heap.size) (hn : n ≤ 16) :
    Calls Tryz.prog 30 #[.slice A n c] w fun e w' => e = .returned (.int .i64 (slotsE l)) ∧ Below w.heap.size w w' := by
  have hll : l.length = n := by have := hr.1; rw [slotsC_length] at this; omega
  have HL := Lib.hid hll
  clear hll
  go_enter Tryz.func30, Tryz.ntmps30
  go_wp2
  go_loopw [10] (fun i wr => ∃ j : Nat, j ≤ n ∧ i = .int .i64 j ∧ Below w.heap.size w wr ∧ slotsE (l.drop j) = slotsE l) (fun i _ => n - (intOf i).toNat)
  case atStart => exact ⟨0, Nat.zero_le _, rfl, Below.refl _ _, rfl⟩
  case round =>
    obtain ⟨j, hj, rfl, hb, hd⟩ := hrel
    have HD := Lib.hid hd
    clear hd
    by_cases hlt : j < n
    · obtain ⟨ad, s, rfl, had, hs, hc0, hc1, hc2⟩ := (hr.below (hb.mono hB)).slot hlt
      have HT : Hid (slotsE (l.drop j) = if slotE s ≠ 0 then slotE s else slotsE (l.drop (j + 1))) := by
        show _ = _
        obtain ⟨hl, rfl⟩ := List.getElem?_eq_some_iff.1 hs
        rw [List.drop_eq_getElem_cons hl]
        rfl
      clear hs
      obtain ⟨gen, opn, loc⟩ := s
      dsimp only at hc0 hc1 hc2
      have hbn := hb.trans (((Below.refl wr.heap.size wr).alloc (Nat.le_refl _) (.cells #[.int .i64 gen, .bool opn, .int .i64 loc] 65)).mono hb.size)
      by_cases h4 : gen < 0 ∨ 65535 < gen ∨ loc < 0 ∨ 256 ≤ loc
      · have HE : Hid (slotsE l = 4) := by
          show _ = _
          rw [← HD.out, HT.out]
          have : slotE ⟨gen, opn, loc⟩ = 4 := by unfold slotE; rw [if_pos h4]
          rw [this]
          rfl
        have h4' : (gen < 0 ∨ 65535 < gen) ∨ ((¬ gen < 0 ∧ ¬ 65535 < gen) ∧ (loc < 0 ∨ 256 ≤ loc)) := by
          by_cases hg : gen < 0 ∨ 65535 < gen
          · exact .inl hg
          · exact .inr ⟨by omega, by omega⟩
        clear h4
        rcases h4' with h4 | ⟨⟨g1, g2⟩, h4⟩
        · go_wp2_with fail
          all_goals
            go_ret
            exact ⟨ret_int HE.out.symm, hbn⟩
        · have H4 := Lib.hid h4
          clear h4
          go_wp2_with (go_at_call 63; refine (handThere_no _ _ H4.out).mono ?_; rintro e w' ⟨rfl, rfl⟩)
          all_goals
            go_ret
            exact ⟨ret_int HE.out.symm, hbn⟩
      · have g1 : ¬ gen < 0 := by omega
        have g2 : ¬ 65535 < gen := by omega
        have G3 : Hid (0 ≤ loc ∧ loc < 256) := by show _ ∧ _; omega
        by_cases h3 : (opn = true ∧ gen = 0) ∨ (opn = false ∧ loc ≠ 0)
        · have HE : Hid (slotsE l = 3) := by
            show _ = _
            rw [← HD.out, HT.out]
            have : slotE ⟨gen, opn, loc⟩ = 3 := by unfold slotE; rw [if_neg h4, if_pos h3]
            rw [this]
            rfl
          clear h4
          rcases h3 with ⟨rfl, rfl⟩ | ⟨rfl, h3⟩
          · go_wp2_with (go_at_call 63; refine (handThere_yes _ _ G3.out).mono ?_; rintro e w' ⟨rfl, rfl⟩)
            go_ret
            exact ⟨ret_int HE.out.symm, hbn⟩
          · have e1 : (loc != 0) = true := by simpa using h3
            have e2 : (loc == 0) = false := by simpa using h3
            go_wp2_with (go_at_call 63; refine (handThere_yes _ _ G3.out).mono ?_; rintro e w' ⟨rfl, rfl⟩)
            go_ret
            exact ⟨ret_int HE.out.symm, hbn⟩
        · have HE : Hid (slotsE (l.drop (j + 1)) = slotsE l) := by
            show _ = _
            rw [← HD.out, HT.out]
            have : slotE ⟨gen, opn, loc⟩ = 0 := by unfold slotE; rw [if_neg h4, if_neg h3]
            rw [this]
            rfl
          have h3' : (opn = true ∧ gen ≠ 0) ∨ (opn = false ∧ loc = 0) := by
            cases opn
            · exact .inr ⟨rfl, by simpa using h3⟩
            · exact .inl ⟨rfl, by simpa using h3⟩
          clear h4 h3
          rcases h3' with ⟨rfl, h3⟩ | ⟨rfl, rfl⟩
          · have e1 : (gen != 0) = true := by simpa using h3
            have e2 : (gen == 0) = false := by simpa using h3
            go_wp2_with (go_at_call 63; refine (handThere_yes _ _ G3.out).mono ?_; rintro e w' ⟨rfl, rfl⟩)
            go_roundw
            case rel => exact ⟨j + 1, by omega, by go_num, hbn, HE.out⟩
            case measure => simp [intOf]; omega
          · go_wp2_with (go_at_call 63; refine (handThere_yes _ _ G3.out).mono ?_; rintro e w' ⟨rfl, rfl⟩)
            go_roundw
            case rel => exact ⟨j + 1, by omega, by go_num, hbn, HE.out⟩
            case measure => simp [intOf]; omega
    · go_wp2
      go_ret
      refine ⟨ret_int ?_, hb⟩
      rw [← HD.out, List.drop_of_length_le (by rw [HL.out]; omega)]
      rfl

theorem handE_small (l : List Slot) (n : Nat) (h : l.length = n) (hn : n ≤ 16) : handE l = slotsE l := by unfold handE; rw [if_neg (by omega)]

theorem handCheck_any (A : Option Addr) (n c B : Nat) (l : List Slot) (w : World) (hr : Reads w B 3 A n (slotsC l)) (hB : B ≤ w.heap.size) :
    Calls Tryz.prog 30 #[.slice A n c] w fun e w' => e = .returned (.int .i64 (handE l)) ∧ Below w.heap.size w w' := by
  have hll : l.length = n := by have := hr.1; rw [slotsC_length] at this; omega
  by_cases h : 16 < n
  · rw [show handE l = 2 from by unfold handE; rw [if_pos (by omega)]]
    exact handCheck_big A n c w h
  · rw [handE_small l n hll (by omega)]
    exact handCheck_small A n c B l w hr hB (by omega)

theorem slotE_ok {s : Slot} : slotE s = 0 ↔ (0 ≤ s.gen ∧ s.gen ≤ 65535 ∧ 0 ≤ s.loc ∧ s.loc < 256 ∧ (s.opn = true → s.gen ≠ 0) ∧ (s.opn = false → s.loc = 0)) := by
  unfold slotE
  constructor
  · intro h
    split at h
    · cases h
    · split at h
      · cases h
      · rename_i a b
        exact ⟨by omega, by omega, by omega, by omega, fun ho hg => b (.inl ⟨ho, hg⟩), fun ho => Classical.byContradiction fun hl => b (.inr ⟨ho, hl⟩)⟩
  · rintro ⟨h1, h2, h3, h4, h5, h6⟩
    rw [if_neg (by omega), if_neg]
    rintro (⟨ho, hg⟩ | ⟨ho, hl⟩)
    · exact h5 ho hg
    · exact hl (h6 ho)

theorem slotsE_ok {l : List Slot} : slotsE l = 0 ↔ ∀ s ∈ l, slotE s = 0 := by
  induction l with
  | nil => simp [slotsE]
  | cons a l ih =>
    unfold slotsE
    split
    · rename_i h
      constructor
      · intro h2; exact absurd h2 h
      · intro h2; exact absurd (h2 a (by simp)) h
    · rename_i h
      rw [ih]
      constructor
      · intro h2 s hs
        rcases List.mem_cons.1 hs with rfl | hs
        · simpa using h
        · exact h2 s hs
      · intro h2 s hs; exact h2 s (List.mem_cons_of_mem _ hs)

theorem handE_ok {l : List Slot} : handE l = 0 ↔ l.length ≤ 16 ∧ ∀ s ∈ l, slotE s = 0 := by
  unfold handE
  split
  · constructor
    · intro h; cases h
    · rintro ⟨h, _⟩; omega
  · rw [slotsE_ok]
    constructor
    · intro h; exact ⟨by omega, h⟩
    · intro h; exact h.2

theorem slotE_cases (s : Slot) : slotE s = 0 ∨ slotE s = 3 ∨ slotE s = 4 := by
  unfold slotE
  split
  · simp
  · split <;> simp

/-- hand.name: the name of slot i. -/
def nameOf (i gen : Int) : Int := i + gen * 65536

set_option maxHeartbeats 400000 in
theorem handName_any (i gen loc : Int) (opn : Bool) (w : World) (h1 : 0 ≤ i ∧ i < 65536) (h2 : 0 ≤ gen ∧ gen ≤ 65535) :
    Calls Tryz.prog 73 #[.int .i64 i, .agg #[.int .i64 gen, .bool opn, .int .i64 loc]] w fun e w' => e = .returned (.int .u64 (i + gen * 65536)) ∧ Below w.heap.size w w' := by
  have o1 := bor_join 16 (gen * 65536) i (by omega) (by omega) (by omega) (by omega) (by omega) (by omega)
  obtain ⟨g1, g2⟩ := h1
  obtain ⟨g3, g4⟩ := h2
  go_enter Tryz.func73, Tryz.ntmps73
  go_wp2
  go_ret
  exact ⟨rfl, below_new _ _⟩

/-- The slot that a name finds. -/
def Found (l : List Slot) (n : Int) (i : Nat) (s : Slot) : Prop := n % 65536 = (i : Int) ∧ l[i]? = some s ∧ s.opn = true ∧ (i : Int) + s.gen * 65536 = n

set_option maxHeartbeats 400000 in
theorem find_bad (A : Option Addr) (n c B : Nat) (l : List Slot) (v : Int) (w : World) (hr : Reads w B 3 A n (slotsC l)) (hB : B ≤ w.heap.size) (hE : handE l ≠ 0) :
    Calls Tryz.prog 76 #[.slice A n c, .int .u64 v] w fun e w' => e = .returned (.tuple #[.int .i64 0, .int .i64 (handE l)]) ∧ Below w.heap.size w w' := by
  have H := handCheck_any A n c B l w hr hB
  have HH := Lib.hid H
  clear H
  generalize handE l = E at *
  have hE1 : (E != 0) = true := by simpa using hE
  have hE2 : (E == 0) = false := by simpa using hE
  go_enter Tryz.func76, Tryz.ntmps76
  go_wp2_with (go_at_call 30; refine HH.out.mono ?_; rintro e w1 ⟨rfl, hb1⟩)
  go_ret2
  exact ⟨rfl, hb1⟩

set_option maxHeartbeats 400000 in
theorem find_ok (A : Option Addr) (n c B : Nat) (l : List Slot) (v : Int) (i : Nat) (s : Slot) (w : World) (hr : Reads w B 3 A n (slotsC l)) (hB : B ≤ w.heap.size) (hE : handE l = 0) (v0 : 0 ≤ v) (v1 : v < 18446744073709551616) (hf : Found l v i s) :
    Calls Tryz.prog 76 #[.slice A n c, .int .u64 v] w fun e w' => e = .returned (.tuple #[.int .i64 i, .int .i64 0]) ∧ Below w.heap.size w w' := by
  have H := handCheck_any A n c B l w hr hB
  rw [hE] at H
  have HH := Lib.hid H
  obtain ⟨hlen, hall⟩ := handE_ok.1 hE
  have hll : l.length = n := by have := hr.1; rw [slotsC_length] at this; omega
  obtain ⟨hi, hs, ho, hn⟩ := hf
  have hil : i < n := by have := (List.getElem?_eq_some_iff.1 hs).1; omega
  have hb := band16 v v0 v1
  rw [hi] at hb
  obtain ⟨g1, g2, _, _, _, _⟩ := slotE_ok.1 (hall s (List.mem_of_getElem? hs))
  obtain ⟨ad, s', rfl, had, hs', c0, c1, c2⟩ := hr.slot hil
  obtain rfl : s' = s := by rw [hs] at hs'; exact (Option.some.inj hs').symm
  have HC0 := Lib.hid c0
  have HC1 := Lib.hid c1
  have HC2 := Lib.hid c2
  have HN := Lib.hid hn
  clear H hE hall hi hs hs' c0 c1 c2 hn hr
  obtain ⟨gen, opn, loc⟩ := s'
  obtain rfl : opn = true := ho
  dsimp only at g1 g2 HC0 HC1 HC2 HN
  have hil2 : (i : Int) < n := by omega
  have hn16 : n ≤ 16 := by omega
  have hbl : (ad.add (i * 3)).block < w.heap.size := by rw [block_of_add]; omega
  have hle : ¬ (n : Int) ≤ i := by omega
  clear hll
  go_enter Tryz.func76, Tryz.ntmps76
  go_wp2_with fail
  refine HH.out.mono ?_
  rintro e w1 ⟨rfl, hb1⟩
  have c0 := (hb1.cell (p := ad.add (i * 3)) hbl).trans HC0.out
  have c1 := (hb1.cell (p := ⟨(ad.add (i * 3)).block, (ad.add (i * 3)).off + 1, none⟩) hbl).trans HC1.out
  have c2 := (hb1.cell (p := ⟨(ad.add (i * 3)).block, (ad.add (i * 3)).off + 2, none⟩) hbl).trans HC2.out
  go_wp2_with fail
  refine (handName_any _ _ _ _ _ (by omega) (by omega)).mono ?_
  rw [HN.out]
  rintro e w2 ⟨rfl, hb2⟩
  clear c0 c1 c2
  go_wp2
  go_ret2
  exact ⟨rfl, below_step hb1 hb2⟩

set_option maxHeartbeats 400000 in
theorem find_stale (A : Option Addr) (n c B : Nat) (l : List Slot) (v : Int) (w : World) (hr : Reads w B 3 A n (slotsC l)) (hB : B ≤ w.heap.size) (hE : handE l = 0) (v0 : 0 ≤ v) (v1 : v < 18446744073709551616) (hf : ∀ i s, ¬ Found l v i s) :
    Calls Tryz.prog 76 #[.slice A n c, .int .u64 v] w fun e w' => e = .returned (.tuple #[.int .i64 0, .int .i64 9]) ∧ Below w.heap.size w w' := by
  have H := handCheck_any A n c B l w hr hB
  rw [hE] at H
  have HH := Lib.hid H
  obtain ⟨hlen, hall⟩ := handE_ok.1 hE
  have hll : l.length = n := by have := hr.1; rw [slotsC_length] at this; omega
  obtain ⟨i, hi⟩ := Int.eq_ofNat_of_zero_le (show 0 ≤ v % 65536 by omega)
  have hb := band16 v v0 v1
  rw [hi] at hb
  have hn16 : n ≤ 16 := by omega
  have hi6 : i < 65536 := by omega
  by_cases hil : i < n
  · obtain ⟨ad, s, rfl, had, hs, c0, c1, c2⟩ := hr.slot hil
    obtain ⟨g1, g2, _, _, _, _⟩ := slotE_ok.1 (hall s (List.mem_of_getElem? hs))
    have hnf := hf i s
    have hcase : s.opn = false ∨ (s.opn = true ∧ (i : Int) + s.gen * 65536 ≠ v) := by
      cases ho : s.opn
      · exact .inl rfl
      · exact .inr ⟨rfl, fun h => hnf ⟨hi, hs, ho, h⟩⟩
    have HC0 := Lib.hid c0
    have HC1 := Lib.hid c1
    have HC2 := Lib.hid c2
    clear H hE hall hi hs c0 c1 c2 hr hf hnf hll
    obtain ⟨gen, opn, loc⟩ := s
    dsimp only at g1 g2 HC0 HC1 HC2 hcase
    have hil2 : (i : Int) < n := by omega
    have hbl : (ad.add (i * 3)).block < w.heap.size := by rw [block_of_add]; omega
    have hle : ¬ (n : Int) ≤ i := by omega
    rcases hcase with rfl | ⟨rfl, hne⟩
    · go_enter Tryz.func76, Tryz.ntmps76
      go_wp2_with fail
      refine HH.out.mono ?_
      rintro e w1 ⟨rfl, hb1⟩
      have c0 := (hb1.cell (p := ad.add (i * 3)) hbl).trans HC0.out
      have c1 := (hb1.cell (p := ⟨(ad.add (i * 3)).block, (ad.add (i * 3)).off + 1, none⟩) hbl).trans HC1.out
      have c2 := (hb1.cell (p := ⟨(ad.add (i * 3)).block, (ad.add (i * 3)).off + 2, none⟩) hbl).trans HC2.out
      go_wp2_with fail
      go_ret2
      exact ⟨rfl, hb1⟩
    · have HN : Hid ((i : Int) + gen * 65536 ≠ v) := hne
      clear hne
      go_enter Tryz.func76, Tryz.ntmps76
      go_wp2_with fail
      refine HH.out.mono ?_
      rintro e w1 ⟨rfl, hb1⟩
      have c0 := (hb1.cell (p := ad.add (i * 3)) hbl).trans HC0.out
      have c1 := (hb1.cell (p := ⟨(ad.add (i * 3)).block, (ad.add (i * 3)).off + 1, none⟩) hbl).trans HC1.out
      have c2 := (hb1.cell (p := ⟨(ad.add (i * 3)).block, (ad.add (i * 3)).off + 2, none⟩) hbl).trans HC2.out
      go_wp2_with fail
      refine (handName_any _ _ _ _ _ (by omega) (by omega)).mono ?_
      have hn := HN.out
      generalize (i : Int) + gen * 65536 = nm at hn ⊢
      have e1 : (nm == v) = false := by simpa using hn
      have e2 : (nm != v) = true := by simpa using hn
      rintro e w2 ⟨rfl, hb2⟩
      clear c0 c1 c2
      go_wp2
      go_ret2
      exact ⟨rfl, below_step hb1 hb2⟩
  · have hle : (n : Int) ≤ i := by omega
    clear H hE hall hi hf hll
    go_enter Tryz.func76, Tryz.ntmps76
    go_wp2_with fail
    refine HH.out.mono ?_
    rintro e w1 ⟨rfl, hb1⟩
    go_wp2_with fail
    go_ret2
    exact ⟨rfl, hb1⟩

end Go.Proofs.YtbhbgdlnfobjaaaGreat

/-
  package hand, the second part: IndexFunc, Clone, Look, Open, Close.
-/
namespace Go.Proofs.YtbhbgdlnfobjaaaGreat
open Go.RowKit

theorem slotsC_one (l : List Slot) : ∀ u ∈ slotsC l, u.oneCell' = true := by
  intro u hu
  obtain ⟨s, _, hs⟩ := List.mem_flatMap.1 hu
  simp only [slotC, List.mem_cons, List.not_mem_nil, or_false] at hs
  rcases hs with rfl | rfl | rfl <;> rfl

theorem slotsC_set (l : List Slot) (i : Nat) (s : Slot) : (((slotsC l).set (i * 3) (.int .i64 s.gen)).set (i * 3 + 1) (.bool s.opn)).set (i * 3 + 2) (.int .i64 s.loc) = slotsC (l.set i s) := by
  induction l generalizing i with
  | nil => simp [slotsC]
  | cons a l ih =>
    cases i with
    | zero => simp [slotsC, slotC]
    | succ i =>
      have e : (i + 1) * 3 = i * 3 + 1 + 1 + 1 := by omega
      have := ih i
      simp only [slotsC, slotC, List.flatMap_cons, List.cons_append, List.nil_append, e, List.set_cons_succ] at this ⊢
      rw [← this]

def slotFree (s : Slot) : Bool := !s.opn && decide (s.gen < 65535)
/-- The first slot that may be opened, or -1. -/
def freeIx (l : List Slot) : Int := match l.findIdx? slotFree with | some i => (i : Int) | none => -1

theorem freeIx_some (l : List Slot) (i : Nat) (s : Slot) (h : l[i]? = some s) (hs : slotFree s = true) (hb : ∀ x ∈ l.take i, slotFree x = false) : freeIx l = i := by
  unfold freeIx
  have : l.findIdx? slotFree = some i := by
    obtain ⟨hl, rfl⟩ := List.getElem?_eq_some_iff.1 h
    rw [List.findIdx?_eq_some_iff_getElem]
    refine ⟨hl, hs, fun j hj => ?_⟩
    have := hb l[j] (by rw [List.mem_take_iff_getElem]; exact ⟨j, by omega, rfl⟩)
    rw [this]
    simp
  rw [this]

theorem freeIx_none (l : List Slot) (hb : ∀ x ∈ l, slotFree x = false) : freeIx l = -1 := by
  unfold freeIx
  have : l.findIdx? slotFree = none := by
    rw [List.findIdx?_eq_none_iff]
    exact hb
  rw [this]

theorem freeIx_cases (l : List Slot) : (freeIx l = -1 ∧ ∀ x ∈ l, slotFree x = false) ∨ ∃ (i : Nat) (s : Slot), freeIx l = i ∧ l[i]? = some s ∧ slotFree s = true := by
  unfold freeIx
  cases h : l.findIdx? slotFree with
  | none => exact .inl ⟨rfl, List.findIdx?_eq_none_iff.1 h⟩
  | some i =>
    obtain ⟨hl, hs, _⟩ := List.findIdx?_eq_some_iff_getElem.1 h
    exact .inr ⟨i, l[i], rfl, List.getElem?_eq_getElem hl, hs⟩

set_option maxHeartbeats 400000 in
theorem isFree_any (gen loc : Int) (opn : Bool) (w : World) :
    Calls Tryz.prog 71 #[.agg #[.int .i64 gen, .bool opn, .int .i64 loc]] w fun e w' => e = .returned (.bool (slotFree ⟨gen, opn, loc⟩)) ∧ Below w.heap.size w w' := by
  cases opn
  · by_cases h : gen < 65535
    · have HE : Hid (slotFree ⟨gen, false, loc⟩ = true) := by show _ = _; simp [slotFree, h]
      go_enter Tryz.func71, Tryz.ntmps71
      go_wp2
      go_ret
      exact ⟨by rw [HE.out]; rfl, below_new _ _⟩
    · have HE : Hid (slotFree ⟨gen, false, loc⟩ = false) := by show _ = _; simp [slotFree]; omega
      go_enter Tryz.func71, Tryz.ntmps71
      go_wp2
      go_ret
      exact ⟨by rw [HE.out]; rfl, below_new _ _⟩
  · have HE : Hid (slotFree ⟨gen, true, loc⟩ = false) := by show _ = _; simp [slotFree]
    go_enter Tryz.func71, Tryz.ntmps71
    go_wp2
    go_ret
    exact ⟨by rw [HE.out]; rfl, below_new _ _⟩

set_option maxHeartbeats 1000000 in
theorem indexFree_any (A : Option Addr) (n c B : Nat) (l : List Slot) (w : World) (hr : Reads w B 3 A n (slotsC l)) (hB : B ≤ w.heap.size) (hn : n ≤ 1000000) :
    Calls Tryz.prog 70 #[.slice A n c, .func (.func 71) #[] #[]] w fun e w' => e = .returned (.int .i64 (freeIx l)) ∧ Below w.heap.size w w' := by
  have hll : l.length = n := by have := hr.1; rw [slotsC_length] at this; omega
  have HL := Lib.hid hll
  clear hll
  go_enter Tryz.func70, Tryz.ntmps70
  go_wp2
  go_loopw [8] (fun i wr => ∃ j : Nat, j ≤ n ∧ i = .int .i64 j ∧ Below w.heap.size w wr ∧ ∀ x ∈ l.take j, slotFree x = false) (fun i _ => n - (intOf i).toNat)
  case atStart => exact ⟨0, Nat.zero_le _, rfl, Below.refl _ _, by simp⟩
  case round =>
    obtain ⟨j, hj, rfl, hb, hd⟩ := hrel
    have HD := Lib.hid hd
    clear hd
    by_cases hlt : j < n
    · obtain ⟨ad, s, rfl, had, hs, hc0, hc1, hc2⟩ := (hr.below (hb.mono hB)).slot hlt
      have HS := Lib.hid hs
      clear hs
      have HQ : Hid (∀ x ∈ l.take (j + 1), x ∈ l.take j ∨ x = s) := by
        intro x hx
        obtain ⟨hl, rfl⟩ := List.getElem?_eq_some_iff.1 HS.out
        rw [List.take_succ_eq_append_getElem hl, List.mem_append, List.mem_singleton] at hx
        exact hx
      obtain ⟨gen, opn, loc⟩ := s
      dsimp only at hc0 hc1 hc2
      cases hfr : slotFree ⟨gen, opn, loc⟩
      · have HF := Lib.hid hfr
        clear hfr
        go_wp2_with (go_at_call 71; refine (isFree_any _ _ _ _).mono ?_; rw [HF.out]; rintro e w1 ⟨rfl, hb1⟩)
        go_roundw
        case rel => exact ⟨j + 1, by omega, by go_num, hb.trans (hb1.mono hb.size), fun x hx => by
          rcases HQ.out x hx with h | rfl
          · exact HD.out x h
          · exact HF.out⟩
        case measure => simp [intOf]; omega
      · have HF := Lib.hid hfr
        clear hfr
        go_wp2_with (go_at_call 71; refine (isFree_any _ _ _ _).mono ?_; rw [HF.out]; rintro e w1 ⟨rfl, hb1⟩)
        go_ret
        exact ⟨ret_int (freeIx_some l j _ HS.out HF.out HD.out).symm, hb.trans (hb1.mono hb.size)⟩
    · go_wp2
      go_ret
      exact ⟨ret_int (freeIx_none l (by have := HD.out; rwa [List.take_of_length_le (by rw [HL.out]; omega)] at this)).symm, hb⟩

theorem info_slot : (Tryz.prog.info? 65).map (fun i => (i.zero, i.size, i.bytes)) = some (some (.agg #[.int .i64 0, .bool false, .int .i64 0]), 3, 24) := by kernel_rfl

set_option maxHeartbeats 400000 in
theorem clone_slots (A : Option Addr) (n c B : Nat) (xs : List Value) (w : World) (hr : Reads w B 3 A n xs) (hB : B ≤ w.heap.size) (h1 : ∀ u ∈ xs, u.oneCell' = true) (hn : n ≤ 1000000) :
    Calls Tryz.prog 72 #[.slice A n c] w fun e w' => ∃ A' c', e = .returned (.slice A' n c') ∧ w'.ownsRow w.heap.size 65 3 (.slice A' n c') n xs ∧ Below w.heap.size w w' := by
  obtain ⟨i0, hi, hz0, hz1, hz2⟩ := info_parts info_slot
  rcases A with _ | ad
  · have hm : n = 0 := by
      rcases Nat.eq_zero_or_pos n with h0 | h0
      · exact h0
      · obtain ⟨ad, h, _⟩ := hr.2 h0
        cases h
    subst hm
    have hx : xs = [] := List.eq_nil_of_length_eq_zero (by simpa using hr.1)
    subst hx
    have hnil := fun (w : World) => Lib.run_eql_slice_nil (P := Tryz.prog) w 26 65 none 0 c 0 0 Tryz.underlying26
    go_enter Tryz.func72, Tryz.ntmps72
    go_wp2
    go_ret
    exact ⟨none, 0, rfl, World.ownsRow_nil _ _ _ _, Below.refl _ _⟩
  · have hnil := fun (w : World) => Lib.run_eql_slice_nil (P := Tryz.prog) w 26 65 (some ad) n c 0 0 Tryz.underlying26
    have hmade := World.ownsRow_made (e := 65) (size := 3) w #[] 0 (Nat.le_refl w.heap.size) (Nat.zero_le _) rfl
    go_enter Tryz.func72, Tryz.ntmps72
    go_wp2_with (at_builtin; refine wpList_append_any _ rfl (.tmp 5) (.tmp 6) 26 rfl w.heap.size 65 i0 (.agg #[.int .i64 0, .bool false, .int .i64 0]) 3 24 Tryz.underlying26 hi hz0 hz1 hz2 rfl (by decide) (.slice (some ⟨w.heap.size, 0, none⟩) 0 0) 0 [] rfl hmade B (some ad) n c xs rfl (hr.alloc hB _) h1 (by simp [maxLen]; omega) (by omega) (by simp) ?_; rintro v' w1 hown hgr hbl -; obtain ⟨A', c', rfl⟩ := own_slice hown)
    go_ret
    exact ⟨A', c', rfl, by simpa using hown, ((Below.refl _ _).alloc (Nat.le_refl _) _).grown hgr (by simp) (by simp [Value.ownBlock])⟩

theorem own_slot {w : World} {base g n c j : Nat} {e : TypeId} {l : List Slot} {s : Slot} (h : w.ownsRow base e 3 (.slice (some ⟨g, 0, none⟩) n c) n (slotsC l)) (hs : l[j]? = some s) :
    w.cell? ⟨g, j * 3, none⟩ = some (.int .i64 s.gen) ∧ w.cell? ⟨g, j * 3 + 1, none⟩ = some (.bool s.opn) ∧ w.cell? ⟨g, j * 3 + 2, none⟩ = some (.int .i64 s.loc) := by
  obtain ⟨hl, rfl⟩ := List.getElem?_eq_some_iff.1 hs
  have hn : l.length = n := by have := h.1; rw [slotsC_length] at this; omega
  refine ⟨?_, ?_, ?_⟩
  · rw [h.cellAt (j * 3) (by omega)]
    exact slotsC_at l j 0 hl (by omega)
  · rw [h.cellAt (j * 3 + 1) (by omega)]
    exact slotsC_at l j 1 hl (by omega)
  · rw [h.cellAt (j * 3 + 2) (by omega)]
    exact slotsC_at l j 2 hl (by omega)

theorem own_setSlot {w : World} {base g n c : Nat} {e : TypeId} {l : List Slot} (j : Nat) (s : Slot) (h : w.ownsRow base e 3 (.slice (some ⟨g, 0, none⟩) n c) n (slotsC l)) :
    (((w.setCell ⟨g, j * 3, none⟩ (.int .i64 s.gen)).setCell ⟨g, j * 3 + 1, none⟩ (.bool s.opn)).setCell ⟨g, j * 3 + 2, none⟩ (.int .i64 s.loc)).ownsRow base e 3 (.slice (some ⟨g, 0, none⟩) n c) n (slotsC (l.set j s)) := by
  rw [← slotsC_set]
  exact (((h.stored (j * 3) (.int .i64 s.gen)).1.stored (j * 3 + 1) (.bool s.opn)).1.stored (j * 3 + 2) (.int .i64 s.loc)).1

theorem below_set3 {B : Nat} {w w' : World} (h : Below B w w') {g : Nat} (hg : B ≤ g) (a b c : Nat) (x y z : Value) : Below B w (((w'.setCell ⟨g, a, none⟩ x).setCell ⟨g, b, none⟩ y).setCell ⟨g, c, none⟩ z) :=
  ((h.setCell (p := ⟨g, a, none⟩) hg x).setCell (p := ⟨g, b, none⟩) hg y).setCell (p := ⟨g, c, none⟩) hg z

set_option maxHeartbeats 400000 in
theorem look_bad (A : Option Addr) (n c B : Nat) (l : List Slot) (v : Int) (w : World) (hr : Reads w B 3 A n (slotsC l)) (hB : B ≤ w.heap.size) (hE : handE l ≠ 0) :
    Calls Tryz.prog 37 #[.slice A n c, .int .u64 v] w fun e w' => e = .returned (.tuple #[.int .i64 0, .int .i64 (handE l)]) ∧ Below w.heap.size w w' := by
  have H := find_bad A n c B l v w hr hB hE
  have HH := Lib.hid H
  clear H
  generalize handE l = E at *
  have hE1 : (E != 0) = true := by simpa using hE
  have hE2 : (E == 0) = false := by simpa using hE
  go_enter Tryz.func37, Tryz.ntmps37
  go_wp2_with (go_at_call 76; refine HH.out.mono ?_; rintro e w1 ⟨rfl, hb1⟩)
  go_ret2
  exact ⟨rfl, hb1⟩

set_option maxHeartbeats 400000 in
theorem look_stale (A : Option Addr) (n c B : Nat) (l : List Slot) (v : Int) (w : World) (hr : Reads w B 3 A n (slotsC l)) (hB : B ≤ w.heap.size) (hE : handE l = 0) (v0 : 0 ≤ v) (v1 : v < 18446744073709551616) (hf : ∀ i s, ¬ Found l v i s) :
    Calls Tryz.prog 37 #[.slice A n c, .int .u64 v] w fun e w' => e = .returned (.tuple #[.int .i64 0, .int .i64 9]) ∧ Below w.heap.size w w' := by
  have H := find_stale A n c B l v w hr hB hE v0 v1 hf
  have HH := Lib.hid H
  clear H hE
  go_enter Tryz.func37, Tryz.ntmps37
  go_wp2_with (go_at_call 76; refine HH.out.mono ?_; rintro e w1 ⟨rfl, hb1⟩)
  go_ret2
  exact ⟨rfl, hb1⟩

set_option maxHeartbeats 400000 in
theorem look_ok (A : Option Addr) (n c B : Nat) (l : List Slot) (v : Int) (i : Nat) (s : Slot) (w : World) (hr : Reads w B 3 A n (slotsC l)) (hB : B ≤ w.heap.size) (hE : handE l = 0) (v0 : 0 ≤ v) (v1 : v < 18446744073709551616) (hf : Found l v i s) :
    Calls Tryz.prog 37 #[.slice A n c, .int .u64 v] w fun e w' => e = .returned (.tuple #[.int .i64 s.loc, .int .i64 0]) ∧ Below w.heap.size w w' := by
  have H := find_ok A n c B l v i s w hr hB hE v0 v1 hf
  have HH := Lib.hid H
  have hll : l.length = n := by have := hr.1; rw [slotsC_length] at this; omega
  have hs := hf.2.1
  have hil : i < n := by have := (List.getElem?_eq_some_iff.1 hs).1; omega
  have hn16 : n ≤ 16 := by have := (handE_ok.1 hE).1; omega
  obtain ⟨ad, s', rfl, had, hs', c0, c1, c2⟩ := hr.slot hil
  obtain rfl : s' = s := by rw [hs] at hs'; exact (Option.some.inj hs').symm
  have HC2 := Lib.hid c2
  clear H hE hf hs hs' c0 c1 c2 hr hll
  obtain ⟨gen, opn, loc⟩ := s'
  dsimp only at HC2 ⊢
  have hil2 : (i : Int) < n := by omega
  have hbl : (ad.add (i * 3)).block < w.heap.size := by rw [block_of_add]; omega
  go_enter Tryz.func37, Tryz.ntmps37
  go_wp2_with fail
  refine HH.out.mono ?_
  rintro e w1 ⟨rfl, hb1⟩
  have c2 := (hb1.cell (p := ⟨(ad.add (i * 3)).block, (ad.add (i * 3)).off + 2, none⟩) hbl).trans HC2.out
  go_wp2
  go_ret2
  exact ⟨rfl, hb1⟩

set_option maxHeartbeats 400000 in
theorem close_bad (A : Option Addr) (n c B : Nat) (l : List Slot) (v : Int) (w : World) (hr : Reads w B 3 A n (slotsC l)) (hB : B ≤ w.heap.size) (hE : handE l ≠ 0) :
    Calls Tryz.prog 38 #[.slice A n c, .int .u64 v] w fun e w' => e = .returned (.tuple #[.slice none 0 0, .int .i64 (handE l)]) ∧ Below w.heap.size w w' := by
  have H := find_bad A n c B l v w hr hB hE
  have HH := Lib.hid H
  clear H
  generalize handE l = E at *
  have hE1 : (E != 0) = true := by simpa using hE
  have hE2 : (E == 0) = false := by simpa using hE
  go_enter Tryz.func38, Tryz.ntmps38
  go_wp2_with (go_at_call 76; refine HH.out.mono ?_; rintro e w1 ⟨rfl, hb1⟩)
  go_ret2
  exact ⟨rfl, hb1⟩

set_option maxHeartbeats 400000 in
theorem close_stale (A : Option Addr) (n c B : Nat) (l : List Slot) (v : Int) (w : World) (hr : Reads w B 3 A n (slotsC l)) (hB : B ≤ w.heap.size) (hE : handE l = 0) (v0 : 0 ≤ v) (v1 : v < 18446744073709551616) (hf : ∀ i s, ¬ Found l v i s) :
    Calls Tryz.prog 38 #[.slice A n c, .int .u64 v] w fun e w' => e = .returned (.tuple #[.slice none 0 0, .int .i64 9]) ∧ Below w.heap.size w w' := by
  have H := find_stale A n c B l v w hr hB hE v0 v1 hf
  have HH := Lib.hid H
  clear H hE
  go_enter Tryz.func38, Tryz.ntmps38
  go_wp2_with (go_at_call 76; refine HH.out.mono ?_; rintro e w1 ⟨rfl, hb1⟩)
  go_ret2
  exact ⟨rfl, hb1⟩

set_option maxHeartbeats 1000000 in
theorem close_ok (A : Option Addr) (n c B : Nat) (l : List Slot) (v : Int) (i : Nat) (s : Slot) (w : World) (hr : Reads w B 3 A n (slotsC l)) (hB : B ≤ w.heap.size) (hE : handE l = 0) (v0 : 0 ≤ v) (v1 : v < 18446744073709551616) (hf : Found l v i s) :
    Calls Tryz.prog 38 #[.slice A n c, .int .u64 v] w fun e w' => Below w.heap.size w w' ∧
      ∃ A' c', e = .returned (.tuple #[.slice A' n c', .int .i64 0]) ∧ w'.ownsRow w.heap.size 65 3 (.slice A' n c') n (slotsC (l.set i ⟨s.gen, false, 0⟩)) := by
  have H := find_ok A n c B l v i s w hr hB hE v0 v1 hf
  have HH := Lib.hid H
  have hll : l.length = n := by have := hr.1; rw [slotsC_length] at this; omega
  have hs := hf.2.1
  have hil : i < n := by have := (List.getElem?_eq_some_iff.1 hs).1; omega
  have hn16 : n ≤ 16 := by have := (handE_ok.1 hE).1; omega
  have hr0 := hr
  obtain ⟨ad, s', rfl, had, hs', c0, c1, c2⟩ := hr.slot hil
  obtain rfl : s' = s := by rw [hs] at hs'; exact (Option.some.inj hs').symm
  have HC0 := Lib.hid c0
  have HS := Lib.hid hs
  clear H hE hf hs hs' c0 c1 c2 hr hll
  have hil2 : (i : Int) < n := by omega
  have hbl : (ad.add (i * 3)).block < w.heap.size := by rw [block_of_add]; omega
  go_enter Tryz.func38, Tryz.ntmps38
  go_wp2_with fail
  refine HH.out.mono ?_
  rintro e w1 ⟨rfl, hb1⟩
  go_wp2_with fail
  refine (clone_slots _ _ _ _ _ _ (hr0.below (hb1.mono hB)) (Nat.le_trans hB hb1.size) (slotsC_one _) (by omega)).mono ?_
  rintro e w2 ⟨A', c', rfl, hown, hb2⟩
  have hb02 := below_step hb1 hb2
  have c0 := (hb02.cell (p := ad.add (i * 3)) hbl).trans HC0.out
  obtain ⟨g, cap, hv, hg, -⟩ := hown.form (by omega)
  obtain ⟨rfl, rfl⟩ : A' = some ⟨g, 0, none⟩ ∧ c' = cap := by simpa using hv
  clear hv hb2
  obtain ⟨d0, d1, d2⟩ := own_slot hown HS.out
  have f0 := hown.frozenAt (i * 3)
  have f1 := hown.frozenAt (i * 3 + 1)
  have f2 := hown.frozenAt (i * 3 + 2)
  have HO := Lib.hid (own_setSlot i ⟨s'.gen, false, 0⟩ (own_mono hown hb1.size))
  have hgs : w.heap.size ≤ g := Nat.le_trans hb1.size hg
  clear hown hr0
  go_wp2
  go_ret2
  exact ⟨below_set3 hb02 hgs _ _ _ _ _ _, some ⟨g, 0, none⟩, c', rfl, HO.out⟩
end Go.Proofs.YtbhbgdlnfobjaaaGreat

/-
  package hand: Open; and the laws' closed fact 'hands'.
-/
namespace Go.Proofs.YtbhbgdlnfobjaaaGreat
open Go.RowKit

theorem results_tmp4 {fn : Func} {t u v x : Tmp} (h : fn.results = #[.tmp t, .tmp u, .tmp v, .tmp x]) (tmps : Array Value) (P : Program) (w : World) :
    (results fn tmps).run P w = .ok (.tuple #[tmps.getD t undef, tmps.getD u undef, tmps.getD v undef, tmps.getD x undef]) w := by simp [results, h]

/-- hand.Open: its error number. -/
def openE (l : List Slot) (loc : Int) : Int := if handE l ≠ 0 then handE l else if loc < 0 ∨ 256 ≤ loc then 4 else if freeIx l = -1 then 7 else 0

theorem openE_ok {l : List Slot} {loc : Int} (h : openE l loc = 0) : handE l = 0 ∧ 0 ≤ loc ∧ loc < 256 ∧ ∃ (i : Nat) (s : Slot), freeIx l = i ∧ l[i]? = some s ∧ slotFree s = true := by
  unfold openE at h
  split at h
  · rename_i a; exact absurd h a
  · rename_i a
    split at h
    · cases h
    · rename_i b
      split at h
      · cases h
      · rename_i c
        refine ⟨by simpa using a, by omega, by omega, ?_⟩
        rcases freeIx_cases l with ⟨h1, _⟩ | h1
        · exact absurd h1 c
        · exact h1

set_option maxHeartbeats 400000 in
theorem open_bad (A : Option Addr) (n c B : Nat) (l : List Slot) (loc : Int) (w : World) (hr : Reads w B 3 A n (slotsC l)) (hB : B ≤ w.heap.size) (hE : openE l loc ≠ 0) :
    Calls Tryz.prog 34 #[.slice A n c, .int .i64 loc] w fun e w' => e = .returned (.tuple #[.slice none 0 0, .int .u64 0, .int .i64 (openE l loc)]) ∧ Below w.heap.size w w' := by
  have H := handCheck_any A n c B l w hr hB
  have HH := Lib.hid H
  clear H
  by_cases h1 : handE l = 0
  · by_cases h2 : loc < 0 ∨ 256 ≤ loc
    · have HE : Hid (openE l loc = 4) := by show _ = _; unfold openE; rw [if_neg (by simpa using h1), if_pos h2]
      have HH : Hid (Calls Tryz.prog 30 #[.slice A n c] w fun e w' => e = .returned (.int .i64 0) ∧ Below w.heap.size w w') := by have := HH.out; rw [h1] at this; exact this
      have H2 := Lib.hid h2
      clear h1 h2 hE
      go_enter Tryz.func34, Tryz.ntmps34
      go_wp2_with (first
        | (go_at_call 30; refine HH.out.mono ?_; rintro e w1 ⟨rfl, hb1⟩)
        | (go_at_call 63; refine (handThere_no _ _ H2.out).mono ?_; rintro e w2 ⟨rfl, rfl⟩))
      go_ret3
      exact ⟨by rw [HE.out]; rfl, hb1⟩
    · have h3 : freeIx l = -1 := by
        unfold openE at hE
        rw [if_neg (by simpa using h1), if_neg h2] at hE
        by_cases h : freeIx l = -1
        · exact h
        · rw [if_neg h] at hE; exact absurd rfl hE
      have HE : Hid (openE l loc = 7) := by show _ = _; unfold openE; rw [if_neg (by simpa using h1), if_neg h2, if_pos h3]
      have HH : Hid (Calls Tryz.prog 30 #[.slice A n c] w fun e w' => e = .returned (.int .i64 0) ∧ Below w.heap.size w w') := by have := HH.out; rw [h1] at this; exact this
      have hn16 : n ≤ 16 := by have := (handE_ok.1 h1).1; have := hr.1; rw [slotsC_length] at this; omega
      have H2 : Hid (0 ≤ loc ∧ loc < 256) := by show _ ∧ _; omega
      have H3 := Lib.hid h3
      clear h1 h2 hE h3
      go_enter Tryz.func34, Tryz.ntmps34
      go_wp2_with (first
        | (go_at_call 30; refine HH.out.mono ?_; rintro e w1 ⟨rfl, hb1⟩)
        | (go_at_call 63; refine (handThere_yes _ _ H2.out).mono ?_; rintro e w2 ⟨rfl, rfl⟩)
        | (go_at_call 70; refine (indexFree_any _ _ _ _ _ _ (hr.below (hb1.mono hB)) (Nat.le_trans hB hb1.size) (by omega)).mono ?_; rw [H3.out]; rintro e w3 ⟨rfl, hb3⟩))
      go_ret3
      exact ⟨by rw [HE.out]; rfl, below_step hb1 hb3⟩
  · have HE : Hid (openE l loc = handE l) := by show _ = _; unfold openE; rw [if_pos h1]
    generalize handE l = E at *
    have hE1 : (E != 0) = true := by simpa using h1
    have hE2 : (E == 0) = false := by simpa using h1
    clear hE
    go_enter Tryz.func34, Tryz.ntmps34
    go_wp2_with (go_at_call 30; refine HH.out.mono ?_; rintro e w1 ⟨rfl, hb1⟩)
    go_ret3
    exact ⟨by rw [HE.out]; rfl, hb1⟩

set_option maxHeartbeats 1000000 in
theorem open_ok (A : Option Addr) (n c B : Nat) (l : List Slot) (loc : Int) (i : Nat) (s : Slot) (w : World) (hr : Reads w B 3 A n (slotsC l)) (hB : B ≤ w.heap.size) (hE : openE l loc = 0) (hi : freeIx l = i) (hs : l[i]? = some s) (hfr : slotFree s = true) :
    Calls Tryz.prog 34 #[.slice A n c, .int .i64 loc] w fun e w' => Below w.heap.size w w' ∧
      ∃ A' c', e = .returned (.tuple #[.slice A' n c', .int .u64 (i + (s.gen + 1) * 65536), .int .i64 0]) ∧ w'.ownsRow w.heap.size 65 3 (.slice A' n c') n (slotsC (l.set i ⟨s.gen + 1, true, loc⟩)) := by
  obtain ⟨hC, l0, l1, _⟩ := openE_ok hE
  have H := handCheck_any A n c B l w hr hB
  rw [hC] at H
  have HH := Lib.hid H
  obtain ⟨hlen, hall⟩ := handE_ok.1 hC
  have hll : l.length = n := by have := hr.1; rw [slotsC_length] at this; omega
  have hil : i < n := by have := (List.getElem?_eq_some_iff.1 hs).1; omega
  obtain ⟨g0, g1, _, _, _, _⟩ := slotE_ok.1 (hall s (List.mem_of_getElem? hs))
  have g2 : s.gen < 65535 := by simp [slotFree] at hfr; exact hfr.2
  have hr0 := hr
  obtain ⟨ad, s', rfl, had, hs', c0, c1, c2⟩ := hr.slot hil
  obtain rfl : s' = s := by rw [hs] at hs'; exact (Option.some.inj hs').symm
  have HC0 := Lib.hid c0
  have HS := Lib.hid hs
  have HI := Lib.hid hi
  have H2 : Hid (0 ≤ loc ∧ loc < 256) := ⟨l0, l1⟩
  have hn16 : n ≤ 16 := by omega
  clear H hE hC hi hs hs' c0 c1 c2 hr hll hall hfr hlen
  have hil2 : (i : Int) < n := by omega
  have hbl : (ad.add (i * 3)).block < w.heap.size := by rw [block_of_add]; omega
  obtain ⟨gen, opn, loc0⟩ := s'
  dsimp only at g0 g1 g2 HC0 ⊢
  go_enter Tryz.func34, Tryz.ntmps34
  go_wp2_with fail
  refine HH.out.mono ?_
  rintro e w1 ⟨rfl, hb1⟩
  go_wp2_with fail
  refine (handThere_yes _ _ H2.out).mono ?_
  rintro e w2 ⟨rfl, rfl⟩
  go_wp2_with fail
  refine (indexFree_any _ _ _ _ _ _ (hr0.below (hb1.mono hB)) (Nat.le_trans hB hb1.size) (by omega)).mono ?_
  rw [HI.out]
  rintro e w3 ⟨rfl, hb3⟩
  have hb03 := below_step hb1 hb3
  go_wp2_with fail
  refine (clone_slots _ _ _ _ _ _ (hr0.below (hb03.mono hB)) (Nat.le_trans hB hb03.size) (slotsC_one _) (by omega)).mono ?_
  rintro e w4 ⟨A', c', rfl, hown, hb4⟩
  have hb04 := below_step hb03 hb4
  have c0 := (hb04.cell (p := ad.add (i * 3)) hbl).trans HC0.out
  obtain ⟨g, cap, hv, hg, -⟩ := hown.form (by omega)
  obtain ⟨rfl, rfl⟩ : A' = some ⟨g, 0, none⟩ ∧ c' = cap := by simpa using hv
  clear hv hb4 hb3 hb1
  have f0 := hown.frozenAt (i * 3)
  have f1 := hown.frozenAt (i * 3 + 1)
  have f2 := hown.frozenAt (i * 3 + 2)
  obtain ⟨d0, d1, d2⟩ := own_slot hown HS.out
  have HO := Lib.hid (own_setSlot i ⟨gen + 1, true, loc⟩ (own_mono hown hb03.size))
  have hgs : w.heap.size ≤ g := Nat.le_trans hb03.size hg
  have HB5 := Lib.hid (below_set3 hb04 hgs (i * 3) (i * 3 + 1) (i * 3 + 2) (.int .i64 (gen + 1)) (.bool true) (.int .i64 loc))
  clear hown hr0 hb04
  go_wp2_with fail
  refine (handName_any _ _ _ _ _ (by omega) (by omega)).mono ?_
  rintro e w5 ⟨rfl, hb5⟩
  go_wp2
  go_ret3
  refine ⟨below_step HB5.out hb5, some ⟨g, 0, none⟩, c', rfl, ?_⟩
  exact own_below HO.out hb5
end Go.Proofs.YtbhbgdlnfobjaaaGreat

/-
  What the laws on handles share: 'hands' answers true; Look as one function; plain facts on names.
-/
namespace Go.Proofs.YtbhbgdlnfobjaaaGreat
open Go.RowKit

/-- The slot that a name finds, if any. -/
def findS (l : List Slot) (v : Int) : Option Slot :=
  match l[(v % 65536).toNat]? with
  | some s => if s.opn = true ∧ v % 65536 + s.gen * 65536 = v then some s else none
  | none => none

theorem findS_some {l : List Slot} {v : Int} {s : Slot} : findS l v = some s ↔ Found l v (v % 65536).toNat s := by
  unfold findS Found
  have e : ((v % 65536).toNat : Int) = v % 65536 := by omega
  rw [e]
  cases h : l[(v % 65536).toNat]? with
  | none => simp
  | some t =>
    dsimp only
    split
    · rename_i hc
      constructor
      · intro hh; cases hh; exact ⟨rfl, rfl, hc.1, hc.2⟩
      · rintro ⟨_, h2, _, _⟩; exact h2
    · rename_i hc
      constructor
      · intro hh; cases hh
      · rintro ⟨_, h2, h3, h4⟩
        cases h2
        exact absurd ⟨h3, h4⟩ hc

theorem found_findS {l : List Slot} {v : Int} {i : Nat} {s : Slot} (h : Found l v i s) : findS l v = some s := by
  rw [findS_some]
  have : (v % 65536).toNat = i := by have := h.1; omega
  rw [this]
  exact h

def lookV (l : List Slot) (v : Int) : Int := if handE l ≠ 0 then 0 else match findS l v with | some s => s.loc | none => 0
def lookE (l : List Slot) (v : Int) : Int := if handE l ≠ 0 then handE l else match findS l v with | some _ => 0 | none => 9

theorem look_any (A : Option Addr) (n c B : Nat) (l : List Slot) (v : Int) (w : World) (hr : Reads w B 3 A n (slotsC l)) (hB : B ≤ w.heap.size) (v0 : 0 ≤ v) (v1 : v < 18446744073709551616) :
    Calls Tryz.prog 37 #[.slice A n c, .int .u64 v] w fun e w' => e = .returned (.tuple #[.int .i64 (lookV l v), .int .i64 (lookE l v)]) ∧ Below w.heap.size w w' := by
  unfold lookV lookE
  by_cases hE : handE l = 0
  · rw [if_neg (by simpa using hE), if_neg (by simpa using hE)]
    cases h : findS l v with
    | some s => exact look_ok A n c B l v _ s w hr hB hE v0 v1 (findS_some.1 h)
    | none => exact look_stale A n c B l v w hr hB hE v0 v1 (fun i s hf => by rw [found_findS hf] at h; cases h)
  · rw [if_pos hE, if_pos hE]
    exact look_bad A n c B l v w hr hB hE

/-- A slot is set to one that is in order: the slots stay in order. -/
theorem handE_set {l : List Slot} {i : Nat} {s : Slot} (h : handE l = 0) (hs : slotE s = 0) : handE (l.set i s) = 0 := by
  rw [handE_ok] at h ⊢
  refine ⟨by simpa using h.1, fun x hx => ?_⟩
  rcases List.mem_or_eq_of_mem_set hx with h2 | rfl
  · exact h.2 x h2
  · exact hs

theorem slotE_of {l : List Slot} {i : Nat} {s : Slot} (h : handE l = 0) (hs : l[i]? = some s) : slotE s = 0 := (handE_ok.1 h).2 s (List.mem_of_getElem? hs)

/-- The name that a slot gets when it is opened finds it. -/
theorem found_opened {l : List Slot} {i : Nat} {s : Slot} {loc : Int} (hl : l.length ≤ 16) (hs : l[i]? = some s) : Found (l.set i ⟨s.gen + 1, true, loc⟩) (i + (s.gen + 1) * 65536) i ⟨s.gen + 1, true, loc⟩ := by
  have hi := (List.getElem?_eq_some_iff.1 hs).1
  exact ⟨by omega, by simp [hi], rfl, rfl⟩

theorem found_kept {l : List Slot} {i j : Nat} {s t u : Slot} {v : Int} (hs : l[i]? = some s) (hc : s.opn = false) (hf : Found l v j t) : Found (l.set i u) v j t := by
  obtain ⟨h1, h2, h3, h4⟩ := hf
  have hne : i ≠ j := by
    rintro rfl
    rw [hs] at h2
    cases h2
    rw [hc] at h3
    cases h3
  exact ⟨h1, by rw [List.getElem?_set_ne hne]; exact h2, h3, h4⟩

theorem notfound_closed {l : List Slot} {i : Nat} {u : Slot} {v : Int} (hi : v % 65536 = (i : Int)) (hc : u.opn = false) : findS (l.set i u) v = none := by
  cases h : findS (l.set i u) v with
  | none => rfl
  | some s =>
    obtain ⟨_, h2, h3, _⟩ := findS_some.1 h
    have e : (v % 65536).toNat = i := by omega
    rw [e, List.getElem?_set_self'] at h2
    cases h5 : l[i]? with
    | none => rw [h5] at h2; cases h2
    | some t =>
      rw [h5] at h2
      cases h2
      exact absurd (show u.opn = true from h3) (by rw [hc]; decide)
end Go.Proofs.YtbhbgdlnfobjaaaGreat

/-
  slices.Index and slices.Contains at []uint64.
-/
namespace Go.Proofs.YtbhbgdlnfobjaaaGreat
open Go.RowKit

end Go.Proofs.YtbhbgdlnfobjaaaGreat

/-
  What every law's row shares: the end of a call that changed nothing, and the opening of its arguments.
-/
namespace Go.Proofs.YtbhbgdlnfobjaaaGreat
open Go.ChangeShapes Go.WideShapes Go.ChangeAt Go.RowKit

theorem trodAll_below {H : Type} {enc : TypeId × Value → H} {P : Program} (hl : laidOutB P = true) {W W' : World} (hb : Below W.heap.size W W') :
    ∀ {ts : List TypeId} {vs : List Value} {ds : List (DataW H)} {ps : List MemPlace}, ts.all (fun t => P.readableRec t && decide (t < P.types.size)) = true →
      (∀ x ∈ ps, x.block < W.heap.size) → DataW.TrodAll enc P W 0 (fun _ => true) true ts vs ds ps → DataW.TrodAll enc P W' 0 (fun b => decide (b < W.heap.size)) true ts vs ds ps
  | [], [], [], _, _, _, h => h
  | t :: ts, v :: vs, d :: ds, ps, hr, hlt, h => by
    obtain ⟨p, q, h1, h2, rfl⟩ := h
    simp only [List.all_cons, Bool.and_eq_true, decide_eq_true_eq] at hr
    exact ⟨p, q, Below.trod hl hr.1.1 hr.1.2 h1 hb (fun x hx => hlt x (List.mem_append_left _ hx)), trodAll_below hl hb hr.2 (fun x hx => hlt x (List.mem_append_right _ hx)) h2, rfl⟩
  | [], _ :: _, _, _, _, _, h => h.elim
  | [], [], _ :: _, _, _, _, h => h.elim
  | _ :: _, [], _, _, _, _, h => h.elim
  | _ :: _, _ :: _, [], _, _, _, h => h.elim

/-- THE END OF A LAW: it answered true, and below the old heap's end nothing has changed. -/
theorem law_post {H : Type} {enc : TypeId × Value → H} {P : Program} {f : Func} {s : ChangeSpec} {tb : TypeId} {W W' : World} {args : Array Value} {ds gs : List (DataW H)} {before : List MemPlace}
    (hl : laidOutB P = true) (hu : P.underlying tb = some .bool) (hrt : f.resultTypes = #[tb]) (hts : f.params.toList.all (fun t => P.readableRec t && decide (t < P.types.size)) = true)
    (hv : s.vars = []) (hfn : s.fn H ds = { results := [.lit (.bool true)], args := ds })
    (hW : DataW.Whole enc P f.params.toList s.vars false W args.toList ds gs before) (hb : Below W.heap.size W W') :
    s.post enc P f false true false false W args (.bool true) W' := by
  have hW' := hW
  obtain ⟨p, q, hA, hV, rfl, hz, hn⟩ := hW
  rw [hv] at hV
  obtain ⟨rfl, rfl⟩ := trodVars_none hV
  refine ⟨ds, [], _, [], p, [], hW', ?_, ?_, ?_, hb.frame _, fun h => by cases h⟩
  · rw [List.append_nil, hfn, hrt]
    exact trodAll_mk1 (shut_bool hu true)
  · rw [List.append_nil, hfn]
    exact trodAll_below hl hb hts (fun x hx => hW'.lt x (List.mem_append_left _ hx)) hA
  · rw [hv, List.append_nil, hfn]
    rfl

theorem b64 {x : Int} (h : (Lit.int .i64 x).wf = true) : -9223372036854775808 ≤ x ∧ x ≤ 9223372036854775807 := by
  simpa [Lit.wf, IntKind.min, IntKind.max, IntKind.signed, IntKind.bits] using h
theorem bu64 {x : Int} (h : (Lit.int .u64 x).wf = true) : 0 ≤ x ∧ x ≤ 18446744073709551615 := by
  simpa [Lit.wf, IntKind.min, IntKind.max, IntKind.signed, IntKind.bits] using h

/-- A slice of numbers, as an argument. -/
theorem open_nums {H : Type} {enc : TypeId × Value → H} {P : Program} {t e : TypeId} {k : IntKind} {W : World} {r : Reach} {base : Nat} {sp : Nat → Bool} {v : Value} {d : DataW H} {ps : List MemPlace} (ht : P.underlying t = some (.slice e)) (he : P.underlying e = some (.int k)) (hc : P.cellsOf e = 1)
    (hval : Value.okWide P W r base t v) (hlt : ∀ x ∈ ps, x.block < W.heap.size) (h : DataW.Trod enc P W 0 sp true t v d ps) :
    ∃ (A : Option Addr) (n c : Nat) (xs : List Int), v = .slice A n c ∧ n ≤ c ∧ c ≤ maxLen ∧ Reads W W.heap.size 1 A n (xs.map (.int k)) ∧ (∀ x ∈ xs, (Lit.int k x).wf = true) := by
  obtain ⟨a0, len0, cap0, rfl⟩ := okWide_slice ht hval
  obtain ⟨fuel, hf⟩ := h
  rcases open_ints ht he hc hf with ⟨hcs, hx⟩ | ⟨a, len, cap, zs, hcs, hb, hlc, hm, hzl, hx, hcell, hwf⟩
  · simp [Value.cells] at hcs
    obtain ⟨rfl, rfl, rfl⟩ := hcs
    exact ⟨none, 0, 0, [], rfl, Nat.le_refl _, Nat.zero_le _, Reads.none_, fun x hx => by cases hx⟩
  · simp [Value.cells] at hcs
    obtain ⟨rfl, rfl, rfl⟩ := hcs
    simp only [Prod.mk.injEq] at hx
    obtain ⟨rfl, rfl⟩ := hx
    have hlz : len0 ≤ zs.length := by rw [hzl]; split <;> omega
    refine ⟨some a, len0, cap0, zs.take len0, rfl, hlc, hm, ⟨by simp; omega, fun hn => ⟨a, rfl, ?_, fun j u hu => ?_⟩⟩, fun x hx => hwf x (List.mem_of_mem_take hx)⟩
    · have := hlt (.cell a.block (a.off + 0)) (by
        unfold MemPlace.row
        exact List.mem_map.2 ⟨0, List.mem_range.2 (by omega), rfl⟩)
      exact this
    · have hj : j < len0 := by
        have := (List.getElem?_eq_some_iff.1 hu).1
        simp at this; omega
      rw [hcell j (by omega)]
      rw [List.getElem?_map, List.getElem?_take, if_pos hj, List.getElem?_eq_getElem (by omega)] at hu
      rw [← hu, List.getD_eq_getElem?_getD, List.getElem?_eq_getElem (by omega)]
      rfl
end Go.Proofs.YtbhbgdlnfobjaaaGreat

/-
  Opening a slice of structs that came in: elements of k cells each.
-/
namespace Go.Proofs.YtbhbgdlnfobjaaaGreat
open Go.ChangeShapes Go.WideShapes Go.ChangeAt Go.RowKit Go.Joins Go.Deep

theorem open_elems2 {α : Type} [Inhabited α] (f : α → List Value) (k : Nat) (hk0 : 0 < k) (hf : ∀ a, (f a).length = k) {H : Type} {enc : TypeId × Value → H} {P : Program} {t e : TypeId} {W : World} {r : Reach} {base : Nat} {sp : Nat → Bool} {v : Value} {d : DataW H} {ps : List MemPlace}
    (ht : P.underlying t = some (.slice e)) (hc : P.cellsOf e = k) (hel : ∀ n cs y, DataW.trod enc P W 0 sp true n e cs = some y → ∃ a, cs = f a)
    (hval : Value.okWide P W r base t v) (hlt : ∀ x ∈ ps, x.block < W.heap.size) (h : DataW.Trod enc P W 0 sp true t v d ps) :
    ∃ (A : Option Addr) (n c : Nat) (l : List α), v = .slice A n c ∧ n ≤ c ∧ c ≤ maxLen ∧ Reads W W.heap.size k A n (l.flatMap f) ∧ l.length = n ∧ (n = 0 ∨ ∃ D E, d = .slice D E ∧ D.length = n) := by
  obtain ⟨a0, len0, cap0, rfl⟩ := okWide_slice ht hval
  obtain ⟨fuel, hf'⟩ := h
  rcases open_slice ht hf' with ⟨hcs, hx⟩ | ⟨a, len, cap, m, n, D, Pl, hcs, hb, hlc, hm, hmm, hx, hcell⟩
  · simp [Value.cells] at hcs
    obtain ⟨rfl, rfl, rfl⟩ := hcs
    exact ⟨none, 0, 0, [], rfl, Nat.le_refl _, Nat.zero_le _, Reads.none_, rfl, .inl rfl⟩
  · simp [Value.cells] at hcs
    obtain ⟨rfl, rfl, rfl⟩ := hcs
    simp only [Prod.mk.injEq] at hx
    obtain ⟨rfl, rfl⟩ := hx
    have hlm : len0 ≤ m := by rw [hmm]; split <;> omega
    rw [hc] at hcell hlt
    obtain ⟨V, hV⟩ := choose_lt (α := α) (p := fun i x => W.cells? 0 (a.add (i * k)) k = some (f x)) (fun i hi => by
      obtain ⟨cs', h1, h2⟩ := hcell i hi
      obtain ⟨x, rfl⟩ := hel _ _ _ h2
      exact ⟨x, h1⟩)
    refine ⟨some a, len0, cap0, (List.range len0).map V, rfl, hlc, hm, ⟨by rw [flat_length f k hf]; simp, fun hn => ⟨a, rfl, ?_, fun j u hu => ?_⟩⟩, by simp, .inr ⟨_, _, rfl, by simp⟩⟩
    · have := hlt (.cell a.block (a.off + 0)) (List.mem_append_left _ (by
        unfold MemPlace.row
        refine List.mem_map.2 ⟨0, List.mem_range.2 ?_, rfl⟩
        exact Nat.mul_pos (by omega) hk0))
      exact this
    · have hj : j < len0 * k := by
        have := (List.getElem?_eq_some_iff.1 hu).1
        rw [flat_length f k hf] at this
        simpa using this
      have hq : j / k < len0 := Nat.div_lt_of_lt_mul (by rw [Nat.mul_comm]; exact hj)
      have hr : j % k < k := Nat.mod_lt _ hk0
      have hjd : j / k * k + j % k = j := by rw [Nat.mul_comm]; exact Nat.div_add_mod j k
      rw [← hjd, flat_at f k hf _ _ _ (by simpa using hq) hr] at hu
      simp only [List.getElem_map, List.getElem_range] at hu
      have := (World.cells?_some (hV (j / k) (by omega))).2.2 (j % k) hr
      rw [add_of_add, hjd] at this
      rw [this]
      exact hu

theorem open_elems {α : Type} [Inhabited α] (f : α → List Value) (k : Nat) (hk0 : 0 < k) (hf : ∀ a, (f a).length = k) {H : Type} {enc : TypeId × Value → H} {P : Program} {t e : TypeId} {W : World} {r : Reach} {base : Nat} {sp : Nat → Bool} {v : Value} {d : DataW H} {ps : List MemPlace}
    (ht : P.underlying t = some (.slice e)) (hc : P.cellsOf e = k) (hel : ∀ n cs y, DataW.trod enc P W 0 sp true n e cs = some y → ∃ a, cs = f a)
    (hval : Value.okWide P W r base t v) (hlt : ∀ x ∈ ps, x.block < W.heap.size) (h : DataW.Trod enc P W 0 sp true t v d ps) :
    ∃ (A : Option Addr) (n c : Nat) (l : List α), v = .slice A n c ∧ n ≤ c ∧ c ≤ maxLen ∧ Reads W W.heap.size k A n (l.flatMap f) ∧ l.length = n := by
  obtain ⟨A, n, c, l, h1, h2, h3, h4, h5, _⟩ := open_elems2 f k hk0 hf ht hc hel hval hlt h
  exact ⟨A, n, c, l, h1, h2, h3, h4, h5⟩

theorem trod_struct2 {H : Type} {enc : TypeId × Value → H} {P : Program} {w : World} {base : Nat} {spare : Nat → Bool} {held : Bool} {t : TypeId} {f0 f1 : Field} {fuel : Nat} {cs : List Value} {x : DataW H × List MemPlace} (ht : P.underlying t = some (.struct #[f0, f1])) (h : DataW.trod enc P w base spare held fuel t cs = some x) :
    ∃ y0 y1 n, x = (.agg [y0.1, y1.1], y0.2 ++ y1.2) ∧ cs.length = P.cellsOf t ∧ DataW.trod enc P w base spare held n f0.type ((cs.drop f0.offset).take (P.cellsOf f0.type)) = some y0 ∧
      DataW.trod enc P w base spare held n f1.type ((cs.drop f1.offset).take (P.cellsOf f1.type)) = some y1 := by
  obtain ⟨xs, n, _, rfl, hl, hlen, hf⟩ := DataW.trod_struct ht h
  match xs, hlen with
  | [y0, y1], _ => exact ⟨y0, y1, n, by simp, hl, by simpa using hf 0 _ rfl, by simpa using hf 1 _ rfl⟩
end Go.Proofs.YtbhbgdlnfobjaaaGreat

/-
  Opening a slice of slots that came in.
-/
namespace Go.Proofs.YtbhbgdlnfobjaaaGreat
open Go.ChangeShapes Go.WideShapes Go.ChangeAt Go.RowKit Go.Joins Go.Deep

instance : Inhabited Slot := ⟨⟨0, false, 0⟩⟩

theorem list3 {α : Type} {l : List α} (h : l.length = 3) : ∃ a b c, l = [a, b, c] := by
  match l, h with
  | [a, b, c], _ => exact ⟨a, b, c, rfl⟩

set_option maxRecDepth 100000 in
theorem open_slots {H : Type} {enc : TypeId × Value → H} {W : World} {r : Reach} {base : Nat} {sp : Nat → Bool} {v : Value} {d : DataW H} {ps : List MemPlace}
    (hval : Value.okWide Tryz.prog W r base 26 v) (hlt : ∀ x ∈ ps, x.block < W.heap.size) (h : DataW.Trod enc Tryz.prog W 0 sp true 26 v d ps) :
    ∃ (A : Option Addr) (n c : Nat) (l : List Slot), v = .slice A n c ∧ n ≤ c ∧ c ≤ maxLen ∧ Reads W W.heap.size 3 A n (slotsC l) := by
  obtain ⟨A, n, c, l, h1, h2, h3, h4, _⟩ := open_elems slotC 3 (by decide) (fun _ => rfl) Tryz.underlying26 (by kernel_rfl) (fun n cs y hy => by
    obtain ⟨y0, y1, y2, m, _, hl, a0, a1, a2⟩ := trod_struct3 Tryz.underlying65 hy
    have hl3 : cs.length = 3 := hl.trans (by kernel_rfl)
    obtain ⟨c0, c1, c2, rfl⟩ := list3 hl3
    have k0 : Tryz.prog.cellsOf 3 = 1 := by kernel_rfl
    have k1 : Tryz.prog.cellsOf 4 = 1 := by kernel_rfl
    dsimp only at a0 a1 a2
    rw [k0] at a0 a2
    rw [k1] at a1
    obtain ⟨x0, q0, -, -⟩ := DataW.trod_int Tryz.underlying3 a0
    obtain ⟨x1, q1, -⟩ := DataW.trod_bool Tryz.underlying4 a1
    obtain ⟨x2, q2, -, -⟩ := DataW.trod_int Tryz.underlying3 a2
    simp at q0 q1 q2
    subst q0 q1 q2
    exact ⟨⟨x0, x1, x2⟩, rfl⟩) hval hlt h
  exact ⟨A, n, c, l, h1, h2, h3, h4⟩
end Go.Proofs.YtbhbgdlnfobjaaaGreat

/-
  HandLive answers true for all slots, and changes no argument: the names of open handles are distinct, and each of them is found. No condition.
-/
namespace Go.Proofs.YtbhbgdlnfobjaaaGreat
open Go.RowKit

/-- hand.Live: the names of the open slots, from slot i on. -/
def liveL (i : Nat) : List Slot → List Int
  | [] => []
  | s :: r => if s.opn = true then ((i : Int) + s.gen * 65536) :: liveL (i + 1) r else liveL (i + 1) r

theorem liveL_snoc (l : List Slot) (i : Nat) (s : Slot) : liveL i (l ++ [s]) = liveL i l ++ (if s.opn = true then [((i + l.length : Nat) : Int) + s.gen * 65536] else []) := by
  induction l generalizing i with
  | nil => simp [liveL]
  | cons a l ih =>
    simp only [List.cons_append, liveL, ih, List.length_cons]
    rw [show i + 1 + l.length = i + (l.length + 1) by omega]
    split <;> simp

theorem liveL_length (l : List Slot) (i : Nat) : (liveL i l).length ≤ l.length := by
  induction l generalizing i with
  | nil => simp [liveL]
  | cons a l ih =>
    simp only [liveL]
    split
    · simp only [List.length_cons]; have := ih (i + 1); omega
    · have := ih (i + 1); simp only [List.length_cons]; omega

theorem liveL_mem {l : List Slot} {i : Nat} {v : Int} (h : v ∈ liveL i l) : ∃ (j : Nat) (s : Slot), l[j]? = some s ∧ s.opn = true ∧ v = ((i + j : Nat) : Int) + s.gen * 65536 := by
  induction l generalizing i with
  | nil => simp [liveL] at h
  | cons a l ih =>
    simp only [liveL] at h
    split at h
    · rename_i ho
      rcases List.mem_cons.1 h with rfl | h
      · exact ⟨0, a, rfl, ho, by simp⟩
      · obtain ⟨j, s, h1, h2, h3⟩ := ih h
        exact ⟨j + 1, s, h1, h2, by rw [h3]; omega⟩
    · obtain ⟨j, s, h1, h2, h3⟩ := ih h
      exact ⟨j + 1, s, h1, h2, by rw [h3]; omega⟩

/-- The names stand in the order of their slots. -/
theorem liveL_order {l : List Slot} {i : Nat} (hi : i + l.length ≤ 65536) : (liveL i l).Pairwise (fun a b => a % 65536 < b % 65536) := by
  induction l generalizing i with
  | nil => simp [liveL]
  | cons a l ih =>
    simp only [List.length_cons] at hi
    simp only [liveL]
    split
    · refine List.pairwise_cons.2 ⟨fun b hb => ?_, ih (by omega)⟩
      obtain ⟨j, s, h1, h2, rfl⟩ := liveL_mem hb
      have := (List.getElem?_eq_some_iff.1 h1).1
      omega
    · exact ih (by omega)

theorem live_found {l : List Slot} {v : Int} (hl : l.length ≤ 65536) (h : v ∈ liveL 0 l) : ∃ s, findS l v = some s := by
  obtain ⟨j, s, h1, h2, h3⟩ := liveL_mem h
  have := (List.getElem?_eq_some_iff.1 h1).1
  refine ⟨s, found_findS (i := j) ⟨by rw [h3]; omega, h1, h2, by rw [h3]; omega⟩⟩

theorem live_new {l : List Slot} (hl : l.length ≤ 65536) {k : Nat} {v : Int} (h : (liveL 0 l)[k]? = some v) : v ∉ (liveL 0 l).take k := by
  intro hm
  obtain ⟨hk, rfl⟩ := List.getElem?_eq_some_iff.1 h
  rw [List.mem_take_iff_getElem] at hm
  obtain ⟨j, hj, he⟩ := hm
  have := List.pairwise_iff_getElem.1 (liveL_order (l := l) (i := 0) (by omega)) j k (by omega) hk (by omega)
  rw [he] at this
  omega

theorem info_u64' : (Tryz.prog.info? 44).map (fun i => (i.zero, i.size, i.bytes)) = some (some (.int .u64 0), 1, 8) := by kernel_rfl

theorem Reads.part {w : World} {B n k : Nat} {A : Option Addr} {xs : List Value} (h : Reads w B 1 A n xs) (hk : k ≤ n) : Reads w B 1 A k (xs.take k) := by
  refine ⟨by rw [List.length_take, h.1]; omega, fun hk0 => ?_⟩
  obtain ⟨ad, e, hb, hc⟩ := h.2 (by omega)
  refine ⟨ad, e, hb, fun j u hu => hc j u ?_⟩
  rw [List.getElem?_take] at hu
  split at hu
  · exact hu
  · cases hu

namespace HandLive
open Go.ChangeShapes Go.WideShapes Go.ChangeAt Go.RowKit
theorem own : ownKnob Tryz.prog.godebug = none := by kernel_rfl
theorem laidOut : laidOutB Tryz.prog = true := by kernel_rfl

end HandLive
end Go.Proofs.YtbhbgdlnfobjaaaGreat

/-
  Plain law: heads of objects and their words. No program stands here.
-/
namespace Go.Proofs.YtbhbgdlnfobjaaaGreat
open Go.RowKit

/-- A head as a value. -/
def hv (r b t : Int) (f : Bool) : Value := .agg #[.int .i64 r, .int .i64 b, .int .i64 t, .bool f]

/-- head.Check: what it answers. -/
def headE (r b t : Int) (f : Bool) : Int :=
  if r < 0 ∨ b < 0 ∨ t < 0 ∨ 256 < r ∨ 256 < b ∨ 65535 < t then 4
  else if f = true ∧ (0 < r ∨ 0 < t) then 3
  else if 256 < 1 + r + b then 2 else 0

/-- head.Word: the word. -/
def wordOf (r b t : Int) (f : Bool) : Int := r + b * 65536 + t * 4294967296 + (if f then 281474976710656 else 0)

theorem headE_ok {r b t : Int} {f : Bool} : headE r b t f = 0 ↔ (0 ≤ r ∧ r ≤ 256 ∧ 0 ≤ b ∧ b ≤ 256 ∧ 0 ≤ t ∧ t ≤ 65535 ∧ 1 + r + b ≤ 256 ∧ (f = true → r = 0 ∧ t = 0)) := by
  unfold headE
  constructor
  · intro h
    split at h
    · cases h
    · split at h
      · cases h
      · split at h
        · cases h
        · rename_i a b' c
          exact ⟨by omega, by omega, by omega, by omega, by omega, by omega, by omega, fun hf => by
            subst hf
            simp at b'
            omega⟩
  · rintro ⟨h1, h2, h3, h4, h5, h6, h7, h8⟩
    rw [if_neg (by omega), if_neg (by rintro ⟨hf, h⟩; have := h8 hf; omega), if_neg (by omega)]

theorem headE_cases (r b t : Int) (f : Bool) : headE r b t f = 0 ∨ headE r b t f = 2 ∨ headE r b t f = 3 ∨ headE r b t f = 4 := by
  unfold headE
  split
  · simp
  · split
    · simp
    · split <;> simp

/-- head.Read: the head that a word tells, and whether it is one. -/
def rdR (v : Int) : Int := v % 65536
def rdB (v : Int) : Int := v / 65536 % 65536
def rdT (v : Int) : Int := v / 4294967296 % 65536
def rdF (v : Int) : Bool := decide (v / 281474976710656 % 2 = 1)
def readOk (v : Int) : Prop := v / 562949953421312 = 0 ∧ headE (rdR v) (rdB v) (rdT v) (rdF v) = 0
instance readOkDec (v : Int) : Decidable (readOk v) := by unfold readOk; infer_instance
end Go.Proofs.YtbhbgdlnfobjaaaGreat
