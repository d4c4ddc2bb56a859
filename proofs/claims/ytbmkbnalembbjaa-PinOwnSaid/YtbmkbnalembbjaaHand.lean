/-
  package hand: contracts of its functions.
-/
import Derived.Test.YtbmkbnalembbjaaRows
import Derived.Test.YtbmkbnalembbjaaBase
import Derived.Test.YtbmkbnalembbjaaBits
namespace Go.Proofs.Ytbmkbnalembbjaa
open Go.RowKit

/-- A slot of a name. -/
structure Slot where
  gen : Int
  opn : Bool
  loc : Int
deriving DecidableEq

def slotC (s : Slot) : List Value := [.int .i64 s.gen, .bool s.opn, .int .i64 s.loc]
def slotsC (l : List Slot) : List Value := l.flatMap slotC

theorem slotsC_length (l : List Slot) : (slotsC l).length = l.length * 3 := by
  induction l with
  | nil => rfl
  | cons a l ih => simp only [slotsC, List.flatMap_cons, List.length_append, List.length_cons] at ih ⊢; rw [ih]; simp [slotC]; omega

theorem slotsC_at (l : List Slot) (j i : Nat) (hj : j < l.length) (hi : i < 3) : (slotsC l)[j * 3 + i]? = (slotC l[j])[i]? := by
  induction l generalizing j with
  | nil => simp at hj
  | cons a l ih =>
    simp only [slotsC, List.flatMap_cons] at ih ⊢
    cases j with
    | zero => rw [List.getElem?_append_left (by simp [slotC]; omega)]; simp
    | succ j =>
      rw [List.getElem?_append_right (by simp [slotC]; omega)]
      have : (j + 1) * 3 + i - (slotC a).length = j * 3 + i := by simp [slotC]; omega
      rw [this]
      exact ih j (by simpa using hj)

theorem Reads.slot {w : World} {B : Nat} {A : Option Addr} {n j : Nat} {l : List Slot} (h : Reads w B 3 A n (slotsC l)) (hj : j < n) :
    ∃ ad s, A = some ad ∧ ad.block < B ∧ l[j]? = some s ∧ w.cell? (ad.add (j * 3)) = some (.int .i64 s.gen) ∧ w.cell? ⟨(ad.add (j * 3)).block, (ad.add (j * 3)).off + 1, none⟩ = some (.bool s.opn) ∧ w.cell? ⟨(ad.add (j * 3)).block, (ad.add (j * 3)).off + 2, none⟩ = some (.int .i64 s.loc) := by
  have hl : j < l.length := by have := h.1; rw [slotsC_length] at this; omega
  obtain ⟨ad, e, hb, hc⟩ := h.2 (by omega)
  refine ⟨ad, l[j], e, hb, List.getElem?_eq_getElem hl, ?_, ?_, ?_⟩
  · have := hc (j * 3 + 0) (.int .i64 l[j].gen) (by rw [slotsC_at l j 0 hl (by omega)]; rfl)
    exact this
  · have := hc (j * 3 + 1) _ (by rw [slotsC_at l j 1 hl (by omega)]; rfl)
    rw [← add_of_add] at this
    exact this
  · have := hc (j * 3 + 2) _ (by rw [slotsC_at l j 2 hl (by omega)]; rfl)
    rw [← add_of_add] at this
    exact this

/-- One slot is in order: what hand.Check says of it. -/
def slotE (s : Slot) : Int :=
  if s.gen < 0 ∨ 65535 < s.gen ∨ s.loc < 0 ∨ 256 ≤ s.loc then 4
  else if (s.opn = true ∧ s.gen = 0) ∨ (s.opn = false ∧ s.loc ≠ 0) then 3 else 0
def slotsE : List Slot → Int
  | [] => 0
  | s :: r => if slotE s ≠ 0 then slotE s else slotsE r
def handE (l : List Slot) : Int := if 16 < l.length then 2 else slotsE l

theorem handThere_yes (x : Int) (w : World) (h : 0 ≤ x ∧ x < 256) : Calls Try.prog 40 #[.int .i64 x] w fun e w' => e = .returned (.bool true) ∧ w = w' := by
  obtain ⟨h1, h2⟩ := h
  go_enter Try.func40, Try.ntmps40
  go_wp2
  go_ret
  exact ⟨rfl, rfl⟩
theorem handThere_no (x : Int) (w : World) (h : x < 0 ∨ 256 ≤ x) : Calls Try.prog 40 #[.int .i64 x] w fun e w' => e = .returned (.bool false) ∧ w = w' := by
  have h' : x < 0 ∨ (0 ≤ x ∧ 256 ≤ x) := by omega
  clear h
  rcases h' with h | ⟨h1, h⟩
  all_goals
    go_enter Try.func40, Try.ntmps40
    go_wp2
    go_ret
    exact ⟨by first | rfl | (simp; omega), rfl⟩

set_option maxHeartbeats 400000 in
theorem handCheck_big (A : Option Addr) (n c : Nat) (w : World) (hn : 16 < n) :
    Calls Try.prog 39 #[.slice A n c] w fun e w' => e = .returned (.int .i64 2) ∧ Below w.heap.size w w' := by
  go_enter Try.func39, Try.ntmps39
  go_wp2
  go_ret
  exact ⟨rfl, Below.refl _ _⟩

set_option maxHeartbeats 1000000 in
theorem handCheck_small (A : Option Addr) (n c B : Nat) (l : List Slot) (w : World) (hr : Reads w B 3 A n (slotsC l)) (hB : B ≤ w.heap.size) (hn : n ≤ 16) :
    Calls Try.prog 39 #[.slice A n c] w fun e w' => e = .returned (.int .i64 (slotsE l)) ∧ Below w.heap.size w w' := by
  have hll : l.length = n := by have := hr.1; rw [slotsC_length] at this; omega
  have HL := Lib.hid hll
  clear hll
  go_enter Try.func39, Try.ntmps39
  go_wp2
  go_loopw [10] (fun i wr => ∃ j : Nat, j ≤ n ∧ i = .int .i64 j ∧ Below w.heap.size w wr ∧ slotsE (l.drop j) = slotsE l) (fun i _ => n - (intOf i).toNat)
  case atStart => exact ⟨0, Nat.zero_le _, rfl, Below.refl _ _, rfl⟩
  case round =>
    obtain ⟨j, hj, rfl, hb, hd⟩ := hrel
    have HD := Lib.hid hd
    clear hd
    by_cases hlt : j < n
    · obtain ⟨ad, s, rfl, had, hs, hc0, hc1, hc2⟩ := (hr.below (hb.mono hB)).slot hlt
      have HT : Hid (slotsE (l.drop j) = if slotE s ≠ 0 then slotE s else slotsE (l.drop (j + 1))) := by
        show _ = _
        obtain ⟨hl, rfl⟩ := List.getElem?_eq_some_iff.1 hs
        rw [List.drop_eq_getElem_cons hl]
        rfl
      clear hs
      obtain ⟨gen, opn, loc⟩ := s
      dsimp only at hc0 hc1 hc2
      have hbn := hb.trans (((Below.refl wr.heap.size wr).alloc (Nat.le_refl _) (.cells #[.int .i64 gen, .bool opn, .int .i64 loc] 50)).mono hb.size)
      by_cases h4 : gen < 0 ∨ 65535 < gen ∨ loc < 0 ∨ 256 ≤ loc
      · have HE : Hid (slotsE l = 4) := by
          show _ = _
          rw [← HD.out, HT.out]
          have : slotE ⟨gen, opn, loc⟩ = 4 := by unfold slotE; rw [if_pos h4]
          rw [this]
          rfl
        have h4' : (gen < 0 ∨ 65535 < gen) ∨ ((¬ gen < 0 ∧ ¬ 65535 < gen) ∧ (loc < 0 ∨ 256 ≤ loc)) := by
          by_cases hg : gen < 0 ∨ 65535 < gen
          · exact .inl hg
          · exact .inr ⟨by omega, by omega⟩
        clear h4
        rcases h4' with h4 | ⟨⟨g1, g2⟩, h4⟩
        · go_wp2_with fail
          all_goals
            go_ret
            exact ⟨ret_int HE.out.symm, hbn⟩
        · have H4 := Lib.hid h4
          clear h4
          go_wp2_with (go_at_call 40; refine (handThere_no _ _ H4.out).mono ?_; rintro e w' ⟨rfl, rfl⟩)
          all_goals
            go_ret
            exact ⟨ret_int HE.out.symm, hbn⟩
      · have g1 : ¬ gen < 0 := by omega
        have g2 : ¬ 65535 < gen := by omega
        have G3 : Hid (0 ≤ loc ∧ loc < 256) := by show _ ∧ _; omega
        by_cases h3 : (opn = true ∧ gen = 0) ∨ (opn = false ∧ loc ≠ 0)
        · have HE : Hid (slotsE l = 3) := by
            show _ = _
            rw [← HD.out, HT.out]
            have : slotE ⟨gen, opn, loc⟩ = 3 := by unfold slotE; rw [if_neg h4, if_pos h3]
            rw [this]
            rfl
          clear h4
          rcases h3 with ⟨rfl, rfl⟩ | ⟨rfl, h3⟩
          · go_wp2_with (go_at_call 40; refine (handThere_yes _ _ G3.out).mono ?_; rintro e w' ⟨rfl, rfl⟩)
            go_ret
            exact ⟨ret_int HE.out.symm, hbn⟩
          · have e1 : (loc != 0) = true := by simpa using h3
            have e2 : (loc == 0) = false := by simpa using h3
            go_wp2_with (go_at_call 40; refine (handThere_yes _ _ G3.out).mono ?_; rintro e w' ⟨rfl, rfl⟩)
            go_ret
            exact ⟨ret_int HE.out.symm, hbn⟩
        · have HE : Hid (slotsE (l.drop (j + 1)) = slotsE l) := by
            show _ = _
            rw [← HD.out, HT.out]
            have : slotE ⟨gen, opn, loc⟩ = 0 := by unfold slotE; rw [if_neg h4, if_neg h3]
            rw [this]
            rfl
          have h3' : (opn = true ∧ gen ≠ 0) ∨ (opn = false ∧ loc = 0) := by
            cases opn
            · exact .inr ⟨rfl, by simpa using h3⟩
            · exact .inl ⟨rfl, by simpa using h3⟩
          clear h4 h3
          rcases h3' with ⟨rfl, h3⟩ | ⟨rfl, rfl⟩
          · have e1 : (gen != 0) = true := by simpa using h3
            have e2 : (gen == 0) = false := by simpa using h3
            go_wp2_with (go_at_call 40; refine (handThere_yes _ _ G3.out).mono ?_; rintro e w' ⟨rfl, rfl⟩)
            go_roundw
            case rel => exact ⟨j + 1, by omega, by go_num, hbn, HE.out⟩
            case measure => simp [intOf]; omega
          · go_wp2_with (go_at_call 40; refine (handThere_yes _ _ G3.out).mono ?_; rintro e w' ⟨rfl, rfl⟩)
            go_roundw
            case rel => exact ⟨j + 1, by omega, by go_num, hbn, HE.out⟩
            case measure => simp [intOf]; omega
    · go_wp2
      go_ret
      refine ⟨ret_int ?_, hb⟩
      rw [← HD.out, List.drop_of_length_le (by rw [HL.out]; omega)]
      rfl

theorem handE_small (l : List Slot) (n : Nat) (h : l.length = n) (hn : n ≤ 16) : handE l = slotsE l := by unfold handE; rw [if_neg (by omega)]

theorem handCheck_any (A : Option Addr) (n c B : Nat) (l : List Slot) (w : World) (hr : Reads w B 3 A n (slotsC l)) (hB : B ≤ w.heap.size) :
    Calls Try.prog 39 #[.slice A n c] w fun e w' => e = .returned (.int .i64 (handE l)) ∧ Below w.heap.size w w' := by
  have hll : l.length = n := by have := hr.1; rw [slotsC_length] at this; omega
  by_cases h : 16 < n
  · rw [show handE l = 2 from by unfold handE; rw [if_pos (by omega)]]
    exact handCheck_big A n c w h
  · rw [handE_small l n hll (by omega)]
    exact handCheck_small A n c B l w hr hB (by omega)

theorem slotE_ok {s : Slot} : slotE s = 0 ↔ (0 ≤ s.gen ∧ s.gen ≤ 65535 ∧ 0 ≤ s.loc ∧ s.loc < 256 ∧ (s.opn = true → s.gen ≠ 0) ∧ (s.opn = false → s.loc = 0)) := by
  unfold slotE
  constructor
  · intro h
    split at h
    · cases h
    · split at h
      · cases h
      · rename_i a b
        exact ⟨by omega, by omega, by omega, by omega, fun ho hg => b (.inl ⟨ho, hg⟩), fun ho => Classical.byContradiction fun hl => b (.inr ⟨ho, hl⟩)⟩
  · rintro ⟨h1, h2, h3, h4, h5, h6⟩
    rw [if_neg (by omega), if_neg]
    rintro (⟨ho, hg⟩ | ⟨ho, hl⟩)
    · exact h5 ho hg
    · exact hl (h6 ho)

theorem slotsE_ok {l : List Slot} : slotsE l = 0 ↔ ∀ s ∈ l, slotE s = 0 := by
  induction l with
  | nil => simp [slotsE]
  | cons a l ih =>
    unfold slotsE
    split
    · rename_i h
      constructor
      · intro h2; exact absurd h2 h
      · intro h2; exact absurd (h2 a (by simp)) h
    · rename_i h
      rw [ih]
      constructor
      · intro h2 s hs
        rcases List.mem_cons.1 hs with rfl | hs
        · simpa using h
        · exact h2 s hs
      · intro h2 s hs; exact h2 s (List.mem_cons_of_mem _ hs)

theorem handE_ok {l : List Slot} : handE l = 0 ↔ l.length ≤ 16 ∧ ∀ s ∈ l, slotE s = 0 := by
  unfold handE
  split
  · constructor
    · intro h; cases h
    · rintro ⟨h, _⟩; omega
  · rw [slotsE_ok]
    constructor
    · intro h; exact ⟨by omega, h⟩
    · intro h; exact h.2

theorem slotE_cases (s : Slot) : slotE s = 0 ∨ slotE s = 3 ∨ slotE s = 4 := by
  unfold slotE
  split
  · simp
  · split <;> simp

/-- hand.name: the name of slot i. -/
def nameOf (i gen : Int) : Int := i + gen * 65536

set_option maxHeartbeats 400000 in
theorem handName_any (i gen loc : Int) (opn : Bool) (w : World) (h1 : 0 ≤ i ∧ i < 65536) (h2 : 0 ≤ gen ∧ gen ≤ 65535) :
    Calls Try.prog 43 #[.int .i64 i, .agg #[.int .i64 gen, .bool opn, .int .i64 loc]] w fun e w' => e = .returned (.int .u64 (i + gen * 65536)) ∧ Below w.heap.size w w' := by
  have o1 := bor_join 16 (gen * 65536) i (by omega) (by omega) (by omega) (by omega) (by omega) (by omega)
  obtain ⟨g1, g2⟩ := h1
  obtain ⟨g3, g4⟩ := h2
  go_enter Try.func43, Try.ntmps43
  go_wp2
  go_ret
  exact ⟨rfl, below_new _ _⟩

/-- The slot that a name finds. -/
def Found (l : List Slot) (n : Int) (i : Nat) (s : Slot) : Prop := n % 65536 = (i : Int) ∧ l[i]? = some s ∧ s.opn = true ∧ (i : Int) + s.gen * 65536 = n

set_option maxHeartbeats 400000 in
theorem find_bad (A : Option Addr) (n c B : Nat) (l : List Slot) (v : Int) (w : World) (hr : Reads w B 3 A n (slotsC l)) (hB : B ≤ w.heap.size) (hE : handE l ≠ 0) :
    Calls Try.prog 44 #[.slice A n c, .int .u64 v] w fun e w' => e = .returned (.tuple #[.int .i64 0, .int .i64 (handE l)]) ∧ Below w.heap.size w w' := by
  have H := handCheck_any A n c B l w hr hB
  have HH := Lib.hid H
  clear H
  generalize handE l = E at *
  have hE1 : (E != 0) = true := by simpa using hE
  have hE2 : (E == 0) = false := by simpa using hE
  go_enter Try.func44, Try.ntmps44
  go_wp2_with (go_at_call 39; refine HH.out.mono ?_; rintro e w1 ⟨rfl, hb1⟩)
  go_ret2
  exact ⟨rfl, hb1⟩

set_option maxHeartbeats 400000 in
theorem find_ok (A : Option Addr) (n c B : Nat) (l : List Slot) (v : Int) (i : Nat) (s : Slot) (w : World) (hr : Reads w B 3 A n (slotsC l)) (hB : B ≤ w.heap.size) (hE : handE l = 0) (v0 : 0 ≤ v) (v1 : v < 18446744073709551616) (hf : Found l v i s) :
    Calls Try.prog 44 #[.slice A n c, .int .u64 v] w fun e w' => e = .returned (.tuple #[.int .i64 i, .int .i64 0]) ∧ Below w.heap.size w w' := by
  have H := handCheck_any A n c B l w hr hB
  rw [hE] at H
  have HH := Lib.hid H
  obtain ⟨hlen, hall⟩ := handE_ok.1 hE
  have hll : l.length = n := by have := hr.1; rw [slotsC_length] at this; omega
  obtain ⟨hi, hs, ho, hn⟩ := hf
  have hil : i < n := by have := (List.getElem?_eq_some_iff.1 hs).1; omega
  have hb := band16 v v0 v1
  rw [hi] at hb
  obtain ⟨g1, g2, _, _, _, _⟩ := slotE_ok.1 (hall s (List.mem_of_getElem? hs))
  obtain ⟨ad, s', rfl, had, hs', c0, c1, c2⟩ := hr.slot hil
  obtain rfl : s' = s := by rw [hs] at hs'; exact (Option.some.inj hs').symm
  have HC0 := Lib.hid c0
  have HC1 := Lib.hid c1
  have HC2 := Lib.hid c2
  have HN := Lib.hid hn
  clear H hE hall hi hs hs' c0 c1 c2 hn hr
  obtain ⟨gen, opn, loc⟩ := s'
  obtain rfl : opn = true := ho
  dsimp only at g1 g2 HC0 HC1 HC2 HN
  have hil2 : (i : Int) < n := by omega
  have hn16 : n ≤ 16 := by omega
  have hbl : (ad.add (i * 3)).block < w.heap.size := by rw [block_of_add]; omega
  have hle : ¬ (n : Int) ≤ i := by omega
  clear hll
  go_enter Try.func44, Try.ntmps44
  go_wp2_with fail
  refine HH.out.mono ?_
  rintro e w1 ⟨rfl, hb1⟩
  have c0 := (hb1.cell (p := ad.add (i * 3)) hbl).trans HC0.out
  have c1 := (hb1.cell (p := ⟨(ad.add (i * 3)).block, (ad.add (i * 3)).off + 1, none⟩) hbl).trans HC1.out
  have c2 := (hb1.cell (p := ⟨(ad.add (i * 3)).block, (ad.add (i * 3)).off + 2, none⟩) hbl).trans HC2.out
  go_wp2_with fail
  refine (handName_any _ _ _ _ _ (by omega) (by omega)).mono ?_
  rw [HN.out]
  rintro e w2 ⟨rfl, hb2⟩
  clear c0 c1 c2
  go_wp2
  go_ret2
  exact ⟨rfl, below_step hb1 hb2⟩

set_option maxHeartbeats 400000 in
theorem find_stale (A : Option Addr) (n c B : Nat) (l : List Slot) (v : Int) (w : World) (hr : Reads w B 3 A n (slotsC l)) (hB : B ≤ w.heap.size) (hE : handE l = 0) (v0 : 0 ≤ v) (v1 : v < 18446744073709551616) (hf : ∀ i s, ¬ Found l v i s) :
    Calls Try.prog 44 #[.slice A n c, .int .u64 v] w fun e w' => e = .returned (.tuple #[.int .i64 0, .int .i64 9]) ∧ Below w.heap.size w w' := by
  have H := handCheck_any A n c B l w hr hB
  rw [hE] at H
  have HH := Lib.hid H
  obtain ⟨hlen, hall⟩ := handE_ok.1 hE
  have hll : l.length = n := by have := hr.1; rw [slotsC_length] at this; omega
  obtain ⟨i, hi⟩ := Int.eq_ofNat_of_zero_le (show 0 ≤ v % 65536 by omega)
  have hb := band16 v v0 v1
  rw [hi] at hb
  have hn16 : n ≤ 16 := by omega
  have hi6 : i < 65536 := by omega
  by_cases hil : i < n
  · obtain ⟨ad, s, rfl, had, hs, c0, c1, c2⟩ := hr.slot hil
    obtain ⟨g1, g2, _, _, _, _⟩ := slotE_ok.1 (hall s (List.mem_of_getElem? hs))
    have hnf := hf i s
    have hcase : s.opn = false ∨ (s.opn = true ∧ (i : Int) + s.gen * 65536 ≠ v) := by
      cases ho : s.opn
      · exact .inl rfl
      · exact .inr ⟨rfl, fun h => hnf ⟨hi, hs, ho, h⟩⟩
    have HC0 := Lib.hid c0
    have HC1 := Lib.hid c1
    have HC2 := Lib.hid c2
    clear H hE hall hi hs c0 c1 c2 hr hf hnf hll
    obtain ⟨gen, opn, loc⟩ := s
    dsimp only at g1 g2 HC0 HC1 HC2 hcase
    have hil2 : (i : Int) < n := by omega
    have hbl : (ad.add (i * 3)).block < w.heap.size := by rw [block_of_add]; omega
    have hle : ¬ (n : Int) ≤ i := by omega
    rcases hcase with rfl | ⟨rfl, hne⟩
    · go_enter Try.func44, Try.ntmps44
      go_wp2_with fail
      refine HH.out.mono ?_
      rintro e w1 ⟨rfl, hb1⟩
      have c0 := (hb1.cell (p := ad.add (i * 3)) hbl).trans HC0.out
      have c1 := (hb1.cell (p := ⟨(ad.add (i * 3)).block, (ad.add (i * 3)).off + 1, none⟩) hbl).trans HC1.out
      have c2 := (hb1.cell (p := ⟨(ad.add (i * 3)).block, (ad.add (i * 3)).off + 2, none⟩) hbl).trans HC2.out
      go_wp2_with fail
      go_ret2
      exact ⟨rfl, hb1⟩
    · have HN : Hid ((i : Int) + gen * 65536 ≠ v) := hne
      clear hne
      go_enter Try.func44, Try.ntmps44
      go_wp2_with fail
      refine HH.out.mono ?_
      rintro e w1 ⟨rfl, hb1⟩
      have c0 := (hb1.cell (p := ad.add (i * 3)) hbl).trans HC0.out
      have c1 := (hb1.cell (p := ⟨(ad.add (i * 3)).block, (ad.add (i * 3)).off + 1, none⟩) hbl).trans HC1.out
      have c2 := (hb1.cell (p := ⟨(ad.add (i * 3)).block, (ad.add (i * 3)).off + 2, none⟩) hbl).trans HC2.out
      go_wp2_with fail
      refine (handName_any _ _ _ _ _ (by omega) (by omega)).mono ?_
      have hn := HN.out
      generalize (i : Int) + gen * 65536 = nm at hn ⊢
      have e1 : (nm == v) = false := by simpa using hn
      have e2 : (nm != v) = true := by simpa using hn
      rintro e w2 ⟨rfl, hb2⟩
      clear c0 c1 c2
      go_wp2
      go_ret2
      exact ⟨rfl, below_step hb1 hb2⟩
  · have hle : (n : Int) ≤ i := by omega
    clear H hE hall hi hf hll
    go_enter Try.func44, Try.ntmps44
    go_wp2_with fail
    refine HH.out.mono ?_
    rintro e w1 ⟨rfl, hb1⟩
    go_wp2_with fail
    go_ret2
    exact ⟨rfl, hb1⟩

end Go.Proofs.Ytbmkbnalembbjaa
