/-
  Texts joined: Hand2 HandOpen HandLaw Contains Law LawElems LawSlots HandLive HeadDefs Arena Map Arena2.
-/
import Derived.Test.YtbmkbnalembbjaaGreatDoorRows
import Derived.ProofKit
import Derived.Deep.Slices
import Derived.Lib.SmallJoins
import Derived.WalkKit
import Derived.Maps.OwnSet
import Derived.Maps.OwnOps
import Derived.Test.YtbmkbnalembbjaaGreatDoorR0
import Derived.Test.YtbmkbnalembbjaaGreatDoorR1
namespace Go.Proofs.YtbmkbnalembbjaaGreatDoor
open Go.RowKit
theorem slotsC_one (l : List Slot) : ∀ u ∈ slotsC l, u.oneCell' = true := by
  intro u hu
  obtain ⟨s, _, hs⟩ := List.mem_flatMap.1 hu
  simp only [slotC, List.mem_cons, List.not_mem_nil, or_false] at hs
  rcases hs with rfl | rfl | rfl <;> rfl
theorem slotsC_set (l : List Slot) (i : Nat) (s : Slot) : (((slotsC l).set (i * 3) (.int .i64 s.gen)).set (i * 3 + 1) (.bool s.opn)).set (i * 3 + 2) (.int .i64 s.loc) = slotsC (l.set i s) := by
  induction l generalizing i with
  | nil => simp [slotsC]
  | cons a l ih =>
    cases i with
    | zero => simp [slotsC, slotC]
    | succ i =>
      have e : (i + 1) * 3 = i * 3 + 1 + 1 + 1 := by omega
      have := ih i
      simp only [slotsC, slotC, List.flatMap_cons, List.cons_append, List.nil_append, e, List.set_cons_succ] at this ⊢
      rw [← this]
def slotFree (s : Slot) : Bool := !s.opn && decide (s.gen < 65535)
def freeIx (l : List Slot) : Int := match l.findIdx? slotFree with | some i => (i : Int) | none => -1
theorem freeIx_some (l : List Slot) (i : Nat) (s : Slot) (h : l[i]? = some s) (hs : slotFree s = true) (hb : ∀ x ∈ l.take i, slotFree x = false) : freeIx l = i := by
  unfold freeIx
  have : l.findIdx? slotFree = some i := by
    obtain ⟨hl, rfl⟩ := List.getElem?_eq_some_iff.1 h
    rw [List.findIdx?_eq_some_iff_getElem]
    refine ⟨hl, hs, fun j hj => ?_⟩
    have := hb l[j] (by rw [List.mem_take_iff_getElem]; exact ⟨j, by omega, rfl⟩)
    rw [this]
    simp
  rw [this]
theorem freeIx_none (l : List Slot) (hb : ∀ x ∈ l, slotFree x = false) : freeIx l = -1 := by
  unfold freeIx
  have : l.findIdx? slotFree = none := by
    rw [List.findIdx?_eq_none_iff]
    exact hb
  rw [this]
theorem freeIx_cases (l : List Slot) : (freeIx l = -1 ∧ ∀ x ∈ l, slotFree x = false) ∨ ∃ (i : Nat) (s : Slot), freeIx l = i ∧ l[i]? = some s ∧ slotFree s = true := by
  unfold freeIx
  cases h : l.findIdx? slotFree with
  | none => exact .inl ⟨rfl, List.findIdx?_eq_none_iff.1 h⟩
  | some i =>
    obtain ⟨hl, hs, _⟩ := List.findIdx?_eq_some_iff_getElem.1 h
    exact .inr ⟨i, l[i], rfl, List.getElem?_eq_getElem hl, hs⟩
set_option maxHeartbeats 400000 in
theorem isFree_any (gen loc : Int) (opn : Bool) (w : World) :
    Calls Tryz.prog 114 #[.agg #[.int .i64 gen, .bool opn, .int .i64 loc]] w fun e w' => e = .returned (.bool (slotFree ⟨gen, opn, loc⟩)) ∧ Below w.heap.size w w' := by
  cases opn
  · by_cases h : gen < 65535
    · have HE : Hid (slotFree ⟨gen, false, loc⟩ = true) := by show _ = _; simp [slotFree, h]
      go_enter Tryz.func114, Tryz.ntmps114
      go_wp2
      go_ret
      exact ⟨by rw [HE.out]; rfl, below_new _ _⟩
    · have HE : Hid (slotFree ⟨gen, false, loc⟩ = false) := by show _ = _; simp [slotFree]; omega
      go_enter Tryz.func114, Tryz.ntmps114
      go_wp2
      go_ret
      exact ⟨by rw [HE.out]; rfl, below_new _ _⟩
  · have HE : Hid (slotFree ⟨gen, true, loc⟩ = false) := by show _ = _; simp [slotFree]
    go_enter Tryz.func114, Tryz.ntmps114
    go_wp2
    go_ret
    exact ⟨by rw [HE.out]; rfl, below_new _ _⟩
set_option maxHeartbeats 1000000 in
theorem indexFree_any (A : Option Addr) (n c B : Nat) (l : List Slot) (w : World) (hr : Reads w B 3 A n (slotsC l)) (hB : B ≤ w.heap.size) (hn : n ≤ 1000000) :
    Calls Tryz.prog 113 #[.slice A n c, .func (.func 114) #[] #[]] w fun e w' => e = .returned (.int .i64 (freeIx l)) ∧ Below w.heap.size w w' := by
  have hll : l.length = n := by have := hr.1; rw [slotsC_length] at this; omega
  have HL := Lib.hid hll
  clear hll
  go_enter Tryz.func113, Tryz.ntmps113
  go_wp2
  go_loopw [8] (fun i wr => ∃ j : Nat, j ≤ n ∧ i = .int .i64 j ∧ Below w.heap.size w wr ∧ ∀ x ∈ l.take j, slotFree x = false) (fun i _ => n - (intOf i).toNat)
  case atStart => exact ⟨0, Nat.zero_le _, rfl, Below.refl _ _, by simp⟩
  case round =>
    obtain ⟨j, hj, rfl, hb, hd⟩ := hrel
    have HD := Lib.hid hd
    clear hd
    by_cases hlt : j < n
    · obtain ⟨ad, s, rfl, had, hs, hc0, hc1, hc2⟩ := (hr.below (hb.mono hB)).slot hlt
      have HS := Lib.hid hs
      clear hs
      have HQ : Hid (∀ x ∈ l.take (j + 1), x ∈ l.take j ∨ x = s) := by
        intro x hx
        obtain ⟨hl, rfl⟩ := List.getElem?_eq_some_iff.1 HS.out
        rw [List.take_succ_eq_append_getElem hl, List.mem_append, List.mem_singleton] at hx
        exact hx
      obtain ⟨gen, opn, loc⟩ := s
      dsimp only at hc0 hc1 hc2
      cases hfr : slotFree ⟨gen, opn, loc⟩
      · have HF := Lib.hid hfr
        clear hfr
        go_wp2_with (go_at_call 114; refine (isFree_any _ _ _ _).mono ?_; rw [HF.out]; rintro e w1 ⟨rfl, hb1⟩)
        go_roundw
        case rel => exact ⟨j + 1, by omega, by go_num, hb.trans (hb1.mono hb.size), fun x hx => by
          rcases HQ.out x hx with h | rfl
          · exact HD.out x h
          · exact HF.out⟩
        case measure => simp [intOf]; omega
      · have HF := Lib.hid hfr
        clear hfr
        go_wp2_with (go_at_call 114; refine (isFree_any _ _ _ _).mono ?_; rw [HF.out]; rintro e w1 ⟨rfl, hb1⟩)
        go_ret
        exact ⟨ret_int (freeIx_some l j _ HS.out HF.out HD.out).symm, hb.trans (hb1.mono hb.size)⟩
    · go_wp2
      go_ret
      exact ⟨ret_int (freeIx_none l (by have := HD.out; rwa [List.take_of_length_le (by rw [HL.out]; omega)] at this)).symm, hb⟩
theorem info_slot : (Tryz.prog.info? 60).map (fun i => (i.zero, i.size, i.bytes)) = some (some (.agg #[.int .i64 0, .bool false, .int .i64 0]), 3, 24) := by kernel_rfl
set_option maxHeartbeats 400000 in
theorem clone_slots (A : Option Addr) (n c B : Nat) (xs : List Value) (w : World) (hr : Reads w B 3 A n xs) (hB : B ≤ w.heap.size) (h1 : ∀ u ∈ xs, u.oneCell' = true) (hn : n ≤ 1000000) :
    Calls Tryz.prog 18 #[.slice A n c] w fun e w' => ∃ A' c', e = .returned (.slice A' n c') ∧ w'.ownsRow w.heap.size 60 3 (.slice A' n c') n xs ∧ Below w.heap.size w w' := by
  obtain ⟨i0, hi, hz0, hz1, hz2⟩ := info_parts info_slot
  rcases A with _ | ad
  · have hm : n = 0 := by
      rcases Nat.eq_zero_or_pos n with h0 | h0
      · exact h0
      · obtain ⟨ad, h, _⟩ := hr.2 h0
        cases h
    subst hm
    have hx : xs = [] := List.eq_nil_of_length_eq_zero (by simpa using hr.1)
    subst hx
    have hnil := fun (w : World) => Lib.run_eql_slice_nil (P := Tryz.prog) w 26 60 none 0 c 0 0 Tryz.underlying26
    go_enter Tryz.func18, Tryz.ntmps18
    go_wp2
    go_ret
    exact ⟨none, 0, rfl, World.ownsRow_nil _ _ _ _, Below.refl _ _⟩
  · have hnil := fun (w : World) => Lib.run_eql_slice_nil (P := Tryz.prog) w 26 60 (some ad) n c 0 0 Tryz.underlying26
    have hmade := World.ownsRow_made (e := 60) (size := 3) w #[] 0 (Nat.le_refl w.heap.size) (Nat.zero_le _) rfl
    go_enter Tryz.func18, Tryz.ntmps18
    go_wp2_with (at_builtin; refine wpList_append_any _ rfl (.tmp 5) (.tmp 6) 26 rfl w.heap.size 60 i0 (.agg #[.int .i64 0, .bool false, .int .i64 0]) 3 24 Tryz.underlying26 hi hz0 hz1 hz2 rfl (by decide) (.slice (some ⟨w.heap.size, 0, none⟩) 0 0) 0 [] rfl hmade B (some ad) n c xs rfl (hr.alloc hB _) h1 (by simp [maxLen]; omega) (by omega) (by simp) ?_; rintro v' w1 hown hgr hbl -; obtain ⟨A', c', rfl⟩ := own_slice hown)
    go_ret
    exact ⟨A', c', rfl, by simpa using hown, ((Below.refl _ _).alloc (Nat.le_refl _) _).grown hgr (by simp) (by simp [Value.ownBlock])⟩
theorem own_slot {w : World} {base g n c j : Nat} {e : TypeId} {l : List Slot} {s : Slot} (h : w.ownsRow base e 3 (.slice (some ⟨g, 0, none⟩) n c) n (slotsC l)) (hs : l[j]? = some s) :
    w.cell? ⟨g, j * 3, none⟩ = some (.int .i64 s.gen) ∧ w.cell? ⟨g, j * 3 + 1, none⟩ = some (.bool s.opn) ∧ w.cell? ⟨g, j * 3 + 2, none⟩ = some (.int .i64 s.loc) := by
  obtain ⟨hl, rfl⟩ := List.getElem?_eq_some_iff.1 hs
  have hn : l.length = n := by have := h.1; rw [slotsC_length] at this; omega
  refine ⟨?_, ?_, ?_⟩
  · rw [h.cellAt (j * 3) (by omega)]
    exact slotsC_at l j 0 hl (by omega)
  · rw [h.cellAt (j * 3 + 1) (by omega)]
    exact slotsC_at l j 1 hl (by omega)
  · rw [h.cellAt (j * 3 + 2) (by omega)]
    exact slotsC_at l j 2 hl (by omega)
theorem own_setSlot {w : World} {base g n c : Nat} {e : TypeId} {l : List Slot} (j : Nat) (s : Slot) (h : w.ownsRow base e 3 (.slice (some ⟨g, 0, none⟩) n c) n (slotsC l)) :
    (((w.setCell ⟨g, j * 3, none⟩ (.int .i64 s.gen)).setCell ⟨g, j * 3 + 1, none⟩ (.bool s.opn)).setCell ⟨g, j * 3 + 2, none⟩ (.int .i64 s.loc)).ownsRow base e 3 (.slice (some ⟨g, 0, none⟩) n c) n (slotsC (l.set j s)) := by
  rw [← slotsC_set]
  exact (((h.stored (j * 3) (.int .i64 s.gen)).1.stored (j * 3 + 1) (.bool s.opn)).1.stored (j * 3 + 2) (.int .i64 s.loc)).1
theorem below_set3 {B : Nat} {w w' : World} (h : Below B w w') {g : Nat} (hg : B ≤ g) (a b c : Nat) (x y z : Value) : Below B w (((w'.setCell ⟨g, a, none⟩ x).setCell ⟨g, b, none⟩ y).setCell ⟨g, c, none⟩ z) :=
  ((h.setCell (p := ⟨g, a, none⟩) hg x).setCell (p := ⟨g, b, none⟩) hg y).setCell (p := ⟨g, c, none⟩) hg z
set_option maxHeartbeats 400000 in
theorem look_bad (A : Option Addr) (n c B : Nat) (l : List Slot) (v : Int) (w : World) (hr : Reads w B 3 A n (slotsC l)) (hB : B ≤ w.heap.size) (hE : handE l ≠ 0) :
    Calls Tryz.prog 82 #[.slice A n c, .int .u64 v] w fun e w' => e = .returned (.tuple #[.int .i64 0, .int .i64 (handE l)]) ∧ Below w.heap.size w w' := by
  have H := find_bad A n c B l v w hr hB hE
  have HH := Lib.hid H
  clear H
  generalize handE l = E at *
  have hE1 : (E != 0) = true := by simpa using hE
  have hE2 : (E == 0) = false := by simpa using hE
  go_enter Tryz.func82, Tryz.ntmps82
  go_wp2_with (go_at_call 116; refine HH.out.mono ?_; rintro e w1 ⟨rfl, hb1⟩)
  go_ret2
  exact ⟨rfl, hb1⟩
set_option maxHeartbeats 400000 in
theorem look_stale (A : Option Addr) (n c B : Nat) (l : List Slot) (v : Int) (w : World) (hr : Reads w B 3 A n (slotsC l)) (hB : B ≤ w.heap.size) (hE : handE l = 0) (v0 : 0 ≤ v) (v1 : v < 18446744073709551616) (hf : ∀ i s, ¬ Found l v i s) :
    Calls Tryz.prog 82 #[.slice A n c, .int .u64 v] w fun e w' => e = .returned (.tuple #[.int .i64 0, .int .i64 9]) ∧ Below w.heap.size w w' := by
  have H := find_stale A n c B l v w hr hB hE v0 v1 hf
  have HH := Lib.hid H
  clear H hE
  go_enter Tryz.func82, Tryz.ntmps82
  go_wp2_with (go_at_call 116; refine HH.out.mono ?_; rintro e w1 ⟨rfl, hb1⟩)
  go_ret2
  exact ⟨rfl, hb1⟩
set_option maxHeartbeats 400000 in
theorem look_ok (A : Option Addr) (n c B : Nat) (l : List Slot) (v : Int) (i : Nat) (s : Slot) (w : World) (hr : Reads w B 3 A n (slotsC l)) (hB : B ≤ w.heap.size) (hE : handE l = 0) (v0 : 0 ≤ v) (v1 : v < 18446744073709551616) (hf : Found l v i s) :
    Calls Tryz.prog 82 #[.slice A n c, .int .u64 v] w fun e w' => e = .returned (.tuple #[.int .i64 s.loc, .int .i64 0]) ∧ Below w.heap.size w w' := by
  have H := find_ok A n c B l v i s w hr hB hE v0 v1 hf
  have HH := Lib.hid H
  have hll : l.length = n := by have := hr.1; rw [slotsC_length] at this; omega
  have hs := hf.2.1
  have hil : i < n := by have := (List.getElem?_eq_some_iff.1 hs).1; omega
  have hn16 : n ≤ 16 := by have := (handE_ok.1 hE).1; omega
  obtain ⟨ad, s', rfl, had, hs', c0, c1, c2⟩ := hr.slot hil
  obtain rfl : s' = s := by rw [hs] at hs'; exact (Option.some.inj hs').symm
  have HC2 := Lib.hid c2
  clear H hE hf hs hs' c0 c1 c2 hr hll
  obtain ⟨gen, opn, loc⟩ := s'
  dsimp only at HC2 ⊢
  have hil2 : (i : Int) < n := by omega
  have hbl : (ad.add (i * 3)).block < w.heap.size := by rw [block_of_add]; omega
  go_enter Tryz.func82, Tryz.ntmps82
  go_wp2_with fail
  refine HH.out.mono ?_
  rintro e w1 ⟨rfl, hb1⟩
  have c2 := (hb1.cell (p := ⟨(ad.add (i * 3)).block, (ad.add (i * 3)).off + 2, none⟩) hbl).trans HC2.out
  go_wp2
  go_ret2
  exact ⟨rfl, hb1⟩
set_option maxHeartbeats 400000 in
theorem close_stale (A : Option Addr) (n c B : Nat) (l : List Slot) (v : Int) (w : World) (hr : Reads w B 3 A n (slotsC l)) (hB : B ≤ w.heap.size) (hE : handE l = 0) (v0 : 0 ≤ v) (v1 : v < 18446744073709551616) (hf : ∀ i s, ¬ Found l v i s) :
    Calls Tryz.prog 83 #[.slice A n c, .int .u64 v] w fun e w' => e = .returned (.tuple #[.slice none 0 0, .int .i64 9]) ∧ Below w.heap.size w w' := by
  have H := find_stale A n c B l v w hr hB hE v0 v1 hf
  have HH := Lib.hid H
  clear H hE
  go_enter Tryz.func83, Tryz.ntmps83
  go_wp2_with (go_at_call 116; refine HH.out.mono ?_; rintro e w1 ⟨rfl, hb1⟩)
  go_ret2
  exact ⟨rfl, hb1⟩
set_option maxHeartbeats 1000000 in
theorem close_ok (A : Option Addr) (n c B : Nat) (l : List Slot) (v : Int) (i : Nat) (s : Slot) (w : World) (hr : Reads w B 3 A n (slotsC l)) (hB : B ≤ w.heap.size) (hE : handE l = 0) (v0 : 0 ≤ v) (v1 : v < 18446744073709551616) (hf : Found l v i s) :
    Calls Tryz.prog 83 #[.slice A n c, .int .u64 v] w fun e w' => Below w.heap.size w w' ∧
      ∃ A' c', e = .returned (.tuple #[.slice A' n c', .int .i64 0]) ∧ w'.ownsRow w.heap.size 60 3 (.slice A' n c') n (slotsC (l.set i ⟨s.gen, false, 0⟩)) := by
  have H := find_ok A n c B l v i s w hr hB hE v0 v1 hf
  have HH := Lib.hid H
  have hll : l.length = n := by have := hr.1; rw [slotsC_length] at this; omega
  have hs := hf.2.1
  have hil : i < n := by have := (List.getElem?_eq_some_iff.1 hs).1; omega
  have hn16 : n ≤ 16 := by have := (handE_ok.1 hE).1; omega
  have hr0 := hr
  obtain ⟨ad, s', rfl, had, hs', c0, c1, c2⟩ := hr.slot hil
  obtain rfl : s' = s := by rw [hs] at hs'; exact (Option.some.inj hs').symm
  have HC0 := Lib.hid c0
  have HS := Lib.hid hs
  clear H hE hf hs hs' c0 c1 c2 hr hll
  have hil2 : (i : Int) < n := by omega
  have hbl : (ad.add (i * 3)).block < w.heap.size := by rw [block_of_add]; omega
  go_enter Tryz.func83, Tryz.ntmps83
  go_wp2_with fail
  refine HH.out.mono ?_
  rintro e w1 ⟨rfl, hb1⟩
  go_wp2_with fail
  refine (clone_slots _ _ _ _ _ _ (hr0.below (hb1.mono hB)) (Nat.le_trans hB hb1.size) (slotsC_one _) (by omega)).mono ?_
  rintro e w2 ⟨A', c', rfl, hown, hb2⟩
  have hb02 := below_step hb1 hb2
  have c0 := (hb02.cell (p := ad.add (i * 3)) hbl).trans HC0.out
  obtain ⟨g, cap, hv, hg, -⟩ := hown.form (by omega)
  obtain ⟨rfl, rfl⟩ : A' = some ⟨g, 0, none⟩ ∧ c' = cap := by simpa using hv
  clear hv hb2
  obtain ⟨d0, d1, d2⟩ := own_slot hown HS.out
  have f0 := hown.frozenAt (i * 3)
  have f1 := hown.frozenAt (i * 3 + 1)
  have f2 := hown.frozenAt (i * 3 + 2)
  have HO := Lib.hid (own_setSlot i ⟨s'.gen, false, 0⟩ (own_mono hown hb1.size))
  have hgs : w.heap.size ≤ g := Nat.le_trans hb1.size hg
  clear hown hr0
  go_wp2
  go_ret2
  exact ⟨below_set3 hb02 hgs _ _ _ _ _ _, some ⟨g, 0, none⟩, c', rfl, HO.out⟩
end Go.Proofs.YtbmkbnalembbjaaGreatDoor

namespace Go.Proofs.YtbmkbnalembbjaaGreatDoor
open Go.RowKit
def openE (l : List Slot) (loc : Int) : Int := if handE l ≠ 0 then handE l else if loc < 0 ∨ 256 ≤ loc then 4 else if freeIx l = -1 then 7 else 0
theorem openE_ok {l : List Slot} {loc : Int} (h : openE l loc = 0) : handE l = 0 ∧ 0 ≤ loc ∧ loc < 256 ∧ ∃ (i : Nat) (s : Slot), freeIx l = i ∧ l[i]? = some s ∧ slotFree s = true := by
  unfold openE at h
  split at h
  · rename_i a; exact absurd h a
  · rename_i a
    split at h
    · cases h
    · rename_i b
      split at h
      · cases h
      · rename_i c
        refine ⟨by simpa using a, by omega, by omega, ?_⟩
        rcases freeIx_cases l with ⟨h1, _⟩ | h1
        · exact absurd h1 c
        · exact h1
set_option maxHeartbeats 400000 in
theorem open_bad (A : Option Addr) (n c B : Nat) (l : List Slot) (loc : Int) (w : World) (hr : Reads w B 3 A n (slotsC l)) (hB : B ≤ w.heap.size) (hE : openE l loc ≠ 0) :
    Calls Tryz.prog 80 #[.slice A n c, .int .i64 loc] w fun e w' => e = .returned (.tuple #[.slice none 0 0, .int .u64 0, .int .i64 (openE l loc)]) ∧ Below w.heap.size w w' := by
  have H := handCheck_any A n c B l w hr hB
  have HH := Lib.hid H
  clear H
  by_cases h1 : handE l = 0
  · by_cases h2 : loc < 0 ∨ 256 ≤ loc
    · have HE : Hid (openE l loc = 4) := by show _ = _; unfold openE; rw [if_neg (by simpa using h1), if_pos h2]
      have HH : Hid (Calls Tryz.prog 56 #[.slice A n c] w fun e w' => e = .returned (.int .i64 0) ∧ Below w.heap.size w w') := by have := HH.out; rw [h1] at this; exact this
      have H2 := Lib.hid h2
      clear h1 h2 hE
      go_enter Tryz.func80, Tryz.ntmps80
      go_wp2_with (first
        | (go_at_call 56; refine HH.out.mono ?_; rintro e w1 ⟨rfl, hb1⟩)
        | (go_at_call 89; refine (handThere_no _ _ H2.out).mono ?_; rintro e w2 ⟨rfl, rfl⟩))
      go_ret3
      exact ⟨by rw [HE.out]; rfl, hb1⟩
    · have h3 : freeIx l = -1 := by
        unfold openE at hE
        rw [if_neg (by simpa using h1), if_neg h2] at hE
        by_cases h : freeIx l = -1
        · exact h
        · rw [if_neg h] at hE; exact absurd rfl hE
      have HE : Hid (openE l loc = 7) := by show _ = _; unfold openE; rw [if_neg (by simpa using h1), if_neg h2, if_pos h3]
      have HH : Hid (Calls Tryz.prog 56 #[.slice A n c] w fun e w' => e = .returned (.int .i64 0) ∧ Below w.heap.size w w') := by have := HH.out; rw [h1] at this; exact this
      have hn16 : n ≤ 16 := by have := (handE_ok.1 h1).1; have := hr.1; rw [slotsC_length] at this; omega
      have H2 : Hid (0 ≤ loc ∧ loc < 256) := by show _ ∧ _; omega
      have H3 := Lib.hid h3
      clear h1 h2 hE h3
      go_enter Tryz.func80, Tryz.ntmps80
      go_wp2_with (first
        | (go_at_call 56; refine HH.out.mono ?_; rintro e w1 ⟨rfl, hb1⟩)
        | (go_at_call 89; refine (handThere_yes _ _ H2.out).mono ?_; rintro e w2 ⟨rfl, rfl⟩)
        | (go_at_call 113; refine (indexFree_any _ _ _ _ _ _ (hr.below (hb1.mono hB)) (Nat.le_trans hB hb1.size) (by omega)).mono ?_; rw [H3.out]; rintro e w3 ⟨rfl, hb3⟩))
      go_ret3
      exact ⟨by rw [HE.out]; rfl, below_step hb1 hb3⟩
  · have HE : Hid (openE l loc = handE l) := by show _ = _; unfold openE; rw [if_pos h1]
    generalize handE l = E at *
    have hE1 : (E != 0) = true := by simpa using h1
    have hE2 : (E == 0) = false := by simpa using h1
    clear hE
    go_enter Tryz.func80, Tryz.ntmps80
    go_wp2_with (go_at_call 56; refine HH.out.mono ?_; rintro e w1 ⟨rfl, hb1⟩)
    go_ret3
    exact ⟨by rw [HE.out]; rfl, hb1⟩
set_option maxHeartbeats 1000000 in
theorem open_ok (A : Option Addr) (n c B : Nat) (l : List Slot) (loc : Int) (i : Nat) (s : Slot) (w : World) (hr : Reads w B 3 A n (slotsC l)) (hB : B ≤ w.heap.size) (hE : openE l loc = 0) (hi : freeIx l = i) (hs : l[i]? = some s) (hfr : slotFree s = true) :
    Calls Tryz.prog 80 #[.slice A n c, .int .i64 loc] w fun e w' => Below w.heap.size w w' ∧
      ∃ A' c', e = .returned (.tuple #[.slice A' n c', .int .u64 (i + (s.gen + 1) * 65536), .int .i64 0]) ∧ w'.ownsRow w.heap.size 60 3 (.slice A' n c') n (slotsC (l.set i ⟨s.gen + 1, true, loc⟩)) := by
  obtain ⟨hC, l0, l1, _⟩ := openE_ok hE
  have H := handCheck_any A n c B l w hr hB
  rw [hC] at H
  have HH := Lib.hid H
  obtain ⟨hlen, hall⟩ := handE_ok.1 hC
  have hll : l.length = n := by have := hr.1; rw [slotsC_length] at this; omega
  have hil : i < n := by have := (List.getElem?_eq_some_iff.1 hs).1; omega
  obtain ⟨g0, g1, _, _, _, _⟩ := slotE_ok.1 (hall s (List.mem_of_getElem? hs))
  have g2 : s.gen < 65535 := by simp [slotFree] at hfr; exact hfr.2
  have hr0 := hr
  obtain ⟨ad, s', rfl, had, hs', c0, c1, c2⟩ := hr.slot hil
  obtain rfl : s' = s := by rw [hs] at hs'; exact (Option.some.inj hs').symm
  have HC0 := Lib.hid c0
  have HS := Lib.hid hs
  have HI := Lib.hid hi
  have H2 : Hid (0 ≤ loc ∧ loc < 256) := ⟨l0, l1⟩
  have hn16 : n ≤ 16 := by omega
  clear H hE hC hi hs hs' c0 c1 c2 hr hll hall hfr hlen
  have hil2 : (i : Int) < n := by omega
  have hbl : (ad.add (i * 3)).block < w.heap.size := by rw [block_of_add]; omega
  obtain ⟨gen, opn, loc0⟩ := s'
  dsimp only at g0 g1 g2 HC0 ⊢
  go_enter Tryz.func80, Tryz.ntmps80
  go_wp2_with fail
  refine HH.out.mono ?_
  rintro e w1 ⟨rfl, hb1⟩
  go_wp2_with fail
  refine (handThere_yes _ _ H2.out).mono ?_
  rintro e w2 ⟨rfl, rfl⟩
  go_wp2_with fail
  refine (indexFree_any _ _ _ _ _ _ (hr0.below (hb1.mono hB)) (Nat.le_trans hB hb1.size) (by omega)).mono ?_
  rw [HI.out]
  rintro e w3 ⟨rfl, hb3⟩
  have hb03 := below_step hb1 hb3
  go_wp2_with fail
  refine (clone_slots _ _ _ _ _ _ (hr0.below (hb03.mono hB)) (Nat.le_trans hB hb03.size) (slotsC_one _) (by omega)).mono ?_
  rintro e w4 ⟨A', c', rfl, hown, hb4⟩
  have hb04 := below_step hb03 hb4
  have c0 := (hb04.cell (p := ad.add (i * 3)) hbl).trans HC0.out
  obtain ⟨g, cap, hv, hg, -⟩ := hown.form (by omega)
  obtain ⟨rfl, rfl⟩ : A' = some ⟨g, 0, none⟩ ∧ c' = cap := by simpa using hv
  clear hv hb4 hb3 hb1
  have f0 := hown.frozenAt (i * 3)
  have f1 := hown.frozenAt (i * 3 + 1)
  have f2 := hown.frozenAt (i * 3 + 2)
  obtain ⟨d0, d1, d2⟩ := own_slot hown HS.out
  have HO := Lib.hid (own_setSlot i ⟨gen + 1, true, loc⟩ (own_mono hown hb03.size))
  have hgs : w.heap.size ≤ g := Nat.le_trans hb03.size hg
  have HB5 := Lib.hid (below_set3 hb04 hgs (i * 3) (i * 3 + 1) (i * 3 + 2) (.int .i64 (gen + 1)) (.bool true) (.int .i64 loc))
  clear hown hr0 hb04
  go_wp2_with fail
  refine (handName_any _ _ _ _ _ (by omega) (by omega)).mono ?_
  rintro e w5 ⟨rfl, hb5⟩
  go_wp2
  go_ret3
  refine ⟨below_step HB5.out hb5, some ⟨g, 0, none⟩, c', rfl, ?_⟩
  exact own_below HO.out hb5
end Go.Proofs.YtbmkbnalembbjaaGreatDoor

namespace Go.Proofs.YtbmkbnalembbjaaGreatDoor
open Go.RowKit
def findS (l : List Slot) (v : Int) : Option Slot :=
  match l[(v % 65536).toNat]? with
  | some s => if s.opn = true ∧ v % 65536 + s.gen * 65536 = v then some s else none
  | none => none
theorem findS_some {l : List Slot} {v : Int} {s : Slot} : findS l v = some s ↔ Found l v (v % 65536).toNat s := by
  unfold findS Found
  have e : ((v % 65536).toNat : Int) = v % 65536 := by omega
  rw [e]
  cases h : l[(v % 65536).toNat]? with
  | none => simp
  | some t =>
    dsimp only
    split
    · rename_i hc
      constructor
      · intro hh; cases hh; exact ⟨rfl, rfl, hc.1, hc.2⟩
      · rintro ⟨_, h2, _, _⟩; exact h2
    · rename_i hc
      constructor
      · intro hh; cases hh
      · rintro ⟨_, h2, h3, h4⟩
        cases h2
        exact absurd ⟨h3, h4⟩ hc
theorem found_findS {l : List Slot} {v : Int} {i : Nat} {s : Slot} (h : Found l v i s) : findS l v = some s := by
  rw [findS_some]
  have : (v % 65536).toNat = i := by have := h.1; omega
  rw [this]
  exact h
def lookV (l : List Slot) (v : Int) : Int := if handE l ≠ 0 then 0 else match findS l v with | some s => s.loc | none => 0
def lookE (l : List Slot) (v : Int) : Int := if handE l ≠ 0 then handE l else match findS l v with | some _ => 0 | none => 9
theorem look_any (A : Option Addr) (n c B : Nat) (l : List Slot) (v : Int) (w : World) (hr : Reads w B 3 A n (slotsC l)) (hB : B ≤ w.heap.size) (v0 : 0 ≤ v) (v1 : v < 18446744073709551616) :
    Calls Tryz.prog 82 #[.slice A n c, .int .u64 v] w fun e w' => e = .returned (.tuple #[.int .i64 (lookV l v), .int .i64 (lookE l v)]) ∧ Below w.heap.size w w' := by
  unfold lookV lookE
  by_cases hE : handE l = 0
  · rw [if_neg (by simpa using hE), if_neg (by simpa using hE)]
    cases h : findS l v with
    | some s => exact look_ok A n c B l v _ s w hr hB hE v0 v1 (findS_some.1 h)
    | none => exact look_stale A n c B l v w hr hB hE v0 v1 (fun i s hf => by rw [found_findS hf] at h; cases h)
  · rw [if_pos hE, if_pos hE]
    exact look_bad A n c B l v w hr hB hE
theorem handE_set {l : List Slot} {i : Nat} {s : Slot} (h : handE l = 0) (hs : slotE s = 0) : handE (l.set i s) = 0 := by
  rw [handE_ok] at h ⊢
  refine ⟨by simpa using h.1, fun x hx => ?_⟩
  rcases List.mem_or_eq_of_mem_set hx with h2 | rfl
  · exact h.2 x h2
  · exact hs
theorem slotE_of {l : List Slot} {i : Nat} {s : Slot} (h : handE l = 0) (hs : l[i]? = some s) : slotE s = 0 := (handE_ok.1 h).2 s (List.mem_of_getElem? hs)
end Go.Proofs.YtbmkbnalembbjaaGreatDoor

namespace Go.Proofs.YtbmkbnalembbjaaGreatDoor
open Go.RowKit
end Go.Proofs.YtbmkbnalembbjaaGreatDoor

namespace Go.Proofs.YtbmkbnalembbjaaGreatDoor
open Go.ChangeShapes Go.WideShapes Go.ChangeAt Go.RowKit
theorem trodAll_below {H : Type} {enc : TypeId × Value → H} {P : Program} (hl : laidOutB P = true) {W W' : World} (hb : Below W.heap.size W W') :
    ∀ {ts : List TypeId} {vs : List Value} {ds : List (DataW H)} {ps : List MemPlace}, ts.all (fun t => P.readableRec t && decide (t < P.types.size)) = true →
      (∀ x ∈ ps, x.block < W.heap.size) → DataW.TrodAll enc P W 0 (fun _ => true) true ts vs ds ps → DataW.TrodAll enc P W' 0 (fun b => decide (b < W.heap.size)) true ts vs ds ps
  | [], [], [], _, _, _, h => h
  | t :: ts, v :: vs, d :: ds, ps, hr, hlt, h => by
    obtain ⟨p, q, h1, h2, rfl⟩ := h
    simp only [List.all_cons, Bool.and_eq_true, decide_eq_true_eq] at hr
    exact ⟨p, q, Below.trod hl hr.1.1 hr.1.2 h1 hb (fun x hx => hlt x (List.mem_append_left _ hx)), trodAll_below hl hb hr.2 (fun x hx => hlt x (List.mem_append_right _ hx)) h2, rfl⟩
  | [], _ :: _, _, _, _, _, h => h.elim
  | [], [], _ :: _, _, _, _, h => h.elim
  | _ :: _, [], _, _, _, _, h => h.elim
  | _ :: _, _ :: _, [], _, _, _, h => h.elim
theorem law_post {H : Type} {enc : TypeId × Value → H} {P : Program} {f : Func} {s : ChangeSpec} {tb : TypeId} {W W' : World} {args : Array Value} {ds gs : List (DataW H)} {before : List MemPlace}
    (hl : laidOutB P = true) (hu : P.underlying tb = some .bool) (hrt : f.resultTypes = #[tb]) (hts : f.params.toList.all (fun t => P.readableRec t && decide (t < P.types.size)) = true)
    (hv : s.vars = []) (hfn : s.fn H ds = { results := [.lit (.bool true)], args := ds })
    (hW : DataW.Whole enc P f.params.toList s.vars false W args.toList ds gs before) (hb : Below W.heap.size W W') :
    s.post enc P f false true false false W args (.bool true) W' := by
  have hW' := hW
  obtain ⟨p, q, hA, hV, rfl, hz, hn⟩ := hW
  rw [hv] at hV
  obtain ⟨rfl, rfl⟩ := trodVars_none hV
  refine ⟨ds, [], _, [], p, [], hW', ?_, ?_, ?_, hb.frame _, fun h => by cases h⟩
  · rw [List.append_nil, hfn, hrt]
    exact trodAll_mk1 (shut_bool hu true)
  · rw [List.append_nil, hfn]
    exact trodAll_below hl hb hts (fun x hx => hW'.lt x (List.mem_append_left _ hx)) hA
  · rw [hv, List.append_nil, hfn]
    rfl
end Go.Proofs.YtbmkbnalembbjaaGreatDoor

namespace Go.Proofs.YtbmkbnalembbjaaGreatDoor
open Go.ChangeShapes Go.WideShapes Go.ChangeAt Go.RowKit Go.Joins Go.Deep
theorem trod_struct2 {H : Type} {enc : TypeId × Value → H} {P : Program} {w : World} {base : Nat} {spare : Nat → Bool} {held : Bool} {t : TypeId} {f0 f1 : Field} {fuel : Nat} {cs : List Value} {x : DataW H × List MemPlace} (ht : P.underlying t = some (.struct #[f0, f1])) (h : DataW.trod enc P w base spare held fuel t cs = some x) :
    ∃ y0 y1 n, x = (.agg [y0.1, y1.1], y0.2 ++ y1.2) ∧ cs.length = P.cellsOf t ∧ DataW.trod enc P w base spare held n f0.type ((cs.drop f0.offset).take (P.cellsOf f0.type)) = some y0 ∧
      DataW.trod enc P w base spare held n f1.type ((cs.drop f1.offset).take (P.cellsOf f1.type)) = some y1 := by
  obtain ⟨xs, n, _, rfl, hl, hlen, hf⟩ := DataW.trod_struct ht h
  match xs, hlen with
  | [y0, y1], _ => exact ⟨y0, y1, n, by simp, hl, by simpa using hf 0 _ rfl, by simpa using hf 1 _ rfl⟩
end Go.Proofs.YtbmkbnalembbjaaGreatDoor

namespace Go.Proofs.YtbmkbnalembbjaaGreatDoor
open Go.ChangeShapes Go.WideShapes Go.ChangeAt Go.RowKit Go.Joins Go.Deep
instance : Inhabited Slot := ⟨⟨0, false, 0⟩⟩
theorem list3 {α : Type} {l : List α} (h : l.length = 3) : ∃ a b c, l = [a, b, c] := by
  match l, h with
  | [a, b, c], _ => exact ⟨a, b, c, rfl⟩
end Go.Proofs.YtbmkbnalembbjaaGreatDoor

namespace Go.Proofs.YtbmkbnalembbjaaGreatDoor
open Go.RowKit
def liveL (i : Nat) : List Slot → List Int
  | [] => []
  | s :: r => if s.opn = true then ((i : Int) + s.gen * 65536) :: liveL (i + 1) r else liveL (i + 1) r
namespace HandLive
open Go.ChangeShapes Go.WideShapes Go.ChangeAt Go.RowKit
theorem own : ownKnob Tryz.prog.godebug = none := by kernel_rfl
theorem laidOut : laidOutB Tryz.prog = true := by kernel_rfl
end HandLive
end Go.Proofs.YtbmkbnalembbjaaGreatDoor

namespace Go.Proofs.YtbmkbnalembbjaaGreatDoor
open Go.RowKit
def hv (r b t : Int) (f : Bool) : Value := .agg #[.int .i64 r, .int .i64 b, .int .i64 t, .bool f]
def headE (r b t : Int) (f : Bool) : Int :=
  if r < 0 ∨ b < 0 ∨ t < 0 ∨ 256 < r ∨ 256 < b ∨ 65535 < t then 4
  else if f = true ∧ (0 < r ∨ 0 < t) then 3
  else if 256 < 1 + r + b then 2 else 0
def wordOf (r b t : Int) (f : Bool) : Int := r + b * 65536 + t * 4294967296 + (if f then 281474976710656 else 0)
theorem headE_ok {r b t : Int} {f : Bool} : headE r b t f = 0 ↔ (0 ≤ r ∧ r ≤ 256 ∧ 0 ≤ b ∧ b ≤ 256 ∧ 0 ≤ t ∧ t ≤ 65535 ∧ 1 + r + b ≤ 256 ∧ (f = true → r = 0 ∧ t = 0)) := by
  unfold headE
  constructor
  · intro h
    split at h
    · cases h
    · split at h
      · cases h
      · split at h
        · cases h
        · rename_i a b' c
          exact ⟨by omega, by omega, by omega, by omega, by omega, by omega, by omega, fun hf => by
            subst hf
            simp at b'
            omega⟩
  · rintro ⟨h1, h2, h3, h4, h5, h6, h7, h8⟩
    rw [if_neg (by omega), if_neg (by rintro ⟨hf, h⟩; have := h8 hf; omega), if_neg (by omega)]
def rdR (v : Int) : Int := v % 65536
def rdB (v : Int) : Int := v / 65536 % 65536
def rdT (v : Int) : Int := v / 4294967296 % 65536
def rdF (v : Int) : Bool := decide (v / 281474976710656 % 2 = 1)
def readOk (v : Int) : Prop := v / 562949953421312 = 0 ∧ headE (rdR v) (rdB v) (rdT v) (rdF v) = 0
instance readOkDec (v : Int) : Decidable (readOk v) := by unfold readOk; infer_instance
end Go.Proofs.YtbmkbnalembbjaaGreatDoor

namespace Go.Proofs.YtbmkbnalembbjaaGreatDoor
open Go.RowKit
structure Spot where
  loc : Int
  r : Int
  b : Int
  t : Int
  f : Bool
deriving DecidableEq
def Spot.long (s : Spot) : Int := 1 + s.r + s.b
def spotC (s : Spot) : List Value := [.int .i64 s.loc, .int .i64 s.r, .int .i64 s.b, .int .i64 s.t, .bool s.f]
def spotsC (l : List Spot) : List Value := l.flatMap spotC
def spotOf (i : Nat) (v : Int) : Spot := ⟨i, rdR v, rdB v, rdT v, rdF v⟩
def hlen (v : Int) : Nat := (1 + rdR v + rdB v).toNat
def spotsGo (a : List Int) : Nat → Nat → Option (List Spot)
  | 0, _ => some []
  | n + 1, i => if a.length ≤ i then some [] else
    if readOk (a.getD i 0) ∧ i + hlen (a.getD i 0) ≤ a.length then (spotsGo a n (i + hlen (a.getD i 0))).map (spotOf i (a.getD i 0) :: ·) else none
def spotsAt (a : List Int) (i : Nat) : Option (List Spot) := spotsGo a (a.length - i) i
theorem hlen_pos {v : Int} (h : readOk v) : 1 ≤ hlen v := by
  have := headE_ok.1 h.2
  unfold hlen; omega
theorem spotsGo_fuel (a : List Int) : ∀ (n m i : Nat), a.length - i ≤ n → a.length - i ≤ m → spotsGo a n i = spotsGo a m i := by
  intro n
  induction n with
  | zero =>
    intro m i h1 h2
    cases m with
    | zero => rfl
    | succ m => simp only [spotsGo]; rw [if_pos (by omega)]
  | succ n ih =>
    intro m i h1 h2
    cases m with
    | zero => simp only [spotsGo]; rw [if_pos (by omega)]
    | succ m =>
      simp only [spotsGo]
      split
      · rfl
      · split
        · rename_i h
          have := hlen_pos h.1
          rw [ih m _ (by omega) (by omega)]
        · rfl
theorem spotsAt_end {a : List Int} {i : Nat} (h : a.length ≤ i) : spotsAt a i = some [] := by
  unfold spotsAt
  rw [show a.length - i = 0 by omega]
  rfl
theorem spotsAt_step {a : List Int} {i : Nat} (h : i < a.length) (h1 : readOk (a.getD i 0)) (h2 : i + hlen (a.getD i 0) ≤ a.length) :
    spotsAt a i = (spotsAt a (i + hlen (a.getD i 0))).map (spotOf i (a.getD i 0) :: ·) := by
  have := hlen_pos h1
  unfold spotsAt
  rw [show a.length - i = (a.length - i - 1) + 1 by omega]
  simp only [spotsGo]
  rw [if_neg (by omega), if_pos ⟨h1, h2⟩, spotsGo_fuel a _ (a.length - (i + hlen (a.getD i 0))) _ (by omega) (by omega)]
theorem spotsAt_bad {a : List Int} {i : Nat} (h : i < a.length) (h1 : ¬ (readOk (a.getD i 0) ∧ i + hlen (a.getD i 0) ≤ a.length)) : spotsAt a i = none := by
  unfold spotsAt
  rw [show a.length - i = (a.length - i - 1) + 1 by omega]
  simp only [spotsGo]
  rw [if_neg (by omega), if_neg h1]
def spotsE (a : List Int) : Int := if 256 < a.length then 2 else if spotsAt a 0 = none then 3 else 0
def spotsL (a : List Int) : List Spot := if 256 < a.length then [] else (spotsAt a 0).getD []
def Parse (a : List Int) : Nat → List Spot → Prop
  | i, [] => i = a.length
  | i, s :: l => i < a.length ∧ readOk (a.getD i 0) ∧ s = spotOf i (a.getD i 0) ∧ i + hlen (a.getD i 0) ≤ a.length ∧ Parse a (i + hlen (a.getD i 0)) l
theorem parse_of (a : List Int) : ∀ (n i : Nat) (l : List Spot), a.length - i ≤ n → i ≤ a.length → spotsAt a i = some l → Parse a i l := by
  intro n
  induction n with
  | zero =>
    intro i l h1 h2 h
    have hi : i = a.length := by omega
    subst hi
    rw [spotsAt_end (Nat.le_refl _)] at h
    obtain rfl := Option.some.inj h
    rfl
  | succ n ih =>
    intro i l h1 h2 h
    by_cases hi : i < a.length
    · by_cases hok : readOk (a.getD i 0) ∧ i + hlen (a.getD i 0) ≤ a.length
      · rw [spotsAt_step hi hok.1 hok.2] at h
        obtain ⟨l', h', rfl⟩ := Option.map_eq_some_iff.1 h
        have := hlen_pos hok.1
        exact ⟨hi, hok.1, rfl, hok.2, ih _ _ (by omega) hok.2 h'⟩
      · rw [spotsAt_bad hi hok] at h
        cases h
    · rw [spotsAt_end (by omega)] at h
      obtain rfl := Option.some.inj h
      show i = a.length
      omega
theorem parse_ok {a : List Int} (h : spotsE a = 0) : a.length ≤ 256 ∧ Parse a 0 (spotsL a) := by
  unfold spotsE at h
  split at h
  · cases h
  · rename_i hl
    split at h
    · cases h
    · rename_i hn
      refine ⟨by omega, ?_⟩
      unfold spotsL
      rw [if_neg hl]
      cases hs : spotsAt a 0 with
      | none => exact absurd hs hn
      | some l => exact parse_of a _ 0 l (Nat.le_refl _) (Nat.zero_le _) hs
theorem spotsAt_parse (a : List Int) : ∀ (l : List Spot) (i : Nat), Parse a i l → spotsAt a i = some l := by
  intro l
  induction l with
  | nil => intro i h; exact spotsAt_end (by have : i = a.length := h; omega)
  | cons s l ih =>
    rintro i ⟨h1, h2, rfl, h4, h5⟩
    rw [spotsAt_step h1 h2 h4, ih _ h5]
    rfl
theorem spotsL_bad {a : List Int} (h : spotsE a ≠ 0) : spotsL a = [] := by
  unfold spotsE at h
  unfold spotsL
  split
  · rfl
  · rename_i hl
    rw [if_neg hl] at h
    split at h
    · rename_i hn; rw [hn]; rfl
    · exact absurd rfl h
theorem spotsC_length (l : List Spot) : (spotsC l).length = l.length * 5 := flat_length spotC 5 (fun _ => rfl) l
theorem spotsC_snoc (l : List Spot) (s : Spot) : spotsC (l ++ [s]) = spotsC l ++ spotC s := by simp [spotsC]
theorem Reads.elem {α : Type} {f : α → List Value} {k : Nat} {w : World} {B : Nat} {A : Option Addr} {n j : Nat} {l : List α} (hf : ∀ a, (f a).length = k) (h : Reads w B k A n (l.flatMap f)) (hk0 : 0 < k) (hj : j < n) :
    ∃ ad s, A = some ad ∧ ad.block < B ∧ l[j]? = some s ∧ w.cell? (ad.add (j * k)) = (f s)[0]? ∧ ∀ i, 0 < i → i < k → w.cell? ⟨(ad.add (j * k)).block, (ad.add (j * k)).off + i, none⟩ = (f s)[i]? := by
  have hn : l.length = n := by
    have := h.1; rw [flat_length f k hf] at this
    exact Nat.eq_of_mul_eq_mul_right hk0 this
  obtain ⟨ad, e, hb, hc⟩ := h.2 (by omega)
  refine ⟨ad, l[j], e, hb, List.getElem?_eq_getElem (by omega), ?_, fun i h0 hi => ?_⟩
  · have h1 := flat_at f k hf l j 0 (by omega) hk0
    have hl : 0 < (f (l[j]'(by omega))).length := by rw [hf]; exact hk0
    rw [List.getElem?_eq_getElem hl] at h1 ⊢
    have := hc (j * k) _ h1
    exact this
  · have h1 := flat_at f k hf l j i (by omega) hi
    have hl : i < (f (l[j]'(by omega))).length := by rw [hf]; exact hi
    rw [List.getElem?_eq_getElem hl] at h1 ⊢
    have h2 := hc (j * k + i) _ h1
    rw [← add_of_add, addr_add_pos _ _ h0] at h2
    exact h2
theorem parse_length (a : List Int) : ∀ (l : List Spot) (i : Nat), Parse a i l → i + l.length ≤ a.length := by
  intro l
  induction l with
  | nil => intro i h; have : i = a.length := h; simp; omega
  | cons s l ih =>
    rintro i ⟨h1, h2, rfl, h4, h5⟩
    have := ih _ h5
    have := hlen_pos h2
    simp only [List.length_cons]
    omega
theorem spotsL_length (a : List Int) : (spotsL a).length ≤ 256 := by
  by_cases h : spotsE a = 0
  · have := parse_length a _ _ (parse_ok h).2
    have := (parse_ok h).1
    omega
  · rw [spotsL_bad h]; simp
theorem Reads.spot {w : World} {B : Nat} {A : Option Addr} {n j : Nat} {l : List Spot} (h : Reads w B 5 A n (spotsC l)) (hj : j < n) :
    ∃ ad s, A = some ad ∧ ad.block < B ∧ l[j]? = some s ∧ w.cell? (ad.add (j * 5)) = some (.int .i64 s.loc) ∧
      w.cell? ⟨(ad.add (j * 5)).block, (ad.add (j * 5)).off + 1, none⟩ = some (.int .i64 s.r) ∧ w.cell? ⟨(ad.add (j * 5)).block, (ad.add (j * 5)).off + 2, none⟩ = some (.int .i64 s.b) ∧
      w.cell? ⟨(ad.add (j * 5)).block, (ad.add (j * 5)).off + 3, none⟩ = some (.int .i64 s.t) ∧ w.cell? ⟨(ad.add (j * 5)).block, (ad.add (j * 5)).off + 4, none⟩ = some (.bool s.f) := by
  obtain ⟨ad, s, e, hb, hs, c0, cs⟩ := Reads.elem (f := spotC) (k := 5) (fun _ => rfl) h (by decide) hj
  exact ⟨ad, s, e, hb, hs, c0, cs 1 (by decide) (by decide), cs 2 (by decide) (by decide), cs 3 (by decide) (by decide), cs 4 (by decide) (by decide)⟩
theorem drop_of_get {α : Type} {l : List α} {j : Nat} {s : α} (h : l[j]? = some s) : l.drop j = s :: l.drop (j + 1) := by
  obtain ⟨h1, rfl⟩ := List.getElem?_eq_some_iff.1 h
  exact List.drop_eq_getElem_cons h1
end Go.Proofs.YtbmkbnalembbjaaGreatDoor

namespace Go.Proofs.YtbmkbnalembbjaaGreatDoor
open Go.RowKit Go.Maps
def upd (f : Int → Option Value) (x : Int) (v : Value) : Int → Option Value := fun y => if y = x then some v else f y
def MapIs (w : World) (P : Program) (k : TypeId) (q : IntKind) (b n : Nat) (f : Int → Option Value) : Prop :=
  ∃ D : DataW Value, w.ownsMap P k (fun v => some (.held v, [])) b n D ∧ ∀ x, (Lit.int q x).wf = true → Maps.has D (.int q x) = (f x).isSome ∧ ∀ z, D.atKey (.int q x) (.held z) = .held ((f x).getD z)
section
variable {w : World} {P : Program} {k t e : TypeId} {q : IntKind} {b n : Nat} {f : Int → Option Value}
theorem MapIs.made (w : World) (P : Program) (k : TypeId) (q : IntKind) : MapIs (w.alloc (.map #[] 0)) P k q w.heap.size 0 (fun _ => none) :=
  ⟨.map [], World.ownsMap_made w P k _, fun _ _ => ⟨rfl, fun _ => rfl⟩⟩
theorem MapIs.lt (h : MapIs w P k q b n f) : b < w.heap.size := by obtain ⟨D, h, _⟩ := h; exact h.lt
theorem MapIs.mono (h : MapIs w P k q b n f) {n' : Nat} (hn : n ≤ n') : MapIs w P k q b n' f := by obtain ⟨D, h, h2⟩ := h; exact ⟨D, h.mono hn, h2⟩
theorem MapIs.kept {w' : World} {row : Option Nat} (h : MapIs w P k q b n f) (hg : w.grownBy w' row) (hne : some b ≠ row) : MapIs w' P k q b n f := by obtain ⟨D, h, h2⟩ := h; exact ⟨D, h.kept hg hne, h2⟩
theorem MapIs.alloc (h : MapIs w P k q b n f) (o : Obj) : MapIs (w.alloc o) P k q b n f := by obtain ⟨D, h, h2⟩ := h; exact ⟨D, h.alloc o, h2⟩
theorem MapIs.drew (h : MapIs w P k q b n f) : MapIs w.drew P k q b n f := h
theorem MapIs.drewN (h : MapIs w P k q b n f) (j : Nat) : MapIs (w.drewN j) P k q b n f := h
theorem MapIs.setCell (h : MapIs w P k q b n f) {a : Addr} (ha : b ≠ a.block) (u : Value) : MapIs (w.setCell a u) P k q b n f := by obtain ⟨D, h, h2⟩ := h; exact ⟨D, h.setCell ha u, h2⟩
theorem MapIs.below {B : Nat} {w' : World} (h : MapIs w P k q b n f) (hb : Below B w w') (hB : b < B) : MapIs w' P k q b n f := by
  obtain ⟨D, ⟨es, clock, h1, h2⟩, h3⟩ := h
  exact ⟨D, ⟨es, clock, (hb.block b hB).trans h1, h2⟩, h3⟩
theorem MapIs.congr (h : MapIs w P k q b n f) {g : Int → Option Value} (hg : ∀ x, (Lit.int q x).wf = true → f x = g x) : MapIs w P k q b n g := by
  obtain ⟨D, h1, h2⟩ := h
  exact ⟨D, h1, fun x hx => by rw [← hg x hx]; exact h2 x hx⟩
theorem MapIs.look (h : MapIs w P k q b n f) (hk : P.underlying k = some (.int q)) (ht : P.underlying t = some (.map k e)) {z : Value} (hz : (zeroValue e).run P w = .ok z w) {x : Int} (hx : (Lit.int q x).wf = true) :
    (Instr.lookup t (.map (some b)) (.int q x) false).run P w = .ok ((f x).getD z) w := by
  obtain ⟨D, h1, h2⟩ := h
  obtain ⟨v, ps, hrun, hv⟩ := h1.lookup (int_keyed hk) ht hz rfl (keyOf_int_mk hk hx)
  rw [(h2 x hx).2 z] at hv
  simp only [Option.some.injEq, Prod.mk.injEq, DataW.held.injEq] at hv
  rw [hrun, hv.1]
theorem MapIs.look_ok (h : MapIs w P k q b n f) (hk : P.underlying k = some (.int q)) (ht : P.underlying t = some (.map k e)) {z : Value} (hz : (zeroValue e).run P w = .ok z w) {x : Int} (hx : (Lit.int q x).wf = true) :
    (Instr.lookup t (.map (some b)) (.int q x) true).run P w = .ok (.tuple #[(f x).getD z, .bool (f x).isSome]) w := by
  obtain ⟨D, h1, h2⟩ := h
  obtain ⟨v, ps, hrun, hv⟩ := h1.look_ok (int_keyed hk) ht hz rfl (keyOf_int_mk hk hx)
  rw [(h2 x hx).2 z] at hv
  simp only [Option.some.injEq, Prod.mk.injEq, DataW.held.injEq] at hv
  rw [hrun, hv.1, (h2 x hx).1]
theorem MapIs.store (h : MapIs w P k q b n f) (hk : P.underlying k = some (.int q)) (ht : P.underlying t = some (.map k e)) (hn : n < maxLen) {x : Int} (hx : (Lit.int q x).wf = true) (v : Value) :
    ∃ w', (Instr.mapUpdate t (.map (some b)) (.int q x) v).run P w = .ok () w' ∧ MapIs w' P k q b (n + 1) (upd f x v) ∧ w.grownBy w' (some b) := by
  obtain ⟨D, h1, h2⟩ := h
  obtain ⟨w', hrun, h3, hg⟩ := h1.update (int_keyed hk) ht hn (keyOf_int_mk hk hx) (val := v) rfl
  have hm := h1.isMap
  have hkl : WideAt.IsKeyLit (.int q x) := (int_keyed hk).key (keyOf_int_mk hk hx)
  refine ⟨w', hrun, ⟨_, h3, fun y hy => ?_⟩, hg⟩
  by_cases hyx : y = x
  · subst hyx
    refine ⟨?_, fun z => ?_⟩
    · rw [has_put_same hm hkl]; simp [upd]
    · rw [atKey_put_same hm hkl]; simp [upd]
  · have hne : (Lit.int q y) ≠ .int q x := fun e => hyx (by injection e)
    refine ⟨?_, fun z => ?_⟩
    · rw [has_put_other hne, (h2 y hy).1]; simp [upd, hyx]
    · rw [atKey_put_other hne, (h2 y hy).2 z]; simp [upd, hyx]
end
end Go.Proofs.YtbmkbnalembbjaaGreatDoor

namespace Go.Proofs.YtbmkbnalembbjaaGreatDoor
open Go.RowKit
structure SpotOk (a : List Int) (s : Spot) : Prop where
  loc0 : 0 ≤ s.loc
  r0 : 0 ≤ s.r
  b0 : 0 ≤ s.b
  t0 : 0 ≤ s.t
  t1 : s.t ≤ 65535
  fits : s.loc + s.long ≤ a.length
  free : s.f = true → s.r = 0 ∧ s.t = 0
  word : a[s.loc.toNat]? = some (wordOf s.r s.b s.t s.f)
  head : headE s.r s.b s.t s.f = 0
  fit256 : s.long ≤ 256
theorem readOk_word {v : Int} (h : readOk v) : wordOf (rdR v) (rdB v) (rdT v) (rdF v) = v := by
  obtain ⟨hz, hE⟩ := h
  unfold wordOf rdF
  have h2 : v / 281474976710656 % 2 = v / 281474976710656 := by omega
  have h3 : v / 281474976710656 = 0 ∨ v / 281474976710656 = 1 := by omega
  unfold rdR rdB rdT
  rcases h3 with h3 | h3
  · rw [h3]; simp; omega
  · rw [h3]; simp; omega
theorem spotOk_of {a : List Int} {j : Nat} (h : j < a.length) (h1 : readOk (a.getD j 0)) (h2 : j + hlen (a.getD j 0) ≤ a.length) : SpotOk a (spotOf j (a.getD j 0)) := by
  have hE := headE_ok.1 h1.2
  have hl : hlen (a.getD j 0) = 1 + rdR (a.getD j 0) + rdB (a.getD j 0) := by unfold hlen; omega
  refine ⟨?_, hE.1, hE.2.2.1, hE.2.2.2.2.1, hE.2.2.2.2.2.1, ?_, hE.2.2.2.2.2.2.2, ?_, h1.2, ?_⟩
  · simp [spotOf]
  · simp only [spotOf, Spot.long]; omega
  · simp only [spotOf, Int.toNat_natCast]
    rw [readOk_word h1, List.getElem?_eq_getElem h]
    simp [h]
  · simp only [spotOf, Spot.long]; omega
theorem parse_mem {a : List Int} : ∀ {l : List Spot} {i : Nat}, Parse a i l → ∀ s ∈ l, SpotOk a s ∧ (i : Int) ≤ s.loc := by
  intro l
  induction l with
  | nil => intro i _ s hs; cases hs
  | cons x l ih =>
    rintro i ⟨h1, h2, rfl, h4, h5⟩ s hs
    rcases List.mem_cons.1 hs with rfl | hs
    · exact ⟨spotOk_of h1 h2 h4, by simp [spotOf]⟩
    · have := ih h5 s hs
      have := hlen_pos h2
      exact ⟨(ih h5 s hs).1, by omega⟩
theorem parse_order {a : List Int} : ∀ {l : List Spot} {i : Nat}, Parse a i l → l.Pairwise (fun s t => s.loc + s.long ≤ t.loc) := by
  intro l
  induction l with
  | nil => intro i _; exact List.Pairwise.nil
  | cons x l ih =>
    rintro i ⟨h1, h2, rfl, h4, h5⟩
    refine List.pairwise_cons.2 ⟨fun s hs => ?_, ih h5⟩
    have hE := headE_ok.1 h2.2
    have := (parse_mem h5 s hs).2
    have hl : hlen (a.getD i 0) = 1 + rdR (a.getD i 0) + rdB (a.getD i 0) := by unfold hlen; omega
    simp only [spotOf, Spot.long]
    omega
theorem spots_rise {a : List Int} (h : spotsE a = 0) : (spotsL a).Pairwise (fun s t => s.loc < t.loc) := by
  have hp := (parse_ok h).2
  refine (parse_order hp).imp_of_mem (fun {s t} hs _ hst => ?_)
  have := (parse_mem hp s hs).1
  have := this.r0
  have := (parse_mem hp s hs).1.b0
  unfold Spot.long at hst
  omega
def isPlace (v : Int) (s : Spot) : Bool := !s.f && (s.loc + 1 == v)
def placeF (l : List Spot) (v : Int) : Option Int := if v = 0 then some (-1) else (l.findIdx? (isPlace v)).map (fun (i : Nat) => (i : Int))
def placeV (l : List Spot) : Int → Option Value := fun v => (placeF l v).map (.int .i64)
theorem placeV_nil : placeV [] = upd (fun _ => none) 0 (.int .i64 (-1)) := by
  funext v
  simp only [placeV, placeF, upd]
  by_cases h : v = 0 <;> simp [h]
theorem placeV_free {l : List Spot} {s : Spot} (h : s.f = true) : placeV (l ++ [s]) = placeV l := by
  funext v
  simp only [placeV, placeF]
  by_cases hv : v = 0
  · simp [hv]
  · rw [if_neg hv, if_neg hv, List.findIdx?_append]
    have : List.findIdx? (isPlace v) [s] = none := by
      rw [List.findIdx?_eq_none_iff]
      intro x hx
      obtain rfl := List.mem_singleton.1 hx
      simp [isPlace, h]
    rw [this]
    simp
theorem placeV_snoc {l : List Spot} {s : Spot} (h : s.f = false) (h0 : 0 ≤ s.loc) (hl : ∀ x ∈ l, x.loc < s.loc) : placeV (l ++ [s]) = upd (placeV l) (s.loc + 1) (.int .i64 l.length) := by
  funext v
  simp only [placeV, placeF, upd]
  by_cases hv : v = 0
  · rw [if_pos hv, if_pos hv, if_neg (by omega)]
  · rw [if_neg hv, if_neg hv, List.findIdx?_append]
    by_cases hs : v = s.loc + 1
    · rw [if_pos hs]
      have h1 : l.findIdx? (isPlace v) = none := by
        rw [List.findIdx?_eq_none_iff]
        intro x hx
        have := hl x hx
        simp [isPlace]
        omega
      have h2 : List.findIdx? (isPlace v) [s] = some 0 := by
        simp [List.findIdx?_cons, isPlace, h, hs]
      rw [h1, h2]
      simp
    · rw [if_neg hs]
      have h2 : List.findIdx? (isPlace v) [s] = none := by
        rw [List.findIdx?_eq_none_iff]
        intro x hx
        obtain rfl := List.mem_singleton.1 hx
        simp [isPlace]
        omega
      rw [h2]
      simp
def refsOf (a : List Int) (s : Spot) : List Int := (a.drop (s.loc.toNat + 1)).take s.r.toNat
def bodyOf (a : List Int) (s : Spot) : List Int := (a.drop (s.loc.toNat + 1 + s.r.toNat)).take s.b.toNat
def refsOk (l : List Spot) (a : List Int) : Bool := l.all fun s => (refsOf a s).all fun v => (placeF l v).isSome
def checkE (a : List Int) : Int := if spotsE a ≠ 0 then spotsE a else if refsOk (spotsL a) a = true then 0 else 5
theorem checkE_ok {a : List Int} : checkE a = 0 ↔ spotsE a = 0 ∧ refsOk (spotsL a) a = true := by
  unfold checkE
  split
  · rename_i h; exact ⟨fun h2 => absurd h2 h, fun h2 => absurd h2.1 h⟩
  · rename_i h
    split
    · rename_i h2; exact ⟨fun _ => ⟨by simpa using h, h2⟩, fun _ => rfl⟩
    · rename_i h2; exact ⟨(fun h3 => by cases h3), fun h3 => absurd h3.2 h2⟩
theorem refsOf_length {a : List Int} {s : Spot} (h : SpotOk a s) : (refsOf a s).length = s.r.toNat := by
  have h1 := h.loc0
  have h2 := h.r0
  have h3 := h.b0
  have h4 := h.fits
  unfold Spot.long at h4
  unfold refsOf
  rw [List.length_take, List.length_drop]
  omega
theorem bodyOf_length {a : List Int} {s : Spot} (h : SpotOk a s) : (bodyOf a s).length = s.b.toNat := by
  have h1 := h.loc0
  have h2 := h.r0
  have h3 := h.b0
  have h4 := h.fits
  unfold Spot.long at h4
  unfold bodyOf
  rw [List.length_take, List.length_drop]
  omega
theorem Reads.sub {w : World} {B : Nat} {A : Option Addr} {n c lo hi : Nat} {xs : List Value} (h : Reads w B 1 A n xs) (h1 : lo ≤ hi) (h2 : hi ≤ n) (h3 : n ≤ c) :
    Reads w B 1 (if c = lo then A else A.map (·.add lo)) (hi - lo) ((xs.drop lo).take (hi - lo)) := by
  have hc := h.cut (k := lo) (cap := c) (by omega) h3
  rw [Nat.mul_one] at hc
  refine ⟨by rw [List.length_take, List.length_drop, h.1]; omega, fun hk0 => ?_⟩
  obtain ⟨ad, e, hb, hcell⟩ := hc.2 (by omega)
  refine ⟨ad, e, hb, fun j u hu => hcell j u ?_⟩
  rw [List.getElem?_take] at hu
  split at hu
  · exact hu
  · cases hu
end Go.Proofs.YtbmkbnalembbjaaGreatDoor
