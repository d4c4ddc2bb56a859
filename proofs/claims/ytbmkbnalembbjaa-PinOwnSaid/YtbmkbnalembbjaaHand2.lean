/-
  package hand, the second part: IndexFunc, Clone, Look, Open, Close.
-/
import Derived.Test.YtbmkbnalembbjaaHand
namespace Go.Proofs.Ytbmkbnalembbjaa
open Go.RowKit

theorem slotsC_one (l : List Slot) : ∀ u ∈ slotsC l, u.oneCell' = true := by
  intro u hu
  obtain ⟨s, _, hs⟩ := List.mem_flatMap.1 hu
  simp only [slotC, List.mem_cons, List.not_mem_nil, or_false] at hs
  rcases hs with rfl | rfl | rfl <;> rfl

theorem slotsC_set (l : List Slot) (i : Nat) (s : Slot) : (((slotsC l).set (i * 3) (.int .i64 s.gen)).set (i * 3 + 1) (.bool s.opn)).set (i * 3 + 2) (.int .i64 s.loc) = slotsC (l.set i s) := by
  induction l generalizing i with
  | nil => simp [slotsC]
  | cons a l ih =>
    cases i with
    | zero => simp [slotsC, slotC]
    | succ i =>
      have e : (i + 1) * 3 = i * 3 + 1 + 1 + 1 := by omega
      have := ih i
      simp only [slotsC, slotC, List.flatMap_cons, List.cons_append, List.nil_append, e, List.set_cons_succ] at this ⊢
      rw [← this]

def slotFree (s : Slot) : Bool := !s.opn && decide (s.gen < 65535)
/-- The first slot that may be opened, or -1. -/
def freeIx (l : List Slot) : Int := match l.findIdx? slotFree with | some i => (i : Int) | none => -1

theorem freeIx_some (l : List Slot) (i : Nat) (s : Slot) (h : l[i]? = some s) (hs : slotFree s = true) (hb : ∀ x ∈ l.take i, slotFree x = false) : freeIx l = i := by
  unfold freeIx
  have : l.findIdx? slotFree = some i := by
    obtain ⟨hl, rfl⟩ := List.getElem?_eq_some_iff.1 h
    rw [List.findIdx?_eq_some_iff_getElem]
    refine ⟨hl, hs, fun j hj => ?_⟩
    have := hb l[j] (by rw [List.mem_take_iff_getElem]; exact ⟨j, by omega, rfl⟩)
    rw [this]
    simp
  rw [this]

theorem freeIx_none (l : List Slot) (hb : ∀ x ∈ l, slotFree x = false) : freeIx l = -1 := by
  unfold freeIx
  have : l.findIdx? slotFree = none := by
    rw [List.findIdx?_eq_none_iff]
    exact hb
  rw [this]

theorem freeIx_cases (l : List Slot) : (freeIx l = -1 ∧ ∀ x ∈ l, slotFree x = false) ∨ ∃ (i : Nat) (s : Slot), freeIx l = i ∧ l[i]? = some s ∧ slotFree s = true := by
  unfold freeIx
  cases h : l.findIdx? slotFree with
  | none => exact .inl ⟨rfl, List.findIdx?_eq_none_iff.1 h⟩
  | some i =>
    obtain ⟨hl, hs, _⟩ := List.findIdx?_eq_some_iff_getElem.1 h
    exact .inr ⟨i, l[i], rfl, List.getElem?_eq_getElem hl, hs⟩

set_option maxHeartbeats 400000 in
theorem isFree_any (gen loc : Int) (opn : Bool) (w : World) :
    Calls Try.prog 42 #[.agg #[.int .i64 gen, .bool opn, .int .i64 loc]] w fun e w' => e = .returned (.bool (slotFree ⟨gen, opn, loc⟩)) ∧ Below w.heap.size w w' := by
  cases opn
  · by_cases h : gen < 65535
    · have HE : Hid (slotFree ⟨gen, false, loc⟩ = true) := by show _ = _; simp [slotFree, h]
      go_enter Try.func42, Try.ntmps42
      go_wp2
      go_ret
      exact ⟨by rw [HE.out]; rfl, below_new _ _⟩
    · have HE : Hid (slotFree ⟨gen, false, loc⟩ = false) := by show _ = _; simp [slotFree]; omega
      go_enter Try.func42, Try.ntmps42
      go_wp2
      go_ret
      exact ⟨by rw [HE.out]; rfl, below_new _ _⟩
  · have HE : Hid (slotFree ⟨gen, true, loc⟩ = false) := by show _ = _; simp [slotFree]
    go_enter Try.func42, Try.ntmps42
    go_wp2
    go_ret
    exact ⟨by rw [HE.out]; rfl, below_new _ _⟩

set_option maxHeartbeats 1000000 in
theorem indexFree_any (A : Option Addr) (n c B : Nat) (l : List Slot) (w : World) (hr : Reads w B 3 A n (slotsC l)) (hB : B ≤ w.heap.size) (hn : n ≤ 1000000) :
    Calls Try.prog 41 #[.slice A n c, .func (.func 42) #[] #[]] w fun e w' => e = .returned (.int .i64 (freeIx l)) ∧ Below w.heap.size w w' := by
  have hll : l.length = n := by have := hr.1; rw [slotsC_length] at this; omega
  have HL := Lib.hid hll
  clear hll
  go_enter Try.func41, Try.ntmps41
  go_wp2
  go_loopw [8] (fun i wr => ∃ j : Nat, j ≤ n ∧ i = .int .i64 j ∧ Below w.heap.size w wr ∧ ∀ x ∈ l.take j, slotFree x = false) (fun i _ => n - (intOf i).toNat)
  case atStart => exact ⟨0, Nat.zero_le _, rfl, Below.refl _ _, by simp⟩
  case round =>
    obtain ⟨j, hj, rfl, hb, hd⟩ := hrel
    have HD := Lib.hid hd
    clear hd
    by_cases hlt : j < n
    · obtain ⟨ad, s, rfl, had, hs, hc0, hc1, hc2⟩ := (hr.below (hb.mono hB)).slot hlt
      have HS := Lib.hid hs
      clear hs
      have HQ : Hid (∀ x ∈ l.take (j + 1), x ∈ l.take j ∨ x = s) := by
        intro x hx
        obtain ⟨hl, rfl⟩ := List.getElem?_eq_some_iff.1 HS.out
        rw [List.take_succ_eq_append_getElem hl, List.mem_append, List.mem_singleton] at hx
        exact hx
      obtain ⟨gen, opn, loc⟩ := s
      dsimp only at hc0 hc1 hc2
      cases hfr : slotFree ⟨gen, opn, loc⟩
      · have HF := Lib.hid hfr
        clear hfr
        go_wp2_with (go_at_call 42; refine (isFree_any _ _ _ _).mono ?_; rw [HF.out]; rintro e w1 ⟨rfl, hb1⟩)
        go_roundw
        case rel => exact ⟨j + 1, by omega, by go_num, hb.trans (hb1.mono hb.size), fun x hx => by
          rcases HQ.out x hx with h | rfl
          · exact HD.out x h
          · exact HF.out⟩
        case measure => simp [intOf]; omega
      · have HF := Lib.hid hfr
        clear hfr
        go_wp2_with (go_at_call 42; refine (isFree_any _ _ _ _).mono ?_; rw [HF.out]; rintro e w1 ⟨rfl, hb1⟩)
        go_ret
        exact ⟨ret_int (freeIx_some l j _ HS.out HF.out HD.out).symm, hb.trans (hb1.mono hb.size)⟩
    · go_wp2
      go_ret
      exact ⟨ret_int (freeIx_none l (by have := HD.out; rwa [List.take_of_length_le (by rw [HL.out]; omega)] at this)).symm, hb⟩

theorem info_slot : (Try.prog.info? 50).map (fun i => (i.zero, i.size, i.bytes)) = some (some (.agg #[.int .i64 0, .bool false, .int .i64 0]), 3, 24) := by kernel_rfl

set_option maxHeartbeats 400000 in
theorem clone_slots (A : Option Addr) (n c B : Nat) (xs : List Value) (w : World) (hr : Reads w B 3 A n xs) (hB : B ≤ w.heap.size) (h1 : ∀ u ∈ xs, u.oneCell' = true) (hn : n ≤ 1000000) :
    Calls Try.prog 15 #[.slice A n c] w fun e w' => ∃ A' c', e = .returned (.slice A' n c') ∧ w'.ownsRow w.heap.size 50 3 (.slice A' n c') n xs ∧ Below w.heap.size w w' := by
  obtain ⟨i0, hi, hz0, hz1, hz2⟩ := info_parts info_slot
  rcases A with _ | ad
  · have hm : n = 0 := by
      rcases Nat.eq_zero_or_pos n with h0 | h0
      · exact h0
      · obtain ⟨ad, h, _⟩ := hr.2 h0
        cases h
    subst hm
    have hx : xs = [] := List.eq_nil_of_length_eq_zero (by simpa using hr.1)
    subst hx
    have hnil := fun (w : World) => Lib.run_eql_slice_nil (P := Try.prog) w 27 50 none 0 c 0 0 Try.underlying27
    go_enter Try.func15, Try.ntmps15
    go_wp2
    go_ret
    exact ⟨none, 0, rfl, World.ownsRow_nil _ _ _ _, Below.refl _ _⟩
  · have hnil := fun (w : World) => Lib.run_eql_slice_nil (P := Try.prog) w 27 50 (some ad) n c 0 0 Try.underlying27
    have hmade := World.ownsRow_made (e := 50) (size := 3) w #[] 0 (Nat.le_refl w.heap.size) (Nat.zero_le _) rfl
    go_enter Try.func15, Try.ntmps15
    go_wp2_with (at_builtin; refine wpList_append_any _ rfl (.tmp 5) (.tmp 6) 27 rfl w.heap.size 50 i0 (.agg #[.int .i64 0, .bool false, .int .i64 0]) 3 24 Try.underlying27 hi hz0 hz1 hz2 rfl (by decide) (.slice (some ⟨w.heap.size, 0, none⟩) 0 0) 0 [] rfl hmade B (some ad) n c xs rfl (hr.alloc hB _) h1 (by simp [maxLen]; omega) (by omega) (by simp) ?_; rintro v' w1 hown hgr hbl -; obtain ⟨A', c', rfl⟩ := own_slice hown)
    go_ret
    exact ⟨A', c', rfl, by simpa using hown, ((Below.refl _ _).alloc (Nat.le_refl _) _).grown hgr (by simp) (by simp [Value.ownBlock])⟩

theorem own_slot {w : World} {base g n c j : Nat} {e : TypeId} {l : List Slot} {s : Slot} (h : w.ownsRow base e 3 (.slice (some ⟨g, 0, none⟩) n c) n (slotsC l)) (hs : l[j]? = some s) :
    w.cell? ⟨g, j * 3, none⟩ = some (.int .i64 s.gen) ∧ w.cell? ⟨g, j * 3 + 1, none⟩ = some (.bool s.opn) ∧ w.cell? ⟨g, j * 3 + 2, none⟩ = some (.int .i64 s.loc) := by
  obtain ⟨hl, rfl⟩ := List.getElem?_eq_some_iff.1 hs
  have hn : l.length = n := by have := h.1; rw [slotsC_length] at this; omega
  refine ⟨?_, ?_, ?_⟩
  · rw [h.cellAt (j * 3) (by omega)]
    exact slotsC_at l j 0 hl (by omega)
  · rw [h.cellAt (j * 3 + 1) (by omega)]
    exact slotsC_at l j 1 hl (by omega)
  · rw [h.cellAt (j * 3 + 2) (by omega)]
    exact slotsC_at l j 2 hl (by omega)

theorem own_setSlot {w : World} {base g n c : Nat} {e : TypeId} {l : List Slot} (j : Nat) (s : Slot) (h : w.ownsRow base e 3 (.slice (some ⟨g, 0, none⟩) n c) n (slotsC l)) :
    (((w.setCell ⟨g, j * 3, none⟩ (.int .i64 s.gen)).setCell ⟨g, j * 3 + 1, none⟩ (.bool s.opn)).setCell ⟨g, j * 3 + 2, none⟩ (.int .i64 s.loc)).ownsRow base e 3 (.slice (some ⟨g, 0, none⟩) n c) n (slotsC (l.set j s)) := by
  rw [← slotsC_set]
  exact (((h.stored (j * 3) (.int .i64 s.gen)).1.stored (j * 3 + 1) (.bool s.opn)).1.stored (j * 3 + 2) (.int .i64 s.loc)).1

theorem below_set3 {B : Nat} {w w' : World} (h : Below B w w') {g : Nat} (hg : B ≤ g) (a b c : Nat) (x y z : Value) : Below B w (((w'.setCell ⟨g, a, none⟩ x).setCell ⟨g, b, none⟩ y).setCell ⟨g, c, none⟩ z) :=
  ((h.setCell (p := ⟨g, a, none⟩) hg x).setCell (p := ⟨g, b, none⟩) hg y).setCell (p := ⟨g, c, none⟩) hg z

set_option maxHeartbeats 400000 in
theorem close_bad (A : Option Addr) (n c B : Nat) (l : List Slot) (v : Int) (w : World) (hr : Reads w B 3 A n (slotsC l)) (hB : B ≤ w.heap.size) (hE : handE l ≠ 0) :
    Calls Try.prog 22 #[.slice A n c, .int .u64 v] w fun e w' => e = .returned (.tuple #[.slice none 0 0, .int .i64 (handE l)]) ∧ Below w.heap.size w w' := by
  have H := find_bad A n c B l v w hr hB hE
  have HH := Lib.hid H
  clear H
  generalize handE l = E at *
  have hE1 : (E != 0) = true := by simpa using hE
  have hE2 : (E == 0) = false := by simpa using hE
  go_enter Try.func22, Try.ntmps22
  go_wp2_with (go_at_call 44; refine HH.out.mono ?_; rintro e w1 ⟨rfl, hb1⟩)
  go_ret2
  exact ⟨rfl, hb1⟩

set_option maxHeartbeats 400000 in
theorem close_stale (A : Option Addr) (n c B : Nat) (l : List Slot) (v : Int) (w : World) (hr : Reads w B 3 A n (slotsC l)) (hB : B ≤ w.heap.size) (hE : handE l = 0) (v0 : 0 ≤ v) (v1 : v < 18446744073709551616) (hf : ∀ i s, ¬ Found l v i s) :
    Calls Try.prog 22 #[.slice A n c, .int .u64 v] w fun e w' => e = .returned (.tuple #[.slice none 0 0, .int .i64 9]) ∧ Below w.heap.size w w' := by
  have H := find_stale A n c B l v w hr hB hE v0 v1 hf
  have HH := Lib.hid H
  clear H hE
  go_enter Try.func22, Try.ntmps22
  go_wp2_with (go_at_call 44; refine HH.out.mono ?_; rintro e w1 ⟨rfl, hb1⟩)
  go_ret2
  exact ⟨rfl, hb1⟩

set_option maxHeartbeats 1000000 in
theorem close_ok (A : Option Addr) (n c B : Nat) (l : List Slot) (v : Int) (i : Nat) (s : Slot) (w : World) (hr : Reads w B 3 A n (slotsC l)) (hB : B ≤ w.heap.size) (hE : handE l = 0) (v0 : 0 ≤ v) (v1 : v < 18446744073709551616) (hf : Found l v i s) :
    Calls Try.prog 22 #[.slice A n c, .int .u64 v] w fun e w' => Below w.heap.size w w' ∧
      ∃ A' c', e = .returned (.tuple #[.slice A' n c', .int .i64 0]) ∧ w'.ownsRow w.heap.size 50 3 (.slice A' n c') n (slotsC (l.set i ⟨s.gen, false, 0⟩)) := by
  have H := find_ok A n c B l v i s w hr hB hE v0 v1 hf
  have HH := Lib.hid H
  have hll : l.length = n := by have := hr.1; rw [slotsC_length] at this; omega
  have hs := hf.2.1
  have hil : i < n := by have := (List.getElem?_eq_some_iff.1 hs).1; omega
  have hn16 : n ≤ 16 := by have := (handE_ok.1 hE).1; omega
  have hr0 := hr
  obtain ⟨ad, s', rfl, had, hs', c0, c1, c2⟩ := hr.slot hil
  obtain rfl : s' = s := by rw [hs] at hs'; exact (Option.some.inj hs').symm
  have HC0 := Lib.hid c0
  have HS := Lib.hid hs
  clear H hE hf hs hs' c0 c1 c2 hr hll
  have hil2 : (i : Int) < n := by omega
  have hbl : (ad.add (i * 3)).block < w.heap.size := by rw [block_of_add]; omega
  go_enter Try.func22, Try.ntmps22
  go_wp2_with fail
  refine HH.out.mono ?_
  rintro e w1 ⟨rfl, hb1⟩
  go_wp2_with fail
  refine (clone_slots _ _ _ _ _ _ (hr0.below (hb1.mono hB)) (Nat.le_trans hB hb1.size) (slotsC_one _) (by omega)).mono ?_
  rintro e w2 ⟨A', c', rfl, hown, hb2⟩
  have hb02 := below_step hb1 hb2
  have c0 := (hb02.cell (p := ad.add (i * 3)) hbl).trans HC0.out
  obtain ⟨g, cap, hv, hg, -⟩ := hown.form (by omega)
  obtain ⟨rfl, rfl⟩ : A' = some ⟨g, 0, none⟩ ∧ c' = cap := by simpa using hv
  clear hv hb2
  obtain ⟨d0, d1, d2⟩ := own_slot hown HS.out
  have f0 := hown.frozenAt (i * 3)
  have f1 := hown.frozenAt (i * 3 + 1)
  have f2 := hown.frozenAt (i * 3 + 2)
  have HO := Lib.hid (own_setSlot i ⟨s'.gen, false, 0⟩ (own_mono hown hb1.size))
  have hgs : w.heap.size ≤ g := Nat.le_trans hb1.size hg
  clear hown hr0
  go_wp2
  go_ret2
  exact ⟨below_set3 hb02 hgs _ _ _ _ _ _, some ⟨g, 0, none⟩, c', rfl, HO.out⟩
end Go.Proofs.Ytbmkbnalembbjaa
