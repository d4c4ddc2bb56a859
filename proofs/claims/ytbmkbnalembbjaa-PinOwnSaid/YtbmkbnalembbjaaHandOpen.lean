/-
  package hand: Open; and the laws' closed fact 'hands'.
-/
import Derived.Test.YtbmkbnalembbjaaHand2
namespace Go.Proofs.Ytbmkbnalembbjaa
open Go.RowKit

theorem results_tmp4 {fn : Func} {t u v x : Tmp} (h : fn.results = #[.tmp t, .tmp u, .tmp v, .tmp x]) (tmps : Array Value) (P : Program) (w : World) :
    (results fn tmps).run P w = .ok (.tuple #[tmps.getD t undef, tmps.getD u undef, tmps.getD v undef, tmps.getD x undef]) w := by simp [results, h]

/-- hand.Open: its error number. -/
def openE (l : List Slot) (loc : Int) : Int := if handE l ≠ 0 then handE l else if loc < 0 ∨ 256 ≤ loc then 4 else if freeIx l = -1 then 7 else 0

theorem openE_ok {l : List Slot} {loc : Int} (h : openE l loc = 0) : handE l = 0 ∧ 0 ≤ loc ∧ loc < 256 ∧ ∃ (i : Nat) (s : Slot), freeIx l = i ∧ l[i]? = some s ∧ slotFree s = true := by
  unfold openE at h
  split at h
  · rename_i a; exact absurd h a
  · rename_i a
    split at h
    · cases h
    · rename_i b
      split at h
      · cases h
      · rename_i c
        refine ⟨by simpa using a, by omega, by omega, ?_⟩
        rcases freeIx_cases l with ⟨h1, _⟩ | h1
        · exact absurd h1 c
        · exact h1

set_option maxHeartbeats 400000 in
theorem open_bad (A : Option Addr) (n c B : Nat) (l : List Slot) (loc : Int) (w : World) (hr : Reads w B 3 A n (slotsC l)) (hB : B ≤ w.heap.size) (hE : openE l loc ≠ 0) :
    Calls Try.prog 21 #[.slice A n c, .int .i64 loc] w fun e w' => e = .returned (.tuple #[.slice none 0 0, .int .u64 0, .int .i64 (openE l loc)]) ∧ Below w.heap.size w w' := by
  have H := handCheck_any A n c B l w hr hB
  have HH := Lib.hid H
  clear H
  by_cases h1 : handE l = 0
  · by_cases h2 : loc < 0 ∨ 256 ≤ loc
    · have HE : Hid (openE l loc = 4) := by show _ = _; unfold openE; rw [if_neg (by simpa using h1), if_pos h2]
      have HH : Hid (Calls Try.prog 39 #[.slice A n c] w fun e w' => e = .returned (.int .i64 0) ∧ Below w.heap.size w w') := by have := HH.out; rw [h1] at this; exact this
      have H2 := Lib.hid h2
      clear h1 h2 hE
      go_enter Try.func21, Try.ntmps21
      go_wp2_with (first
        | (go_at_call 39; refine HH.out.mono ?_; rintro e w1 ⟨rfl, hb1⟩)
        | (go_at_call 40; refine (handThere_no _ _ H2.out).mono ?_; rintro e w2 ⟨rfl, rfl⟩))
      go_ret3
      exact ⟨by rw [HE.out]; rfl, hb1⟩
    · have h3 : freeIx l = -1 := by
        unfold openE at hE
        rw [if_neg (by simpa using h1), if_neg h2] at hE
        by_cases h : freeIx l = -1
        · exact h
        · rw [if_neg h] at hE; exact absurd rfl hE
      have HE : Hid (openE l loc = 7) := by show _ = _; unfold openE; rw [if_neg (by simpa using h1), if_neg h2, if_pos h3]
      have HH : Hid (Calls Try.prog 39 #[.slice A n c] w fun e w' => e = .returned (.int .i64 0) ∧ Below w.heap.size w w') := by have := HH.out; rw [h1] at this; exact this
      have hn16 : n ≤ 16 := by have := (handE_ok.1 h1).1; have := hr.1; rw [slotsC_length] at this; omega
      have H2 : Hid (0 ≤ loc ∧ loc < 256) := by show _ ∧ _; omega
      have H3 := Lib.hid h3
      clear h1 h2 hE h3
      go_enter Try.func21, Try.ntmps21
      go_wp2_with (first
        | (go_at_call 39; refine HH.out.mono ?_; rintro e w1 ⟨rfl, hb1⟩)
        | (go_at_call 40; refine (handThere_yes _ _ H2.out).mono ?_; rintro e w2 ⟨rfl, rfl⟩)
        | (go_at_call 41; refine (indexFree_any _ _ _ _ _ _ (hr.below (hb1.mono hB)) (Nat.le_trans hB hb1.size) (by omega)).mono ?_; rw [H3.out]; rintro e w3 ⟨rfl, hb3⟩))
      go_ret3
      exact ⟨by rw [HE.out]; rfl, below_step hb1 hb3⟩
  · have HE : Hid (openE l loc = handE l) := by show _ = _; unfold openE; rw [if_pos h1]
    generalize handE l = E at *
    have hE1 : (E != 0) = true := by simpa using h1
    have hE2 : (E == 0) = false := by simpa using h1
    clear hE
    go_enter Try.func21, Try.ntmps21
    go_wp2_with (go_at_call 39; refine HH.out.mono ?_; rintro e w1 ⟨rfl, hb1⟩)
    go_ret3
    exact ⟨by rw [HE.out]; rfl, hb1⟩

set_option maxHeartbeats 1000000 in
theorem open_ok (A : Option Addr) (n c B : Nat) (l : List Slot) (loc : Int) (i : Nat) (s : Slot) (w : World) (hr : Reads w B 3 A n (slotsC l)) (hB : B ≤ w.heap.size) (hE : openE l loc = 0) (hi : freeIx l = i) (hs : l[i]? = some s) (hfr : slotFree s = true) :
    Calls Try.prog 21 #[.slice A n c, .int .i64 loc] w fun e w' => Below w.heap.size w w' ∧
      ∃ A' c', e = .returned (.tuple #[.slice A' n c', .int .u64 (i + (s.gen + 1) * 65536), .int .i64 0]) ∧ w'.ownsRow w.heap.size 50 3 (.slice A' n c') n (slotsC (l.set i ⟨s.gen + 1, true, loc⟩)) := by
  obtain ⟨hC, l0, l1, _⟩ := openE_ok hE
  have H := handCheck_any A n c B l w hr hB
  rw [hC] at H
  have HH := Lib.hid H
  obtain ⟨hlen, hall⟩ := handE_ok.1 hC
  have hll : l.length = n := by have := hr.1; rw [slotsC_length] at this; omega
  have hil : i < n := by have := (List.getElem?_eq_some_iff.1 hs).1; omega
  obtain ⟨g0, g1, _, _, _, _⟩ := slotE_ok.1 (hall s (List.mem_of_getElem? hs))
  have g2 : s.gen < 65535 := by simp [slotFree] at hfr; exact hfr.2
  have hr0 := hr
  obtain ⟨ad, s', rfl, had, hs', c0, c1, c2⟩ := hr.slot hil
  obtain rfl : s' = s := by rw [hs] at hs'; exact (Option.some.inj hs').symm
  have HC0 := Lib.hid c0
  have HS := Lib.hid hs
  have HI := Lib.hid hi
  have H2 : Hid (0 ≤ loc ∧ loc < 256) := ⟨l0, l1⟩
  have hn16 : n ≤ 16 := by omega
  clear H hE hC hi hs hs' c0 c1 c2 hr hll hall hfr hlen
  have hil2 : (i : Int) < n := by omega
  have hbl : (ad.add (i * 3)).block < w.heap.size := by rw [block_of_add]; omega
  obtain ⟨gen, opn, loc0⟩ := s'
  dsimp only at g0 g1 g2 HC0 ⊢
  go_enter Try.func21, Try.ntmps21
  go_wp2_with fail
  refine HH.out.mono ?_
  rintro e w1 ⟨rfl, hb1⟩
  go_wp2_with fail
  refine (handThere_yes _ _ H2.out).mono ?_
  rintro e w2 ⟨rfl, rfl⟩
  go_wp2_with fail
  refine (indexFree_any _ _ _ _ _ _ (hr0.below (hb1.mono hB)) (Nat.le_trans hB hb1.size) (by omega)).mono ?_
  rw [HI.out]
  rintro e w3 ⟨rfl, hb3⟩
  have hb03 := below_step hb1 hb3
  go_wp2_with fail
  refine (clone_slots _ _ _ _ _ _ (hr0.below (hb03.mono hB)) (Nat.le_trans hB hb03.size) (slotsC_one _) (by omega)).mono ?_
  rintro e w4 ⟨A', c', rfl, hown, hb4⟩
  have hb04 := below_step hb03 hb4
  have c0 := (hb04.cell (p := ad.add (i * 3)) hbl).trans HC0.out
  obtain ⟨g, cap, hv, hg, -⟩ := hown.form (by omega)
  obtain ⟨rfl, rfl⟩ : A' = some ⟨g, 0, none⟩ ∧ c' = cap := by simpa using hv
  clear hv hb4 hb3 hb1
  have f0 := hown.frozenAt (i * 3)
  have f1 := hown.frozenAt (i * 3 + 1)
  have f2 := hown.frozenAt (i * 3 + 2)
  obtain ⟨d0, d1, d2⟩ := own_slot hown HS.out
  have HO := Lib.hid (own_setSlot i ⟨gen + 1, true, loc⟩ (own_mono hown hb03.size))
  have hgs : w.heap.size ≤ g := Nat.le_trans hb03.size hg
  have HB5 := Lib.hid (below_set3 hb04 hgs (i * 3) (i * 3 + 1) (i * 3 + 2) (.int .i64 (gen + 1)) (.bool true) (.int .i64 loc))
  clear hown hr0 hb04
  go_wp2_with fail
  refine (handName_any _ _ _ _ _ (by omega) (by omega)).mono ?_
  rintro e w5 ⟨rfl, hb5⟩
  go_wp2
  go_ret3
  refine ⟨below_step HB5.out hb5, some ⟨g, 0, none⟩, c', rfl, ?_⟩
  exact own_below HO.out hb5
end Go.Proofs.Ytbmkbnalembbjaa
