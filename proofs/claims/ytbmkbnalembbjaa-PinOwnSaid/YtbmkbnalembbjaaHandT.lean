/-
  slices.Clone at api.Hands, hand.Open, hand.Close: what comes back is a row of slots to its end.
-/
import Derived.Test.YtbmkbnalembbjaaOwnBase
import Derived.Test.YtbmkbnalembbjaaHandOpen
namespace Go.Proofs.Ytbmkbnalembbjaa
open Go.RowKit

/-- The first cell of a slot is a number. -/
def isS (j : Nat) (u : Value) : Prop := j = 0 → ∃ x, u = .int .i64 x
theorem isS_zero : ∀ j u, (Value.agg #[.int .i64 0, .bool false, .int .i64 0]).cells[j]? = some u → isS j u := by
  intro j u hu hj
  subst hj
  have hc : (Value.agg #[.int .i64 0, .bool false, .int .i64 0]).cells = #[.int .i64 0, .bool false, .int .i64 0] := by kernel_rfl
  rw [hc] at hu
  exact ⟨0, by simpa using hu.symm⟩
theorem isS_slots (l : List Slot) : ∀ j u, (slotsC l)[j]? = some u → isS (j % 3) u := by
  intro j u hu hj
  have hjl := (List.getElem?_eq_some_iff.1 hu).1
  rw [slotsC_length] at hjl
  have h1 := slotsC_at l (j / 3) 0 (by omega) (by omega)
  rw [show j / 3 * 3 + 0 = j by omega, hu] at h1
  exact ⟨_, by simpa [slotC] using h1⟩
theorem ownT_setAt {w : World} {base g n c k : Nat} {e : TypeId} {ok : Nat → Value → Prop} {xs : List Value} (h : OwnT w base e k ok (.slice (some ⟨g, 0, none⟩) n c) n xs) (j : Nat) (u : Value) (hu : ok (j % k) u) :
    OwnT (w.setCell ⟨g, j, none⟩ u) base e k ok (.slice (some ⟨g, 0, none⟩) n c) n (xs.set j u) := by
  obtain ⟨cur, hb, hg, hc, hm, hl, ht, hty⟩ := h.open
  have hB : Blk w g e cur.toArray := hg
  have hB2 := hB.set_ j u
  simp only [List.setIfInBounds_toArray] at hB2
  have := OwnT.close (size := k) (n := n) (c := c) (ok := ok) (cur.set j u) hb hB2 hc hm (by rw [List.length_set]; exact hl) (fun i v hv => by
    by_cases hij : j = i
    · subst hij
      by_cases hlt : j < cur.length
      · rw [List.getElem?_set_self hlt] at hv
        injection hv with hv
        rw [← hv]; exact hu
      · rw [List.set_eq_of_length_le (by omega)] at hv
        exact hty j v hv
    · rw [List.getElem?_set_ne hij] at hv
      exact hty i v hv)
  rw [List.take_set, ht] at this
  exact this
theorem ownT_setSlot {w : World} {base g n c : Nat} {e : TypeId} {l : List Slot} (j : Nat) (s : Slot) (h : OwnT w base e 3 isS (.slice (some ⟨g, 0, none⟩) n c) n (slotsC l)) :
    OwnT (((w.setCell ⟨g, j * 3, none⟩ (.int .i64 s.gen)).setCell ⟨g, j * 3 + 1, none⟩ (.bool s.opn)).setCell ⟨g, j * 3 + 2, none⟩ (.int .i64 s.loc)) base e 3 isS (.slice (some ⟨g, 0, none⟩) n c) n (slotsC (l.set j s)) := by
  rw [← slotsC_set]
  exact ownT_setAt (ownT_setAt (ownT_setAt h (j * 3) _ (fun _ => ⟨_, rfl⟩)) (j * 3 + 1) _ (fun h => by omega)) (j * 3 + 2) _ (fun h => by omega)

set_option maxRecDepth 100000 in
set_option maxHeartbeats 400000 in
theorem clone_slotsT (A : Option Addr) (n c B : Nat) (xs : List Value) (w : World) (hr : Reads w B 3 A n xs) (hB : B ≤ w.heap.size) (h1 : ∀ u ∈ xs, u.oneCell' = true) (hno : ∀ j u, xs[j]? = some u → isS (j % 3) u) (hn : n ≤ 1000000) :
    Calls Try.prog 15 #[.slice A n c] w fun e w' => ∃ A' c', e = .returned (.slice A' n c') ∧ OwnT w' w.heap.size 50 3 isS (.slice A' n c') n xs ∧ Below w.heap.size w w' := by
  obtain ⟨i0, hi, hz0, hz1, hz2⟩ := info_parts info_slot
  rcases A with _ | ad
  · have hm : n = 0 := by
      rcases Nat.eq_zero_or_pos n with h0 | h0
      · exact h0
      · obtain ⟨ad, h, _⟩ := hr.2 h0
        cases h
    subst hm
    have hx : xs = [] := List.eq_nil_of_length_eq_zero (by simpa using hr.1)
    subst hx
    have hnil := fun (w : World) => Lib.run_eql_slice_nil (P := Try.prog) w 27 50 none 0 c 0 0 Try.underlying27
    go_enter Try.func15, Try.ntmps15
    go_wp2
    go_ret
    exact ⟨none, 0, rfl, OwnT.nil _ _ _ _ _, Below.refl _ _⟩
  · have hnil := fun (w : World) => Lib.run_eql_slice_nil (P := Try.prog) w 27 50 (some ad) n c 0 0 Try.underlying27
    have hmade : OwnT (w.alloc (.cells #[] 50)) w.heap.size 50 3 isS (.slice (some ⟨w.heap.size, 0, none⟩) 0 0) 0 [] := OwnT.close (w := w.alloc (.cells #[] 50)) (n := 0) (c := 0) (size := 3) [] (Nat.le_refl _) (heap_alloc_new w _) (Nat.le_refl _) (by decide) rfl (by simp)
    go_enter Try.func15, Try.ntmps15
    go_wp2_with (at_builtin; refine wpList_append_T _ rfl (.tmp 5) (.tmp 6) 27 rfl w.heap.size 50 i0 (.agg #[.int .i64 0, .bool false, .int .i64 0]) 3 24 Try.underlying27 hi hz0 hz1 hz2 rfl (by decide) isS_zero (.slice (some ⟨w.heap.size, 0, none⟩) 0 0) 0 [] rfl hmade B (some ad) n c xs rfl (hr.alloc hB _) h1 hno (by simp [maxLen]; omega) (by omega) (by simp) ?_; rintro v' w1 hown hgr hbl -; obtain ⟨A', c', rfl⟩ := own_slice hown.1)
    go_ret
    exact ⟨A', c', rfl, by simpa using hown, ((Below.refl _ _).alloc (Nat.le_refl _) _).grown hgr (by simp) (by simp [Value.ownBlock])⟩


set_option maxHeartbeats 1000000 in
theorem openT_ok (A : Option Addr) (n c B : Nat) (l : List Slot) (loc : Int) (i : Nat) (s : Slot) (w : World) (hr : Reads w B 3 A n (slotsC l)) (hB : B ≤ w.heap.size) (hE : openE l loc = 0) (hi : freeIx l = i) (hs : l[i]? = some s) (hfr : slotFree s = true) :
    Calls Try.prog 21 #[.slice A n c, .int .i64 loc] w fun e w' => Below w.heap.size w w' ∧
      ∃ A' c', e = .returned (.tuple #[.slice A' n c', .int .u64 (i + (s.gen + 1) * 65536), .int .i64 0]) ∧ OwnT w' w.heap.size 50 3 isS (.slice A' n c') n (slotsC (l.set i ⟨s.gen + 1, true, loc⟩)) := by
  obtain ⟨hC, l0, l1, _⟩ := openE_ok hE
  have H := handCheck_any A n c B l w hr hB
  rw [hC] at H
  have HH := Lib.hid H
  obtain ⟨hlen, hall⟩ := handE_ok.1 hC
  have hll : l.length = n := by have := hr.1; rw [slotsC_length] at this; omega
  have hil : i < n := by have := (List.getElem?_eq_some_iff.1 hs).1; omega
  obtain ⟨g0, g1, _, _, _, _⟩ := slotE_ok.1 (hall s (List.mem_of_getElem? hs))
  have g2 : s.gen < 65535 := by simp [slotFree] at hfr; exact hfr.2
  have hr0 := hr
  obtain ⟨ad, s', rfl, had, hs', c0, c1, c2⟩ := hr.slot hil
  obtain rfl : s' = s := by rw [hs] at hs'; exact (Option.some.inj hs').symm
  have HC0 := Lib.hid c0
  have HS := Lib.hid hs
  have HI := Lib.hid hi
  have H2 : Hid (0 ≤ loc ∧ loc < 256) := ⟨l0, l1⟩
  have hn16 : n ≤ 16 := by omega
  clear H hE hC hi hs hs' c0 c1 c2 hr hll hall hfr hlen
  have hil2 : (i : Int) < n := by omega
  have hbl : (ad.add (i * 3)).block < w.heap.size := by rw [block_of_add]; omega
  obtain ⟨gen, opn, loc0⟩ := s'
  dsimp only at g0 g1 g2 HC0 ⊢
  go_enter Try.func21, Try.ntmps21
  go_wp2_with fail
  refine HH.out.mono ?_
  rintro e w1 ⟨rfl, hb1⟩
  go_wp2_with fail
  refine (handThere_yes _ _ H2.out).mono ?_
  rintro e w2 ⟨rfl, rfl⟩
  go_wp2_with fail
  refine (indexFree_any _ _ _ _ _ _ (hr0.below (hb1.mono hB)) (Nat.le_trans hB hb1.size) (by omega)).mono ?_
  rw [HI.out]
  rintro e w3 ⟨rfl, hb3⟩
  have hb03 := below_step hb1 hb3
  go_wp2_with fail
  refine (clone_slotsT _ _ _ _ _ _ (hr0.below (hb03.mono hB)) (Nat.le_trans hB hb03.size) (slotsC_one _) (isS_slots _) (by omega)).mono ?_
  rintro e w4 ⟨A', c', rfl, hown, hb4⟩
  have hb04 := below_step hb03 hb4
  have c0 := (hb04.cell (p := ad.add (i * 3)) hbl).trans HC0.out
  obtain ⟨g, cap, hv, hg, -⟩ := hown.1.form (by omega)
  obtain ⟨rfl, rfl⟩ : A' = some ⟨g, 0, none⟩ ∧ c' = cap := by simpa using hv
  clear hv hb4 hb3 hb1
  have f0 := hown.1.frozenAt (i * 3)
  have f1 := hown.1.frozenAt (i * 3 + 1)
  have f2 := hown.1.frozenAt (i * 3 + 2)
  obtain ⟨d0, d1, d2⟩ := own_slot hown.1 HS.out
  have HO := Lib.hid (ownT_setSlot i ⟨gen + 1, true, loc⟩ (OwnT.mono hown hb03.size))
  have hgs : w.heap.size ≤ g := Nat.le_trans hb03.size hg
  have HB5 := Lib.hid (below_set3 hb04 hgs (i * 3) (i * 3 + 1) (i * 3 + 2) (.int .i64 (gen + 1)) (.bool true) (.int .i64 loc))
  clear hown hr0 hb04
  go_wp2_with fail
  refine (handName_any _ _ _ _ _ (by omega) (by omega)).mono ?_
  rintro e w5 ⟨rfl, hb5⟩
  go_wp2
  go_ret3
  refine ⟨below_step HB5.out hb5, some ⟨g, 0, none⟩, c', rfl, ?_⟩
  exact OwnT.below HO.out hb5

set_option maxHeartbeats 1000000 in
theorem closeT_ok (A : Option Addr) (n c B : Nat) (l : List Slot) (v : Int) (i : Nat) (s : Slot) (w : World) (hr : Reads w B 3 A n (slotsC l)) (hB : B ≤ w.heap.size) (hE : handE l = 0) (v0 : 0 ≤ v) (v1 : v < 18446744073709551616) (hf : Found l v i s) :
    Calls Try.prog 22 #[.slice A n c, .int .u64 v] w fun e w' => Below w.heap.size w w' ∧
      ∃ A' c', e = .returned (.tuple #[.slice A' n c', .int .i64 0]) ∧ OwnT w' w.heap.size 50 3 isS (.slice A' n c') n (slotsC (l.set i ⟨s.gen, false, 0⟩)) := by
  have H := find_ok A n c B l v i s w hr hB hE v0 v1 hf
  have HH := Lib.hid H
  have hll : l.length = n := by have := hr.1; rw [slotsC_length] at this; omega
  have hs := hf.2.1
  have hil : i < n := by have := (List.getElem?_eq_some_iff.1 hs).1; omega
  have hn16 : n ≤ 16 := by have := (handE_ok.1 hE).1; omega
  have hr0 := hr
  obtain ⟨ad, s', rfl, had, hs', c0, c1, c2⟩ := hr.slot hil
  obtain rfl : s' = s := by rw [hs] at hs'; exact (Option.some.inj hs').symm
  have HC0 := Lib.hid c0
  have HS := Lib.hid hs
  clear H hE hf hs hs' c0 c1 c2 hr hll
  have hil2 : (i : Int) < n := by omega
  have hbl : (ad.add (i * 3)).block < w.heap.size := by rw [block_of_add]; omega
  go_enter Try.func22, Try.ntmps22
  go_wp2_with fail
  refine HH.out.mono ?_
  rintro e w1 ⟨rfl, hb1⟩
  go_wp2_with fail
  refine (clone_slotsT _ _ _ _ _ _ (hr0.below (hb1.mono hB)) (Nat.le_trans hB hb1.size) (slotsC_one _) (isS_slots _) (by omega)).mono ?_
  rintro e w2 ⟨A', c', rfl, hown, hb2⟩
  have hb02 := below_step hb1 hb2
  have c0 := (hb02.cell (p := ad.add (i * 3)) hbl).trans HC0.out
  obtain ⟨g, cap, hv, hg, -⟩ := hown.1.form (by omega)
  obtain ⟨rfl, rfl⟩ : A' = some ⟨g, 0, none⟩ ∧ c' = cap := by simpa using hv
  clear hv hb2
  obtain ⟨d0, d1, d2⟩ := own_slot hown.1 HS.out
  have f0 := hown.1.frozenAt (i * 3)
  have f1 := hown.1.frozenAt (i * 3 + 1)
  have f2 := hown.1.frozenAt (i * 3 + 2)
  have HO := Lib.hid (ownT_setSlot i ⟨s'.gen, false, 0⟩ (OwnT.mono hown hb1.size))
  have hgs : w.heap.size ≤ g := Nat.le_trans hb1.size hg
  clear hown hr0
  go_wp2
  go_ret2
  exact ⟨below_set3 hb02 hgs _ _ _ _ _ _, some ⟨g, 0, none⟩, c', rfl, HO.out⟩
end Go.Proofs.Ytbmkbnalembbjaa
