/-
  slices.Equal, IndexFunc, ContainsFunc at rooms.
-/
import Derived.Test.YtdlmnnibgpfdbabRows
import Derived.Test.YtdlmnnibgpfdbabTwinDefs
import Derived.Test.YtdlmnnibgpfdbabBase2
namespace Go.Proofs.Ytdlmnnibgpfdbab
open Go.RowKit

set_option maxHeartbeats 400000 in
theorem equal_room (A A2 : Option Addr) (n c c2 B B2 : Nat) (l : List Rm) (w : World) (hr : Reads w B 3 A n (roomsC l)) (hr2 : Reads w B2 3 A2 n (roomsC l)) (hn : n ≤ 1000000000000000000) :
    Calls Try.prog 18 #[.slice A n c, .slice A2 n c2] w fun e w' => e = .returned (.bool true) ∧ ∃ q, w' = w.drewN q := by
  go_enter Try.func18, Try.ntmps18
  go_wp2
  go_loopw [13] (fun i wr => ∃ j : Nat, j ≤ n ∧ i = .int .i64 j ∧ ∃ q, wr = w.drewN q) (fun i _ => n - (intOf i).toNat)
  case atStart => exact ⟨0, Nat.zero_le _, rfl, 0, rfl⟩
  case round =>
    obtain ⟨j, hj, rfl, q, rfl⟩ := hrel
    by_cases hlt : j < n
    · obtain ⟨ad, r, rfl, _, hs, c0, c1, cu⟩ := hr.room hlt
      obtain ⟨ad2, r2, rfl, _, hs2, d0, d1, du⟩ := hr2.room hlt
      obtain rfl : r = r2 := Option.some.inj (hs.symm.trans hs2)
      obtain ⟨x, y, z⟩ := r
      dsimp only at *
      have hlt' : (j : Int) < n := by omega
      clear hs hs2
      go_wp2
      go_quiet (fail)
      go_wp2
      go_roundw
      case rel => exact ⟨j + 1, by omega, by go_num, _, rfl⟩
      case measure => simp [intOf]; omega
    · go_wp2
      go_ret
      exact ⟨rfl, _, rfl⟩

set_option maxRecDepth 100000 in
set_option maxHeartbeats 1000000 in
theorem indexRoom_any (F : Nat) (cap : Value) (A : Option Addr) (n c B : Nat) (l : List Rm) (p : Rm → Bool) (w : World) (hr : Reads w B 3 A n (roomsC l)) (hB : B ≤ w.heap.size) (hn : n ≤ 1000000) (hP : Plain Try.prog F)
    (HC : ∀ (w' : World) (s : Rm), Below w.heap.size w w' → s ∈ l → Calls Try.prog F #[.agg #[.int .i64 s.loc, .int .i64 s.len, .int .i64 s.used], cap] w' fun e w'' => e = .returned (.bool (p s)) ∧ Below w'.heap.size w' w'') :
    Calls Try.prog 34 #[.slice A n c, .func (.func F) #[] #[cap]] w fun e w' => e = .returned (.int .i64 (ixOf p l)) ∧ Below w.heap.size w w' := by
  have hll : l.length = n := by have := hr.1; rw [roomsC_length] at this; omega
  have HL := Lib.hid hll
  have HC := Lib.hid HC
  have hcf := fun (x : Value) (w : World) => hP #[x, cap] w
  clear hll hP
  go_enter Try.func34, Try.ntmps34
  go_wp2
  go_loopw [5, 8] (fun _ i wr => ∃ j : Nat, j ≤ n ∧ i = .int .i64 j ∧ Below w.heap.size w wr ∧ Hid (∀ x ∈ l.take j, p x = false)) (fun _ i _ => n - (intOf i).toNat)
  case atStart => exact ⟨0, Nat.zero_le _, rfl, Below.refl _ _, by intro x hx; simp at hx⟩
  case round =>
    obtain ⟨j, hj, rfl, hb, HD⟩ := hrel
    by_cases hlt : j < n
    · obtain ⟨ad, s, rfl, had, hs, c0, c1, cu⟩ := (hr.below (hb.mono hB)).room hlt
      have HS := Lib.hid hs
      have HQ := Lib.hid (HC.out wr s hb (List.mem_of_getElem? hs))
      clear hs
      cases hp : p s
      · have HF := Lib.hid hp
        clear hp
        go_wp2_with fail
        refine HQ.out.mono ?_
        rw [HF.out]
        rintro e w1 ⟨rfl, hb1⟩
        go_wp2
        go_roundw
        case rel => exact ⟨j + 1, by omega, by go_num, hb.trans (hb1.mono hb.size), fun x hx => by
          rcases take_succ_mem HS.out x hx with h | rfl
          · exact HD.out x h
          · exact HF.out⟩
        case measure => simp [intOf]; omega
      · have HF := Lib.hid hp
        clear hp
        go_wp2_with fail
        refine HQ.out.mono ?_
        rw [HF.out]
        rintro e w1 ⟨rfl, hb1⟩
        go_wp2
        go_ret
        exact ⟨ret_int (ixOf_some HS.out HF.out HD.out).symm, hb.trans (hb1.mono hb.size)⟩
    · go_wp2
      go_ret
      exact ⟨ret_int (ixOf_none (by have := HD.out; rwa [List.take_of_length_le (by rw [HL.out]; omega)] at this)).symm, hb⟩

theorem containsRoom_any (F : Nat) (cap : Value) (A : Option Addr) (n c B : Nat) (l : List Rm) (p : Rm → Bool) (w : World) (hr : Reads w B 3 A n (roomsC l)) (hB : B ≤ w.heap.size) (hn : n ≤ 1000000) (hP : Plain Try.prog F)
    (HC : ∀ (w' : World) (s : Rm), Below w.heap.size w w' → s ∈ l → Calls Try.prog F #[.agg #[.int .i64 s.loc, .int .i64 s.len, .int .i64 s.used], cap] w' fun e w'' => e = .returned (.bool (p s)) ∧ Below w'.heap.size w' w'') :
    Calls Try.prog 14 #[.slice A n c, .func (.func F) #[] #[cap]] w fun e w' => e = .returned (.bool (l.any p)) ∧ Below w.heap.size w w' := by
  have H := Lib.hid (indexRoom_any F cap A n c B l p w hr hB hn hP HC)
  have hd := ixOf_nonneg p l
  rw [← hd]
  generalize ixOf p l = i at *
  clear HC hd
  go_enter Try.func14, Try.ntmps14
  go_wp2_with fail
  refine H.out.mono ?_
  rintro e w1 ⟨rfl, hb⟩
  go_wp2
  go_ret
  exact ⟨rfl, hb⟩

set_option maxRecDepth 100000 in
set_option maxHeartbeats 1000000 in
theorem indexRoom2_any (F : Nat) (cap cap2 : Value) (A : Option Addr) (n c B : Nat) (l : List Rm) (p : Rm → Bool) (w : World) (hr : Reads w B 3 A n (roomsC l)) (hB : B ≤ w.heap.size) (hn : n ≤ 1000000) (hP : Plain Try.prog F)
    (HC : ∀ (w' : World) (s : Rm), Below w.heap.size w w' → s ∈ l → Calls Try.prog F #[.agg #[.int .i64 s.loc, .int .i64 s.len, .int .i64 s.used], cap, cap2] w' fun e w'' => e = .returned (.bool (p s)) ∧ Below w'.heap.size w' w'') :
    Calls Try.prog 34 #[.slice A n c, .func (.func F) #[] #[cap, cap2]] w fun e w' => e = .returned (.int .i64 (ixOf p l)) ∧ Below w.heap.size w w' := by
  have hll : l.length = n := by have := hr.1; rw [roomsC_length] at this; omega
  have HL := Lib.hid hll
  have HC := Lib.hid HC
  have hcf := fun (x : Value) (w : World) => hP #[x, cap, cap2] w
  clear hll hP
  go_enter Try.func34, Try.ntmps34
  go_wp2
  go_loopw [5, 8] (fun _ i wr => ∃ j : Nat, j ≤ n ∧ i = .int .i64 j ∧ Below w.heap.size w wr ∧ Hid (∀ x ∈ l.take j, p x = false)) (fun _ i _ => n - (intOf i).toNat)
  case atStart => exact ⟨0, Nat.zero_le _, rfl, Below.refl _ _, by intro x hx; simp at hx⟩
  case round =>
    obtain ⟨j, hj, rfl, hb, HD⟩ := hrel
    by_cases hlt : j < n
    · obtain ⟨ad, s, rfl, had, hs, c0, c1, cu⟩ := (hr.below (hb.mono hB)).room hlt
      have HS := Lib.hid hs
      have HQ := Lib.hid (HC.out wr s hb (List.mem_of_getElem? hs))
      clear hs
      cases hp : p s
      · have HF := Lib.hid hp
        clear hp
        go_wp2_with fail
        refine HQ.out.mono ?_
        rw [HF.out]
        rintro e w1 ⟨rfl, hb1⟩
        go_wp2
        go_roundw
        case rel => exact ⟨j + 1, by omega, by go_num, hb.trans (hb1.mono hb.size), fun x hx => by
          rcases take_succ_mem HS.out x hx with h | rfl
          · exact HD.out x h
          · exact HF.out⟩
        case measure => simp [intOf]; omega
      · have HF := Lib.hid hp
        clear hp
        go_wp2_with fail
        refine HQ.out.mono ?_
        rw [HF.out]
        rintro e w1 ⟨rfl, hb1⟩
        go_wp2
        go_ret
        exact ⟨ret_int (ixOf_some HS.out HF.out HD.out).symm, hb.trans (hb1.mono hb.size)⟩
    · go_wp2
      go_ret
      exact ⟨ret_int (ixOf_none (by have := HD.out; rwa [List.take_of_length_le (by rw [HL.out]; omega)] at this)).symm, hb⟩

theorem containsRoom2_any (F : Nat) (cap cap2 : Value) (A : Option Addr) (n c B : Nat) (l : List Rm) (p : Rm → Bool) (w : World) (hr : Reads w B 3 A n (roomsC l)) (hB : B ≤ w.heap.size) (hn : n ≤ 1000000) (hP : Plain Try.prog F)
    (HC : ∀ (w' : World) (s : Rm), Below w.heap.size w w' → s ∈ l → Calls Try.prog F #[.agg #[.int .i64 s.loc, .int .i64 s.len, .int .i64 s.used], cap, cap2] w' fun e w'' => e = .returned (.bool (p s)) ∧ Below w'.heap.size w' w'') :
    Calls Try.prog 14 #[.slice A n c, .func (.func F) #[] #[cap, cap2]] w fun e w' => e = .returned (.bool (l.any p)) ∧ Below w.heap.size w w' := by
  have H := Lib.hid (indexRoom2_any F cap cap2 A n c B l p w hr hB hn hP HC)
  have hd := ixOf_nonneg p l
  rw [← hd]
  generalize ixOf p l = i at *
  clear HC hd
  go_enter Try.func14, Try.ntmps14
  go_wp2_with fail
  refine H.out.mono ?_
  rintro e w1 ⟨rfl, hb⟩
  go_wp2
  go_ret
  exact ⟨rfl, hb⟩

theorem info_room : (Try.prog.info? 33).map (fun i => (i.zero, i.size, i.bytes)) = some (some (.agg #[.int .i64 0, .int .i64 0, .int .i64 0]), 3, 24) := by kernel_rfl

set_option maxHeartbeats 400000 in
theorem clone_room (A : Option Addr) (n c B : Nat) (xs : List Value) (w : World) (hr : Reads w B 3 A n xs) (hB : B ≤ w.heap.size) (h1 : ∀ u ∈ xs, u.oneCell' = true) (hn : n ≤ 1000000) :
    Calls Try.prog 31 #[.slice A n c] w fun e w' => ∃ A' c', e = .returned (.slice A' n c') ∧ w'.ownsRow w.heap.size 33 3 (.slice A' n c') n xs ∧ Below w.heap.size w w' := by
  obtain ⟨i0, hi, hz0, hz1, hz2⟩ := info_parts info_room
  rcases A with _ | ad
  · have hm : n = 0 := by
      rcases Nat.eq_zero_or_pos n with h0 | h0
      · exact h0
      · obtain ⟨ad, h, _⟩ := hr.2 h0
        cases h
    subst hm
    have hx : xs = [] := List.eq_nil_of_length_eq_zero (by simpa using hr.1)
    subst hx
    have hnil := fun (w : World) => Lib.run_eql_slice_nil (P := Try.prog) w 22 33 none 0 c 0 0 Try.underlying22
    go_enter Try.func31, Try.ntmps31
    go_wp2
    go_ret
    exact ⟨none, 0, rfl, World.ownsRow_nil _ _ _ _, Below.refl _ _⟩
  · have hnil := fun (w : World) => Lib.run_eql_slice_nil (P := Try.prog) w 22 33 (some ad) n c 0 0 Try.underlying22
    have hmade := World.ownsRow_made (e := 33) (size := 3) w #[] 0 (Nat.le_refl w.heap.size) (Nat.zero_le _) rfl
    go_enter Try.func31, Try.ntmps31
    go_wp2_with (at_builtin; refine wpList_append_any _ rfl (.tmp 5) (.tmp 6) 22 rfl w.heap.size 33 i0 _ 3 24 Try.underlying22 hi hz0 hz1 hz2 rfl (by decide) (.slice (some ⟨w.heap.size, 0, none⟩) 0 0) 0 [] rfl hmade B (some ad) n c xs rfl (hr.alloc hB _) h1 (by simp [maxLen]; omega) (by omega) (by simp) ?_; rintro v' w1 hown hgr hbl -; obtain ⟨A', c', rfl⟩ := own_slice hown)
    go_ret
    exact ⟨A', c', rfl, by simpa using hown, ((Below.refl _ _).alloc (Nat.le_refl _) _).grown hgr (by simp) (by simp [Value.ownBlock])⟩
end Go.Proofs.Ytdlmnnibgpfdbab
