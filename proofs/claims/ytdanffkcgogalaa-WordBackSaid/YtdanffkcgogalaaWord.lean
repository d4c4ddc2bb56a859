/-
  package word: contracts of its functions.
-/
import Derived.Test.YtdanffkcgogalaaRows
import Derived.Test.YtdanffkcgogalaaBase
namespace Go.Proofs.Ytdanffkcgogalaa
open Go.RowKit

def stretchF (len n : Int) : List Int → Int
  | [] => 0
  | k :: r => if n < 0 ∨ k < 0 ∨ len < k ∨ len - k < n then 4 else stretchF len n r

set_option maxHeartbeats 400000 in
theorem stretches_big (A : Option Addr) (n c : Nat) (k : Int) (v : Value) (w : World) (hn : 256 < n) :
    Calls Try.prog 31 #[.slice A n c, .int .i64 k, v] w fun e w' => e = .returned (.int .i64 2) ∧ w = w' := by
  go_enter Try.func31, Try.ntmps31
  go_wp2
  go_ret
  exact ⟨rfl, rfl⟩

set_option maxHeartbeats 400000 in
theorem stretches_any (A : Option Addr) (n c : Nat) (k : Int) (B : Nat) (A2 : Option Addr) (m c2 : Nat) (ats : List Int) (w : World) (hn : n ≤ 256) (hm : m ≤ 1000) (hr : Reads w B 1 A2 m (ats.map (.int .i64)))
    (hk : -9223372036854775808 ≤ k ∧ k ≤ 9223372036854775807) (ha : ∀ x ∈ ats, -9223372036854775808 ≤ x ∧ x ≤ 9223372036854775807) :
    Calls Try.prog 31 #[.slice A n c, .int .i64 k, .slice A2 m c2] w fun e w' => e = .returned (.int .i64 (stretchF n k ats)) ∧ w = w' := by
  go_enter Try.func31, Try.ntmps31
  go_wp2
  go_loop [14] (fun i => ∃ j : Nat, j ≤ m ∧ i = .int .i64 j ∧ stretchF n k (ats.drop j) = stretchF n k ats) (fun i => m - (intOf i).toNat)
  case atStart => exact ⟨0, Nat.zero_le _, rfl, rfl⟩
  case round =>
    obtain ⟨j, hj, rfl, hs⟩ := hrel
    have HS := Lib.hid hs
    clear hs
    by_cases hlt : j < m
    · have hl : j < ats.length := by have := hr.1; simp at this; omega
      obtain ⟨ad, u, hA2, _, hx, hc⟩ := hr.at_ hlt
      subst hA2
      have hu : u = .int .i64 ats[j] := by
        rw [List.getElem?_map, List.getElem?_eq_getElem hl] at hx
        simpa using hx.symm
      subst hu
      clear hx
      have hb := ha _ (List.getElem_mem hl)
      have hd : ats.drop j = ats[j] :: ats.drop (j + 1) := List.drop_eq_getElem_cons hl
      have HD := Lib.hid hd
      clear hd
      by_cases hbad : k < 0 ∨ ats[j] < 0 ∨ (n : Int) < ats[j] ∨ (n : Int) - ats[j] < k
      · go_wp2
        all_goals
          go_ret
          exact ⟨ret_int (by rw [← HS.out, HD.out, stretchF, if_pos hbad]), rfl⟩
      · have h1 : 0 ≤ k := by omega
        have h2 : 0 ≤ ats[j] := by omega
        have h3 : ats[j] ≤ (n : Int) := by omega
        have h4 : k ≤ (n : Int) - ats[j] := by omega
        clear hbad
        go_wp2
        go_round
        case rel => exact ⟨j + 1, by omega, by go_num, by rw [← HS.out, HD.out, stretchF, if_neg (by omega)]⟩
        case measure => simp [intOf]; omega
    · go_wp2
      go_ret
      have : j = m := by omega
      subst this
      exact ⟨ret_int (by rw [← HS.out, List.drop_of_length_le (by have := hr.1; simp at this; omega)]; rfl), rfl⟩

theorem size_u64 : (Try.prog.info? 27).map (·.size) = some 1 := by kernel_rfl
theorem info_u64 : (Try.prog.info? 27).map (fun i => (i.zero, i.size, i.bytes)) = some (some (.int .u64 0), 1, 8) := by kernel_rfl

set_option maxHeartbeats 400000 in
theorem clone_u64 (A : Option Addr) (n c B : Nat) (xs : List Value) (w : World) (hr : Reads w B 1 A n xs) (hB : B ≤ w.heap.size) (h1 : ∀ u ∈ xs, u.oneCell' = true) (hn : n * 8 ≤ 140737488355328) :
    Calls Try.prog 32 #[.slice A n c] w fun e w' => ∃ A' c', e = .returned (.slice A' n c') ∧ w'.ownsRow w.heap.size 27 1 (.slice A' n c') n xs ∧ Below w.heap.size w w' := by
  obtain ⟨i0, hi, hz0, hz1, hz2⟩ := info_parts info_u64
  rcases A with _ | ad
  · have hm : n = 0 := by
      rcases Nat.eq_zero_or_pos n with h0 | h0
      · exact h0
      · obtain ⟨ad, h, _⟩ := hr.2 h0
        cases h
    subst hm
    have hx : xs = [] := List.eq_nil_of_length_eq_zero (by simpa using hr.1)
    subst hx
    have hnil := fun (w : World) => Lib.run_eql_slice_nil (P := Try.prog) w 22 27 none 0 c 0 0 Try.underlying22
    go_enter Try.func32, Try.ntmps32
    go_wp2
    go_ret
    exact ⟨none, 0, rfl, World.ownsRow_nil _ _ _ _, Below.refl _ _⟩
  · have hnil := fun (w : World) => Lib.run_eql_slice_nil (P := Try.prog) w 22 27 (some ad) n c 0 0 Try.underlying22
    have hmade := World.ownsRow_made (e := 27) (size := 1) w #[] 0 (Nat.le_refl w.heap.size) (Nat.zero_le _) rfl
    go_enter Try.func32, Try.ntmps32
    go_wp2_with (at_builtin; refine wpList_append_any _ rfl (.tmp 5) (.tmp 6) 22 rfl w.heap.size 27 i0 (.int .u64 0) 1 8 Try.underlying22 hi hz0 hz1 hz2 rfl (by decide) (.slice (some ⟨w.heap.size, 0, none⟩) 0 0) 0 [] rfl hmade B (some ad) n c xs rfl (hr.alloc hB _) h1 (by simp [maxLen]; omega) (by simpa using hn) (by simp) ?_; rintro v' w1 hown hgr hbl -; obtain ⟨A', c', rfl⟩ := own_slice hown)
    go_ret
    exact ⟨A', c', rfl, by simpa using hown, ((Below.refl _ _).alloc (Nat.le_refl _) _).grown hgr (by simp) (by simp [Value.ownBlock])⟩
theorem u64s_one (l : List Int) : ∀ u ∈ l.map (Value.int .u64), u.oneCell' = true := by
  intro u hu
  obtain ⟨x, _, rfl⟩ := List.mem_map.1 hu
  rfl


/-- word.Fill: what it answers. -/
def fillE (len at_ n : Int) : Int := if 256 < len then 2 else stretchF len n [at_]
def fillL (a : List Int) (at_ n : Nat) (v : Int) : List Int := a.take at_ ++ List.replicate n v ++ a.drop (at_ + n)

theorem stretchF_cases (len n : Int) (l : List Int) : stretchF len n l = 0 ∨ stretchF len n l = 4 := by
  induction l with
  | nil => exact .inl rfl
  | cons k r ih =>
    unfold stretchF
    split
    · exact .inr rfl
    · exact ih

theorem fillE_cases (len at_ n : Int) : fillE len at_ n = 0 ∨ fillE len at_ n = 2 ∨ fillE len at_ n = 4 := by
  unfold fillE
  split
  · exact .inr (.inl rfl)
  · rcases stretchF_cases len n [at_] with h | h
    · exact .inl h
    · exact .inr (.inr h)

theorem fillE_ok {len at_ n : Int} : fillE len at_ n = 0 ↔ len ≤ 256 ∧ 0 ≤ n ∧ 0 ≤ at_ ∧ at_ ≤ len ∧ n ≤ len - at_ := by
  unfold fillE
  split
  · constructor
    · intro h; cases h
    · omega
  · simp only [stretchF]
    split
    · constructor
      · intro h; cases h
      · omega
    · constructor
      · intro _; omega
      · intro _; rfl

theorem fillL_length (a : List Int) (at_ n : Nat) (v : Int) (h : at_ + n ≤ a.length) : (fillL a at_ n v).length = a.length := by
  simp [fillL]; omega

theorem fillL_zero (a : List Int) (at_ : Nat) (v : Int) : fillL a at_ 0 v = a := by simp [fillL]

theorem fillL_succ (a : List Int) (at_ n : Nat) (v : Int) (h : at_ + n < a.length) : (fillL a at_ n v).set (at_ + n) v = fillL a at_ (n + 1) v := by
  have hl : (a.take at_ ++ List.replicate n v).length = at_ + n := by simp; omega
  have hd : a.drop (at_ + n) = a[at_ + n] :: a.drop (at_ + n + 1) := List.drop_eq_getElem_cons h
  unfold fillL
  rw [hd, List.set_append_right _ _ (by omega), hl, Nat.sub_self, List.set_cons_zero, List.replicate_succ', ← Nat.add_assoc]
  simp

set_option maxHeartbeats 400000 in
theorem fill_bad (A : Option Addr) (n c B : Nat) (at_ k v : Int) (w : World)
    (ha : -9223372036854775808 ≤ at_ ∧ at_ ≤ 9223372036854775807) (hk : -9223372036854775808 ≤ k ∧ k ≤ 9223372036854775807) (hbad : fillE n at_ k ≠ 0) :
    Calls Try.prog 25 #[.slice A n c, .int .i64 at_, .int .i64 k, .int .u64 v] w fun e w' => Below w.heap.size w w' ∧ e = .returned (.tuple #[.slice none 0 0, .int .i64 (fillE n at_ k)]) := by
  by_cases hbig : 256 < n
  · have hE : fillE n at_ k = 2 := by unfold fillE; rw [if_pos (by omega)]
    rw [hE]
    clear hbad hE
    go_enter Try.func25, Try.ntmps25
    go_wp2_with (go_at_call 31; refine (stretches_big _ _ _ _ _ _ hbig).mono ?_; rintro e w' ⟨rfl, rfl⟩)
    go_ret2
    exact ⟨(Below.refl _ _).alloc (Nat.le_refl _) _, rfl⟩
  · have hE : fillE n at_ k = 4 := by
      rcases fillE_cases n at_ k with h | h | h
      · exact absurd h hbad
      · unfold fillE at h
        rw [if_neg (by omega)] at h
        rcases stretchF_cases n k [at_] with h' | h' <;> rw [h'] at h <;> cases h
      · exact h
    have hS : stretchF n k [at_] = 4 := by unfold fillE at hE; rwa [if_neg (by omega)] at hE
    rw [hE]
    have HS := Lib.hid hS
    clear hbad hE hS
    go_enter Try.func25, Try.ntmps25
    go_wp2_with (go_at_call 31; refine (stretches_any _ _ _ _ _ _ 1 _ [at_] _ (by omega) (by omega) (reads_new w [.int .i64 at_] 3 1 1 rfl) hk (by simpa using ha)).mono ?_; rw [HS.out]; rintro e w' ⟨rfl, rfl⟩)
    go_ret2
    exact ⟨(Below.refl _ _).alloc (Nat.le_refl _) _, rfl⟩

set_option maxHeartbeats 400000 in
theorem fill_ok (A : Option Addr) (n c B : Nat) (xs : List Int) (at_ k v : Int) (w : World) (hr : Reads w B 1 A n (xs.map (.int .u64))) (hB : B ≤ w.heap.size) (hok : fillE n at_ k = 0) :
    Calls Try.prog 25 #[.slice A n c, .int .i64 at_, .int .i64 k, .int .u64 v] w fun e w' => Below w.heap.size w w' ∧
      ∃ A' c', e = .returned (.tuple #[.slice A' n c', .int .i64 0]) ∧ w'.ownsRow w.heap.size 27 1 (.slice A' n c') n ((fillL xs at_.toNat k.toNat v).map (.int .u64)) := by
  obtain ⟨h1, h2, h3, h4, h5⟩ := fillE_ok.1 hok
  have hS : stretchF n k [at_] = 0 := by unfold fillE at hok; rwa [if_neg (by omega)] at hok
  have HS := Lib.hid hS
  clear hok hS
  obtain ⟨at0, rfl⟩ := Int.eq_ofNat_of_zero_le h3
  obtain ⟨k0, rfl⟩ := Int.eq_ofNat_of_zero_le h2
  have hxl : xs.length = n := by have := hr.1; simpa using this
  have HX := Lib.hid hxl
  clear hxl
  go_enter Try.func25, Try.ntmps25
  go_wp2_with (first
    | (go_at_call 31; refine (stretches_any _ _ _ _ _ _ 1 _ [↑at0] _ (by omega) (by omega) (reads_new w [.int .i64 at0] 3 1 1 rfl) (by omega) (by simp; omega)).mono ?_; rw [HS.out]; rintro e w' ⟨rfl, rfl⟩)
    | (go_at_call 32; refine (clone_u64 _ _ _ _ _ _ (hr.alloc hB _) (by simp; omega) (u64s_one _) (by omega)).mono ?_; rintro e w1 ⟨A', c', rfl, hown, hb⟩))
  go_loopw [24] (fun i wr => ∃ j : Nat, j ≤ k0 ∧ i = .int .i64 j ∧ wr.ownsRow w.heap.size 27 1 (.slice A' n c') n ((fillL xs at0 j v).map (.int .u64)) ∧ Below w.heap.size w wr) (fun i _ => k0 - (intOf i).toNat)
  case atStart => exact ⟨0, Nat.zero_le _, rfl, by rw [fillL_zero]; exact (own_mono hown (by simp)), ((Below.refl _ _).alloc (Nat.le_refl _) _).trans (hb.mono (by simp))⟩
  case round =>
    obtain ⟨j, hj, rfl, hown1, hb1⟩ := hrel
    by_cases hlt : j < k0
    · obtain ⟨g, cap, hv, hg, -⟩ := hown1.form (by omega)
      obtain ⟨rfl, -, rfl⟩ : A' = some ⟨g, 0, none⟩ ∧ n = n ∧ c' = cap := by simpa using hv
      have hcell := hown1.cellAt (at0 + j) (by omega)
      have hfl := fillL_length xs at0 j v (by rw [HX.out]; omega)
      rw [List.getElem?_eq_getElem (by simp [hfl, HX.out]; omega)] at hcell
      generalize ((fillL xs at0 j v).map (Value.int .u64))[at0 + j]'_ = u0 at hcell
      have hfr := hown1.frozenAt (at0 + j)
      clear hfl
      go_wp2
      go_roundw
      case rel => exact ⟨j + 1, by omega, by go_num, by rw [← fillL_succ _ _ _ _ (by rw [HX.out]; omega), List.map_set]; exact (hown1.stored (at0 + j) (.int .u64 v)).1, hb1.setCell (p := ⟨g, at0 + j, none⟩) (hown1.lt g rfl).1 _⟩
      case measure => simp [intOf]; omega
    · have hjk : j = k0 := by omega
      subst hjk
      go_wp2
      go_ret2
      exact ⟨hb1, A', c', rfl, hown1⟩

set_option maxHeartbeats 400000 in
theorem store_bad (A : Option Addr) (n c : Nat) (at_ v : Int) (w : World) (ha : -9223372036854775808 ≤ at_ ∧ at_ ≤ 9223372036854775807) (hbad : fillE n at_ 1 ≠ 0) :
    Calls Try.prog 13 #[.slice A n c, .int .i64 at_, .int .u64 v] w fun e w' => Below w.heap.size w w' ∧ e = .returned (.tuple #[.slice none 0 0, .int .i64 (fillE n at_ 1)]) := by
  have H := Lib.hid hbad
  clear hbad
  go_enter Try.func13, Try.ntmps13
  go_wp2_with (go_at_call 25; refine (fill_bad _ _ _ w.heap.size _ _ _ _ ha (by omega) H.out).mono ?_; rintro e w' ⟨hb, rfl⟩)
  go_ret2
  exact ⟨hb, rfl⟩

set_option maxHeartbeats 400000 in
theorem store_ok (A : Option Addr) (n c B : Nat) (xs : List Int) (at_ v : Int) (w : World) (hr : Reads w B 1 A n (xs.map (.int .u64))) (hB : B ≤ w.heap.size) (hok : fillE n at_ 1 = 0) :
    Calls Try.prog 13 #[.slice A n c, .int .i64 at_, .int .u64 v] w fun e w' => Below w.heap.size w w' ∧
      ∃ A' c', e = .returned (.tuple #[.slice A' n c', .int .i64 0]) ∧ w'.ownsRow w.heap.size 27 1 (.slice A' n c') n ((fillL xs at_.toNat 1 v).map (.int .u64)) := by
  have H := Lib.hid hok
  clear hok
  go_enter Try.func13, Try.ntmps13
  go_wp2_with (go_at_call 25; refine (fill_ok _ _ _ _ _ _ 1 _ _ hr hB H.out).mono ?_; rintro e w' ⟨hb, A', c', rfl, hown⟩)
  go_ret2
  exact ⟨hb, A', c', rfl, hown⟩

set_option maxHeartbeats 400000 in
theorem load_bad (A : Option Addr) (n c : Nat) (at_ : Int) (w : World) (ha : -9223372036854775808 ≤ at_ ∧ at_ ≤ 9223372036854775807) (hbad : fillE n at_ 1 ≠ 0) :
    Calls Try.prog 14 #[.slice A n c, .int .i64 at_] w fun e w' => Below w.heap.size w w' ∧ e = .returned (.tuple #[.int .u64 0, .int .i64 (fillE n at_ 1)]) := by
  by_cases hbig : 256 < n
  · have hE : fillE n at_ 1 = 2 := by unfold fillE; rw [if_pos (by omega)]
    rw [hE]
    clear hbad hE
    go_enter Try.func14, Try.ntmps14
    go_wp2_with (go_at_call 31; refine (stretches_big _ _ _ _ _ _ hbig).mono ?_; rintro e w' ⟨rfl, rfl⟩)
    go_ret2
    exact ⟨(Below.refl _ _).alloc (Nat.le_refl _) _, rfl⟩
  · have hE : fillE n at_ 1 = 4 := by
      rcases fillE_cases n at_ 1 with h | h | h
      · exact absurd h hbad
      · unfold fillE at h
        rw [if_neg (by omega)] at h
        rcases stretchF_cases n 1 [at_] with h' | h' <;> rw [h'] at h <;> cases h
      · exact h
    have hS : stretchF n 1 [at_] = 4 := by unfold fillE at hE; rwa [if_neg (by omega)] at hE
    rw [hE]
    have HS := Lib.hid hS
    clear hbad hE hS
    go_enter Try.func14, Try.ntmps14
    go_wp2_with (go_at_call 31; refine (stretches_any _ _ _ _ _ _ 1 _ [at_] _ (by omega) (by omega) (reads_new w [.int .i64 at_] 3 1 1 rfl) (by omega) (by simpa using ha)).mono ?_; rw [HS.out]; rintro e w' ⟨rfl, rfl⟩)
    go_ret2
    exact ⟨(Below.refl _ _).alloc (Nat.le_refl _) _, rfl⟩

set_option maxHeartbeats 400000 in
theorem load_ok (A : Option Addr) (n c B : Nat) (xs : List Int) (at_ : Int) (w : World) (hr : Reads w B 1 A n (xs.map (.int .u64))) (hB : B ≤ w.heap.size) (hok : fillE n at_ 1 = 0) :
    Calls Try.prog 14 #[.slice A n c, .int .i64 at_] w fun e w' => Below w.heap.size w w' ∧ e = .returned (.tuple #[.int .u64 (xs.getD at_.toNat 0), .int .i64 0]) := by
  obtain ⟨h1, h2, h3, h4, h5⟩ := fillE_ok.1 hok
  have hS : stretchF n 1 [at_] = 0 := by unfold fillE at hok; rwa [if_neg (by omega)] at hok
  have HS := Lib.hid hS
  clear hok hS
  obtain ⟨at0, rfl⟩ := Int.eq_ofNat_of_zero_le h3
  have hxl : xs.length = n := by have := hr.1; simpa using this
  obtain ⟨ad, u, rfl, hb, hx, hc⟩ := hr.at_ (k := at0) (by omega)
  have hl : at0 < xs.length := by omega
  rw [List.getElem?_map, List.getElem?_eq_getElem hl] at hx
  have hu : u = .int .u64 xs[at0] := by simpa using hx.symm
  subst hu
  have HG : Hid (xs.getD ((at0 : Int)).toNat 0 = xs[at0]) := by show _ = _; simp [hl]
  clear hx
  have hc' : ∀ o, (w.alloc o).cell? (ad.add at0) = some (.int .u64 xs[at0]) := fun o => by rw [World.cell?_alloc_lt _ _ _ (by rw [block_of_add]; omega)]; exact hc
  clear hxl hc hr
  go_enter Try.func14, Try.ntmps14
  go_wp2_with (go_at_call 31; refine (stretches_any _ _ _ _ _ _ 1 _ [↑at0] _ (by omega) (by omega) (reads_new w [.int .i64 at0] 3 1 1 rfl) (by omega) (by simp; omega)).mono ?_; rw [HS.out]; rintro e w' ⟨rfl, rfl⟩)
  go_ret2
  exact ⟨(Below.refl _ _).alloc (Nat.le_refl _) _, by rw [HG.out]; rfl⟩

/-- word.Move: what it answers. -/
def moveE (len from_ to n : Int) : Int := if 256 < len then 2 else stretchF len n [from_, to]
def moveL (a : List Int) (from_ to n : Nat) : List Int := splice a to ((a.drop from_).take n)

theorem moveE_cases (len from_ to n : Int) : moveE len from_ to n = 0 ∨ moveE len from_ to n = 2 ∨ moveE len from_ to n = 4 := by
  unfold moveE
  split
  · exact .inr (.inl rfl)
  · rcases stretchF_cases len n [from_, to] with h | h
    · exact .inl h
    · exact .inr (.inr h)

theorem moveE_ok {len from_ to n : Int} : moveE len from_ to n = 0 ↔ len ≤ 256 ∧ 0 ≤ n ∧ 0 ≤ from_ ∧ n ≤ len - from_ ∧ 0 ≤ to ∧ n ≤ len - to := by
  unfold moveE
  split
  · constructor
    · intro h; cases h
    · omega
  · simp only [stretchF]
    split
    · constructor
      · intro h; cases h
      · omega
    · split
      · constructor
        · intro h; cases h
        · omega
      · constructor
        · intro _; omega
        · intro _; rfl

set_option maxHeartbeats 400000 in
theorem move_bad (A : Option Addr) (n c : Nat) (from_ to k : Int) (w : World)
    (hf : -9223372036854775808 ≤ from_ ∧ from_ ≤ 9223372036854775807) (ht : -9223372036854775808 ≤ to ∧ to ≤ 9223372036854775807) (hk : -9223372036854775808 ≤ k ∧ k ≤ 9223372036854775807) (hbad : moveE n from_ to k ≠ 0) :
    Calls Try.prog 12 #[.slice A n c, .int .i64 from_, .int .i64 to, .int .i64 k] w fun e w' => Below w.heap.size w w' ∧ e = .returned (.tuple #[.slice none 0 0, .int .i64 (moveE n from_ to k)]) := by
  by_cases hbig : 256 < n
  · have hE : moveE n from_ to k = 2 := by unfold moveE; rw [if_pos (by omega)]
    rw [hE]
    clear hbad hE
    go_enter Try.func12, Try.ntmps12
    go_wp2_with (go_at_call 31; refine (stretches_big _ _ _ _ _ _ hbig).mono ?_; rintro e w' ⟨rfl, rfl⟩)
    go_ret2
    exact ⟨(Below.refl _ _).alloc (Nat.le_refl _) _, rfl⟩
  · have hE : moveE n from_ to k = 4 := by
      rcases moveE_cases n from_ to k with h | h | h
      · exact absurd h hbad
      · unfold moveE at h
        rw [if_neg (by omega)] at h
        rcases stretchF_cases n k [from_, to] with h' | h' <;> rw [h'] at h <;> cases h
      · exact h
    have hS : stretchF n k [from_, to] = 4 := by unfold moveE at hE; rwa [if_neg (by omega)] at hE
    rw [hE]
    have HS := Lib.hid hS
    clear hbad hE hS
    go_enter Try.func12, Try.ntmps12
    go_wp2_with (go_at_call 31; refine (stretches_any _ _ _ _ _ _ 2 _ [from_, to] _ (by omega) (by omega) (reads_new w [.int .i64 from_, .int .i64 to] 3 2 1 rfl) hk (by simpa using ⟨hf, ht⟩)).mono ?_; rw [HS.out]; rintro e w' ⟨rfl, rfl⟩)
    go_ret2
    exact ⟨(Below.refl _ _).alloc (Nat.le_refl _) _, rfl⟩

set_option maxHeartbeats 400000 in
theorem move_ok (A : Option Addr) (n c B : Nat) (xs : List Int) (from_ to k : Int) (w : World) (hr : Reads w B 1 A n (xs.map (.int .u64))) (hnc : n ≤ c) (hc : c ≤ 9223372036854775807) (hB : B ≤ w.heap.size) (hok : moveE n from_ to k = 0) :
    Calls Try.prog 12 #[.slice A n c, .int .i64 from_, .int .i64 to, .int .i64 k] w fun e w' => Below w.heap.size w w' ∧
      ∃ A' c', e = .returned (.tuple #[.slice A' n c', .int .i64 0]) ∧ w'.ownsRow w.heap.size 27 1 (.slice A' n c') n ((moveL xs from_.toNat to.toNat k.toNat).map (.int .u64)) := by
  obtain ⟨h1, h2, h3, h4, h5, h6⟩ := moveE_ok.1 hok
  have hS : stretchF n k [from_, to] = 0 := by unfold moveE at hok; rwa [if_neg (by omega)] at hok
  have HS := Lib.hid hS
  clear hok hS
  obtain ⟨from0, rfl⟩ := Int.eq_ofNat_of_zero_le h3
  obtain ⟨to0, rfl⟩ := Int.eq_ofNat_of_zero_le h5
  obtain ⟨k0, rfl⟩ := Int.eq_ofNat_of_zero_le h2
  have hxl : xs.length = n := by have := hr.1; simpa using this
  have HX := Lib.hid hxl
  clear hxl
  by_cases hk0 : 0 < k0
  · have hne : ¬ c = from0 := by omega
    obtain ⟨ad, rfl, had, hcells⟩ := hr.2 (by omega)
    have HC := Lib.hid hcells
    clear hcells
    go_enter Try.func12, Try.ntmps12
    go_wp2_with (first
      | (go_at_call 31; refine (stretches_any _ _ _ _ _ _ 2 _ [↑from0, ↑to0] _ (by omega) (by omega) (reads_new w [.int .i64 from0, .int .i64 to0] 3 2 1 rfl) (by omega) (by simp; omega)).mono ?_; rw [HS.out]; rintro e w' ⟨rfl, rfl⟩)
      | (go_at_call 32; refine (clone_u64 _ _ _ _ _ _ (hr.alloc hB _) (by simp; omega) (u64s_one _) (by omega)).mono ?_; rintro e w1 ⟨A', c', rfl, hown, hb⟩))
    obtain ⟨g, cap, hv, hg, -⟩ := hown.form (by omega)
    obtain ⟨rfl, rfl⟩ : A' = some ⟨g, 0, none⟩ ∧ c' = cap := by simpa using hv
    clear hv
    obtain ⟨cur, hg1, hg2, hg3, hg4, hg5, hg6⟩ := own_open hown
    have hne2 : ¬ c' = to0 := by omega
    have e1 : IntKind.i64.wrap ((to0 : Int) + k0) = (to0 : Int) + k0 := IntWalk.i64_in _ (by omega)
    have e2 : ((to0 : Int) + k0).toNat = to0 + k0 := by omega
    have e3 : 0 ≤ (to0 : Int) + k0 := by omega
    have e4 : (to0 : Int) + k0 ≤ c' := by omega
    have e5 : IntKind.i64.wrap ((from0 : Int) + k0) = (from0 : Int) + k0 := IntWalk.i64_in _ (by omega)
    have e6 : ((from0 : Int) + k0).toNat = from0 + k0 := by omega
    have e7 : 0 ≤ (from0 : Int) + k0 := by omega
    have e8 : (from0 : Int) + k0 ≤ c := by omega
    obtain ⟨cs, hcs⟩ : ∃ cs, cs = ((xs.drop from0).take k0).map (Value.int .u64) := ⟨_, rfl⟩
    have hcl : Hid (cs.length = k0) := by show _ = _; rw [hcs]; simp [HX.out]; omega
    have hc1 : ∀ u ∈ cs, u.oneCell' = true := by rw [hcs]; exact u64s_one _
    have hsrc : ∀ j v, cs[j]? = some v → w1.drew.cell? ((ad.add from0).add j) = some v := by
      intro j v hv
      have hj : j < k0 := by
        have := (List.getElem?_eq_some_iff.1 hv).1
        rw [hcl.out] at this; exact this
      rw [hcs, List.getElem?_map, List.getElem?_take, if_pos hj, List.getElem?_drop] at hv
      rw [add_of_add]
      show w1.cell? _ = _
      have hbl : (ad.add (from0 + j)).block < w.heap.size := by rw [block_of_add]; omega
      rw [hb.cell (p := ad.add (from0 + j)) (by simp; omega), World.cell?_alloc_lt _ _ _ hbl]
      exact HC.out _ _ (by rw [List.getElem?_map]; exact hv)
    have HCS := Lib.hid hcs
    have HSRC := Lib.hid hsrc
    have HC1 := Lib.hid hc1
    have HB : Hid (Below w.heap.size w w1) := ((Below.refl _ _).alloc (Nat.le_refl _) _).trans (hb.mono (by simp))
    have H5 := Lib.hid hg5
    have H6 := Lib.hid hg6
    clear hcs hsrc hc1 hb hg5 hg6 hown HC
    go_region_law (refine step_copy_splice rfl (.tmp 28) (.tmp 34) 22 22 rfl 27 Try.underlying22 size_u64 (some ⟨g, to0, none⟩) (some (ad.add from0)) k0 (c' - to0) k0 (c - from0) (by simp [Act.eval, Act.put]) (by simp [Act.eval, Act.put]) g to0 cur 27 hg2 cs (by rw [hcl.out]; simp) (fun _ => ⟨rfl, _, rfl, HSRC.out⟩) (by rw [hcl.out, H5.out]; omega) HC1.out w.heap.size w HB.out.drew (by simp at hg1; omega) ?_; intro w4 hh4 hb4)
    go_wp2
    go_ret2
    refine ⟨hb4, some ⟨g, 0, none⟩, c', rfl, ?_⟩
    have hcll := hcl.out
    have h5 := H5.out
    have := own_close (w := w4) (base := w.heap.size) (e := 27) (size := 1) (n := n) (c := c') (g := g) (splice cur to0 cs) (by simp at hg1; omega) hh4.out hg3 hg4 (by rw [length_splice _ _ _ (by omega)]; omega)
    rw [Nat.mul_one, take_splice _ _ _ _ (by omega) (by omega)] at this
    have h6 := H6.out
    rw [Nat.mul_one] at h6
    rw [h6, HCS.out] at this
    simpa [moveL, splice] using this
  · obtain rfl : k0 = 0 := by omega
    have HS : Hid (stretchF n 0 [↑from0, ↑to0] = 0) := HS.out
    have hcz := fun (w : World) (dp sp : Option Addr) (dc sc : Nat) => run_copy_none (P := Try.prog) w 22 22 3 27 dp sp 0 dc 0 sc Try.underlying22 size_u64 rfl
    have e1 : IntKind.i64.wrap (to0 : Int) = (to0 : Int) := IntWalk.i64_in _ (by omega)
    have e5 : IntKind.i64.wrap (from0 : Int) = (from0 : Int) := IntWalk.i64_in _ (by omega)
    have e8 : (from0 : Int) ≤ c := by omega
    go_enter Try.func12, Try.ntmps12
    go_wp2_with (first
      | (go_at_call 31; refine (stretches_any _ _ _ _ _ _ 2 _ [↑from0, ↑to0] _ (by omega) (by omega) (reads_new w [.int .i64 from0, .int .i64 to0] 3 2 1 rfl) (by omega) (by simp; omega)).mono ?_; rw [HS.out]; rintro e w' ⟨rfl, rfl⟩)
      | (go_at_call 32; refine (clone_u64 _ _ _ _ _ _ (hr.alloc hB _) (by simp; omega) (u64s_one _) (by omega)).mono ?_; rintro e w1 ⟨A', c', rfl, hown, hb⟩))
    have e4 : (to0 : Int) ≤ c' := by have := own_cap hown; omega
    have HB : Hid (Below w.heap.size w w1.drew) := (((Below.refl _ _).alloc (Nat.le_refl _) _).trans (hb.mono (by simp))).drew
    have HO : Hid (w1.drew.ownsRow w.heap.size 27 1 (.slice A' n c') n ((moveL xs from0 to0 0).map (.int .u64))) := by
      have h := own_mono (base := w.heap.size) hown (by simp)
      have e : moveL xs from0 to0 0 = xs := by simp [moveL, splice]
      rw [e]
      exact h.drew
    clear hb hown
    by_cases hc1 : c' = to0
    all_goals by_cases hc2 : c = from0
    all_goals try subst hc1
    all_goals try subst hc2
    all_goals go_region
    all_goals
      go_wp2
      go_ret2
      exact ⟨HB.out, A', _, rfl, HO.out⟩
end Go.Proofs.Ytdanffkcgogalaa
