/-
  Texts joined: Word JoinLaw TintDefs Bits Head.
-/
import Derived.Test.YtammailnbgojgabRows
import Derived.WalkKit
import Derived.Test.YtammailnbgojgabG0
/-
  package word: contracts of its functions.
-/
namespace Go.Proofs.Ytammailnbgojgab
open Go.RowKit

def stretchF (len n : Int) : List Int → Int
  | [] => 0
  | k :: r => if n < 0 ∨ k < 0 ∨ len < k ∨ len - k < n then 4 else stretchF len n r

set_option maxHeartbeats 400000 in
theorem stretches_big (A : Option Addr) (n c : Nat) (k : Int) (v : Value) (w : World) (hn : 256 < n) :
    Calls Try.prog 63 #[.slice A n c, .int .i64 k, v] w fun e w' => e = .returned (.int .i64 2) ∧ w = w' := by
  go_enter Try.func63, Try.ntmps63
  go_wp2
  go_ret
  exact ⟨rfl, rfl⟩

set_option maxHeartbeats 400000 in
theorem stretches_any (A : Option Addr) (n c : Nat) (k : Int) (B : Nat) (A2 : Option Addr) (m c2 : Nat) (ats : List Int) (w : World) (hn : n ≤ 256) (hm : m ≤ 1000) (hr : Reads w B 1 A2 m (ats.map (.int .i64)))
    (hk : -9223372036854775808 ≤ k ∧ k ≤ 9223372036854775807) (ha : ∀ x ∈ ats, -9223372036854775808 ≤ x ∧ x ≤ 9223372036854775807) :
    Calls Try.prog 63 #[.slice A n c, .int .i64 k, .slice A2 m c2] w fun e w' => e = .returned (.int .i64 (stretchF n k ats)) ∧ w = w' := by
  go_enter Try.func63, Try.ntmps63
  go_wp2
  go_loop [14] (fun i => ∃ j : Nat, j ≤ m ∧ i = .int .i64 j ∧ stretchF n k (ats.drop j) = stretchF n k ats) (fun i => m - (intOf i).toNat)
  case atStart => exact ⟨0, Nat.zero_le _, rfl, rfl⟩
  case round =>
    obtain ⟨j, hj, rfl, hs⟩ := hrel
    have HS := Lib.hid hs
    clear hs
    by_cases hlt : j < m
    · have hl : j < ats.length := by have := hr.1; simp at this; omega
      obtain ⟨ad, u, hA2, _, hx, hc⟩ := hr.at_ hlt
      subst hA2
      have hu : u = .int .i64 ats[j] := by
        rw [List.getElem?_map, List.getElem?_eq_getElem hl] at hx
        simpa using hx.symm
      subst hu
      clear hx
      have hb := ha _ (List.getElem_mem hl)
      have hd : ats.drop j = ats[j] :: ats.drop (j + 1) := List.drop_eq_getElem_cons hl
      have HD := Lib.hid hd
      clear hd
      by_cases hbad : k < 0 ∨ ats[j] < 0 ∨ (n : Int) < ats[j] ∨ (n : Int) - ats[j] < k
      · go_wp2
        all_goals
          go_ret
          exact ⟨ret_int (by rw [← HS.out, HD.out, stretchF, if_pos hbad]), rfl⟩
      · have h1 : 0 ≤ k := by omega
        have h2 : 0 ≤ ats[j] := by omega
        have h3 : ats[j] ≤ (n : Int) := by omega
        have h4 : k ≤ (n : Int) - ats[j] := by omega
        clear hbad
        go_wp2
        go_round
        case rel => exact ⟨j + 1, by omega, by go_num, by rw [← HS.out, HD.out, stretchF, if_neg (by omega)]⟩
        case measure => simp [intOf]; omega
    · go_wp2
      go_ret
      have : j = m := by omega
      subst this
      exact ⟨ret_int (by rw [← HS.out, List.drop_of_length_le (by have := hr.1; simp at this; omega)]; rfl), rfl⟩

theorem size_u64 : (Try.prog.info? 47).map (·.size) = some 1 := by kernel_rfl
theorem info_u64 : (Try.prog.info? 47).map (fun i => (i.zero, i.size, i.bytes)) = some (some (.int .u64 0), 1, 8) := by kernel_rfl

set_option maxHeartbeats 400000 in
theorem clone_u64 (A : Option Addr) (n c B : Nat) (xs : List Value) (w : World) (hr : Reads w B 1 A n xs) (hB : B ≤ w.heap.size) (h1 : ∀ u ∈ xs, u.oneCell' = true) (hn : n * 8 ≤ 140737488355328) :
    Calls Try.prog 22 #[.slice A n c] w fun e w' => ∃ A' c', e = .returned (.slice A' n c') ∧ w'.ownsRow w.heap.size 47 1 (.slice A' n c') n xs ∧ Below w.heap.size w w' := by
  obtain ⟨i0, hi, hz0, hz1, hz2⟩ := info_parts info_u64
  rcases A with _ | ad
  · have hm : n = 0 := by
      rcases Nat.eq_zero_or_pos n with h0 | h0
      · exact h0
      · obtain ⟨ad, h, _⟩ := hr.2 h0
        cases h
    subst hm
    have hx : xs = [] := List.eq_nil_of_length_eq_zero (by simpa using hr.1)
    subst hx
    have hnil := fun (w : World) => Lib.run_eql_slice_nil (P := Try.prog) w 22 47 none 0 c 0 0 Try.underlying22
    go_enter Try.func22, Try.ntmps22
    go_wp2
    go_ret
    exact ⟨none, 0, rfl, World.ownsRow_nil _ _ _ _, Below.refl _ _⟩
  · have hnil := fun (w : World) => Lib.run_eql_slice_nil (P := Try.prog) w 22 47 (some ad) n c 0 0 Try.underlying22
    have hmade := World.ownsRow_made (e := 47) (size := 1) w #[] 0 (Nat.le_refl w.heap.size) (Nat.zero_le _) rfl
    go_enter Try.func22, Try.ntmps22
    go_wp2_with (at_builtin; refine wpList_append_any _ rfl (.tmp 5) (.tmp 6) 22 rfl w.heap.size 47 i0 (.int .u64 0) 1 8 Try.underlying22 hi hz0 hz1 hz2 rfl (by decide) (.slice (some ⟨w.heap.size, 0, none⟩) 0 0) 0 [] rfl hmade B (some ad) n c xs rfl (hr.alloc hB _) h1 (by simp [maxLen]; omega) (by simpa using hn) (by simp) ?_; rintro v' w1 hown hgr hbl -; obtain ⟨A', c', rfl⟩ := own_slice hown)
    go_ret
    exact ⟨A', c', rfl, by simpa using hown, ((Below.refl _ _).alloc (Nat.le_refl _) _).grown hgr (by simp) (by simp [Value.ownBlock])⟩
theorem u64s_one (l : List Int) : ∀ u ∈ l.map (Value.int .u64), u.oneCell' = true := by
  intro u hu
  obtain ⟨x, _, rfl⟩ := List.mem_map.1 hu
  rfl


/-- word.Fill: what it answers. -/
def fillE (len at_ n : Int) : Int := if 256 < len then 2 else stretchF len n [at_]
def fillL (a : List Int) (at_ n : Nat) (v : Int) : List Int := a.take at_ ++ List.replicate n v ++ a.drop (at_ + n)

theorem stretchF_cases (len n : Int) (l : List Int) : stretchF len n l = 0 ∨ stretchF len n l = 4 := by
  induction l with
  | nil => exact .inl rfl
  | cons k r ih =>
    unfold stretchF
    split
    · exact .inr rfl
    · exact ih

theorem fillE_cases (len at_ n : Int) : fillE len at_ n = 0 ∨ fillE len at_ n = 2 ∨ fillE len at_ n = 4 := by
  unfold fillE
  split
  · exact .inr (.inl rfl)
  · rcases stretchF_cases len n [at_] with h | h
    · exact .inl h
    · exact .inr (.inr h)

theorem fillE_ok {len at_ n : Int} : fillE len at_ n = 0 ↔ len ≤ 256 ∧ 0 ≤ n ∧ 0 ≤ at_ ∧ at_ ≤ len ∧ n ≤ len - at_ := by
  unfold fillE
  split
  · constructor
    · intro h; cases h
    · omega
  · simp only [stretchF]
    split
    · constructor
      · intro h; cases h
      · omega
    · constructor
      · intro _; omega
      · intro _; rfl

theorem fillL_length (a : List Int) (at_ n : Nat) (v : Int) (h : at_ + n ≤ a.length) : (fillL a at_ n v).length = a.length := by
  simp [fillL]; omega

theorem fillL_zero (a : List Int) (at_ : Nat) (v : Int) : fillL a at_ 0 v = a := by simp [fillL]

theorem fillL_succ (a : List Int) (at_ n : Nat) (v : Int) (h : at_ + n < a.length) : (fillL a at_ n v).set (at_ + n) v = fillL a at_ (n + 1) v := by
  have hl : (a.take at_ ++ List.replicate n v).length = at_ + n := by simp; omega
  have hd : a.drop (at_ + n) = a[at_ + n] :: a.drop (at_ + n + 1) := List.drop_eq_getElem_cons h
  unfold fillL
  rw [hd, List.set_append_right _ _ (by omega), hl, Nat.sub_self, List.set_cons_zero, List.replicate_succ', ← Nat.add_assoc]
  simp

set_option maxHeartbeats 400000 in
theorem fill_bad (A : Option Addr) (n c B : Nat) (at_ k v : Int) (w : World)
    (ha : -9223372036854775808 ≤ at_ ∧ at_ ≤ 9223372036854775807) (hk : -9223372036854775808 ≤ k ∧ k ≤ 9223372036854775807) (hbad : fillE n at_ k ≠ 0) :
    Calls Try.prog 24 #[.slice A n c, .int .i64 at_, .int .i64 k, .int .u64 v] w fun e w' => Below w.heap.size w w' ∧ e = .returned (.tuple #[.slice none 0 0, .int .i64 (fillE n at_ k)]) := by
  by_cases hbig : 256 < n
  · have hE : fillE n at_ k = 2 := by unfold fillE; rw [if_pos (by omega)]
    rw [hE]
    clear hbad hE
    go_enter Try.func24, Try.ntmps24
    go_wp2_with (go_at_call 63; refine (stretches_big _ _ _ _ _ _ hbig).mono ?_; rintro e w' ⟨rfl, rfl⟩)
    go_ret2
    exact ⟨(Below.refl _ _).alloc (Nat.le_refl _) _, rfl⟩
  · have hE : fillE n at_ k = 4 := by
      rcases fillE_cases n at_ k with h | h | h
      · exact absurd h hbad
      · unfold fillE at h
        rw [if_neg (by omega)] at h
        rcases stretchF_cases n k [at_] with h' | h' <;> rw [h'] at h <;> cases h
      · exact h
    have hS : stretchF n k [at_] = 4 := by unfold fillE at hE; rwa [if_neg (by omega)] at hE
    rw [hE]
    have HS := Lib.hid hS
    clear hbad hE hS
    go_enter Try.func24, Try.ntmps24
    go_wp2_with (go_at_call 63; refine (stretches_any _ _ _ _ _ _ 1 _ [at_] _ (by omega) (by omega) (reads_new w [.int .i64 at_] 3 1 1 rfl) hk (by simpa using ha)).mono ?_; rw [HS.out]; rintro e w' ⟨rfl, rfl⟩)
    go_ret2
    exact ⟨(Below.refl _ _).alloc (Nat.le_refl _) _, rfl⟩

set_option maxHeartbeats 400000 in
theorem fill_ok (A : Option Addr) (n c B : Nat) (xs : List Int) (at_ k v : Int) (w : World) (hr : Reads w B 1 A n (xs.map (.int .u64))) (hB : B ≤ w.heap.size) (hok : fillE n at_ k = 0) :
    Calls Try.prog 24 #[.slice A n c, .int .i64 at_, .int .i64 k, .int .u64 v] w fun e w' => Below w.heap.size w w' ∧
      ∃ A' c', e = .returned (.tuple #[.slice A' n c', .int .i64 0]) ∧ w'.ownsRow w.heap.size 47 1 (.slice A' n c') n ((fillL xs at_.toNat k.toNat v).map (.int .u64)) := by
  obtain ⟨h1, h2, h3, h4, h5⟩ := fillE_ok.1 hok
  have hS : stretchF n k [at_] = 0 := by unfold fillE at hok; rwa [if_neg (by omega)] at hok
  have HS := Lib.hid hS
  clear hok hS
  obtain ⟨at0, rfl⟩ := Int.eq_ofNat_of_zero_le h3
  obtain ⟨k0, rfl⟩ := Int.eq_ofNat_of_zero_le h2
  have hxl : xs.length = n := by have := hr.1; simpa using this
  have HX := Lib.hid hxl
  clear hxl
  go_enter Try.func24, Try.ntmps24
  go_wp2_with (first
    | (go_at_call 63; refine (stretches_any _ _ _ _ _ _ 1 _ [↑at0] _ (by omega) (by omega) (reads_new w [.int .i64 at0] 3 1 1 rfl) (by omega) (by simp; omega)).mono ?_; rw [HS.out]; rintro e w' ⟨rfl, rfl⟩)
    | (go_at_call 22; refine (clone_u64 _ _ _ _ _ _ (hr.alloc hB _) (by simp; omega) (u64s_one _) (by omega)).mono ?_; rintro e w1 ⟨A', c', rfl, hown, hb⟩))
  go_loopw [24] (fun i wr => ∃ j : Nat, j ≤ k0 ∧ i = .int .i64 j ∧ wr.ownsRow w.heap.size 47 1 (.slice A' n c') n ((fillL xs at0 j v).map (.int .u64)) ∧ Below w.heap.size w wr) (fun i _ => k0 - (intOf i).toNat)
  case atStart => exact ⟨0, Nat.zero_le _, rfl, by rw [fillL_zero]; exact (own_mono hown (by simp)), ((Below.refl _ _).alloc (Nat.le_refl _) _).trans (hb.mono (by simp))⟩
  case round =>
    obtain ⟨j, hj, rfl, hown1, hb1⟩ := hrel
    by_cases hlt : j < k0
    · obtain ⟨g, cap, hv, hg, -⟩ := hown1.form (by omega)
      obtain ⟨rfl, -, rfl⟩ : A' = some ⟨g, 0, none⟩ ∧ n = n ∧ c' = cap := by simpa using hv
      have hcell := hown1.cellAt (at0 + j) (by omega)
      have hfl := fillL_length xs at0 j v (by rw [HX.out]; omega)
      rw [List.getElem?_eq_getElem (by simp [hfl, HX.out]; omega)] at hcell
      generalize ((fillL xs at0 j v).map (Value.int .u64))[at0 + j]'_ = u0 at hcell
      have hfr := hown1.frozenAt (at0 + j)
      clear hfl
      go_wp2
      go_roundw
      case rel => exact ⟨j + 1, by omega, by go_num, by rw [← fillL_succ _ _ _ _ (by rw [HX.out]; omega), List.map_set]; exact (hown1.stored (at0 + j) (.int .u64 v)).1, hb1.setCell (p := ⟨g, at0 + j, none⟩) (hown1.lt g rfl).1 _⟩
      case measure => simp [intOf]; omega
    · have hjk : j = k0 := by omega
      subst hjk
      go_wp2
      go_ret2
      exact ⟨hb1, A', c', rfl, hown1⟩

set_option maxHeartbeats 400000 in
theorem load_bad (A : Option Addr) (n c : Nat) (at_ : Int) (w : World) (ha : -9223372036854775808 ≤ at_ ∧ at_ ≤ 9223372036854775807) (hbad : fillE n at_ 1 ≠ 0) :
    Calls Try.prog 62 #[.slice A n c, .int .i64 at_] w fun e w' => Below w.heap.size w w' ∧ e = .returned (.tuple #[.int .u64 0, .int .i64 (fillE n at_ 1)]) := by
  by_cases hbig : 256 < n
  · have hE : fillE n at_ 1 = 2 := by unfold fillE; rw [if_pos (by omega)]
    rw [hE]
    clear hbad hE
    go_enter Try.func62, Try.ntmps62
    go_wp2_with (go_at_call 63; refine (stretches_big _ _ _ _ _ _ hbig).mono ?_; rintro e w' ⟨rfl, rfl⟩)
    go_ret2
    exact ⟨(Below.refl _ _).alloc (Nat.le_refl _) _, rfl⟩
  · have hE : fillE n at_ 1 = 4 := by
      rcases fillE_cases n at_ 1 with h | h | h
      · exact absurd h hbad
      · unfold fillE at h
        rw [if_neg (by omega)] at h
        rcases stretchF_cases n 1 [at_] with h' | h' <;> rw [h'] at h <;> cases h
      · exact h
    have hS : stretchF n 1 [at_] = 4 := by unfold fillE at hE; rwa [if_neg (by omega)] at hE
    rw [hE]
    have HS := Lib.hid hS
    clear hbad hE hS
    go_enter Try.func62, Try.ntmps62
    go_wp2_with (go_at_call 63; refine (stretches_any _ _ _ _ _ _ 1 _ [at_] _ (by omega) (by omega) (reads_new w [.int .i64 at_] 3 1 1 rfl) (by omega) (by simpa using ha)).mono ?_; rw [HS.out]; rintro e w' ⟨rfl, rfl⟩)
    go_ret2
    exact ⟨(Below.refl _ _).alloc (Nat.le_refl _) _, rfl⟩

set_option maxHeartbeats 400000 in
theorem load_ok (A : Option Addr) (n c B : Nat) (xs : List Int) (at_ : Int) (w : World) (hr : Reads w B 1 A n (xs.map (.int .u64))) (hB : B ≤ w.heap.size) (hok : fillE n at_ 1 = 0) :
    Calls Try.prog 62 #[.slice A n c, .int .i64 at_] w fun e w' => Below w.heap.size w w' ∧ e = .returned (.tuple #[.int .u64 (xs.getD at_.toNat 0), .int .i64 0]) := by
  obtain ⟨h1, h2, h3, h4, h5⟩ := fillE_ok.1 hok
  have hS : stretchF n 1 [at_] = 0 := by unfold fillE at hok; rwa [if_neg (by omega)] at hok
  have HS := Lib.hid hS
  clear hok hS
  obtain ⟨at0, rfl⟩ := Int.eq_ofNat_of_zero_le h3
  have hxl : xs.length = n := by have := hr.1; simpa using this
  obtain ⟨ad, u, rfl, hb, hx, hc⟩ := hr.at_ (k := at0) (by omega)
  have hl : at0 < xs.length := by omega
  rw [List.getElem?_map, List.getElem?_eq_getElem hl] at hx
  have hu : u = .int .u64 xs[at0] := by simpa using hx.symm
  subst hu
  have HG : Hid (xs.getD ((at0 : Int)).toNat 0 = xs[at0]) := by show _ = _; simp [hl]
  clear hx
  have hc' : ∀ o, (w.alloc o).cell? (ad.add at0) = some (.int .u64 xs[at0]) := fun o => by rw [World.cell?_alloc_lt _ _ _ (by rw [block_of_add]; omega)]; exact hc
  clear hxl hc hr
  go_enter Try.func62, Try.ntmps62
  go_wp2_with (go_at_call 63; refine (stretches_any _ _ _ _ _ _ 1 _ [↑at0] _ (by omega) (by omega) (reads_new w [.int .i64 at0] 3 1 1 rfl) (by omega) (by simp; omega)).mono ?_; rw [HS.out]; rintro e w' ⟨rfl, rfl⟩)
  go_ret2
  exact ⟨(Below.refl _ _).alloc (Nat.le_refl _) _, by rw [HG.out]; rfl⟩

/-- word.Move: what it answers. -/
def moveE (len from_ to n : Int) : Int := if 256 < len then 2 else stretchF len n [from_, to]
def moveL (a : List Int) (from_ to n : Nat) : List Int := splice a to ((a.drop from_).take n)

theorem moveE_cases (len from_ to n : Int) : moveE len from_ to n = 0 ∨ moveE len from_ to n = 2 ∨ moveE len from_ to n = 4 := by
  unfold moveE
  split
  · exact .inr (.inl rfl)
  · rcases stretchF_cases len n [from_, to] with h | h
    · exact .inl h
    · exact .inr (.inr h)

theorem moveE_ok {len from_ to n : Int} : moveE len from_ to n = 0 ↔ len ≤ 256 ∧ 0 ≤ n ∧ 0 ≤ from_ ∧ n ≤ len - from_ ∧ 0 ≤ to ∧ n ≤ len - to := by
  unfold moveE
  split
  · constructor
    · intro h; cases h
    · omega
  · simp only [stretchF]
    split
    · constructor
      · intro h; cases h
      · omega
    · split
      · constructor
        · intro h; cases h
        · omega
      · constructor
        · intro _; omega
        · intro _; rfl

set_option maxHeartbeats 400000 in
theorem move_bad (A : Option Addr) (n c : Nat) (from_ to k : Int) (w : World)
    (hf : -9223372036854775808 ≤ from_ ∧ from_ ≤ 9223372036854775807) (ht : -9223372036854775808 ≤ to ∧ to ≤ 9223372036854775807) (hk : -9223372036854775808 ≤ k ∧ k ≤ 9223372036854775807) (hbad : moveE n from_ to k ≠ 0) :
    Calls Try.prog 23 #[.slice A n c, .int .i64 from_, .int .i64 to, .int .i64 k] w fun e w' => Below w.heap.size w w' ∧ e = .returned (.tuple #[.slice none 0 0, .int .i64 (moveE n from_ to k)]) := by
  by_cases hbig : 256 < n
  · have hE : moveE n from_ to k = 2 := by unfold moveE; rw [if_pos (by omega)]
    rw [hE]
    clear hbad hE
    go_enter Try.func23, Try.ntmps23
    go_wp2_with (go_at_call 63; refine (stretches_big _ _ _ _ _ _ hbig).mono ?_; rintro e w' ⟨rfl, rfl⟩)
    go_ret2
    exact ⟨(Below.refl _ _).alloc (Nat.le_refl _) _, rfl⟩
  · have hE : moveE n from_ to k = 4 := by
      rcases moveE_cases n from_ to k with h | h | h
      · exact absurd h hbad
      · unfold moveE at h
        rw [if_neg (by omega)] at h
        rcases stretchF_cases n k [from_, to] with h' | h' <;> rw [h'] at h <;> cases h
      · exact h
    have hS : stretchF n k [from_, to] = 4 := by unfold moveE at hE; rwa [if_neg (by omega)] at hE
    rw [hE]
    have HS := Lib.hid hS
    clear hbad hE hS
    go_enter Try.func23, Try.ntmps23
    go_wp2_with (go_at_call 63; refine (stretches_any _ _ _ _ _ _ 2 _ [from_, to] _ (by omega) (by omega) (reads_new w [.int .i64 from_, .int .i64 to] 3 2 1 rfl) hk (by simpa using ⟨hf, ht⟩)).mono ?_; rw [HS.out]; rintro e w' ⟨rfl, rfl⟩)
    go_ret2
    exact ⟨(Below.refl _ _).alloc (Nat.le_refl _) _, rfl⟩

set_option maxHeartbeats 400000 in
theorem move_ok (A : Option Addr) (n c B : Nat) (xs : List Int) (from_ to k : Int) (w : World) (hr : Reads w B 1 A n (xs.map (.int .u64))) (hnc : n ≤ c) (hc : c ≤ 9223372036854775807) (hB : B ≤ w.heap.size) (hok : moveE n from_ to k = 0) :
    Calls Try.prog 23 #[.slice A n c, .int .i64 from_, .int .i64 to, .int .i64 k] w fun e w' => Below w.heap.size w w' ∧
      ∃ A' c', e = .returned (.tuple #[.slice A' n c', .int .i64 0]) ∧ w'.ownsRow w.heap.size 47 1 (.slice A' n c') n ((moveL xs from_.toNat to.toNat k.toNat).map (.int .u64)) := by
  obtain ⟨h1, h2, h3, h4, h5, h6⟩ := moveE_ok.1 hok
  have hS : stretchF n k [from_, to] = 0 := by unfold moveE at hok; rwa [if_neg (by omega)] at hok
  have HS := Lib.hid hS
  clear hok hS
  obtain ⟨from0, rfl⟩ := Int.eq_ofNat_of_zero_le h3
  obtain ⟨to0, rfl⟩ := Int.eq_ofNat_of_zero_le h5
  obtain ⟨k0, rfl⟩ := Int.eq_ofNat_of_zero_le h2
  have hxl : xs.length = n := by have := hr.1; simpa using this
  have HX := Lib.hid hxl
  clear hxl
  by_cases hk0 : 0 < k0
  · have hne : ¬ c = from0 := by omega
    obtain ⟨ad, rfl, had, hcells⟩ := hr.2 (by omega)
    have HC := Lib.hid hcells
    clear hcells
    go_enter Try.func23, Try.ntmps23
    go_wp2_with (first
      | (go_at_call 63; refine (stretches_any _ _ _ _ _ _ 2 _ [↑from0, ↑to0] _ (by omega) (by omega) (reads_new w [.int .i64 from0, .int .i64 to0] 3 2 1 rfl) (by omega) (by simp; omega)).mono ?_; rw [HS.out]; rintro e w' ⟨rfl, rfl⟩)
      | (go_at_call 22; refine (clone_u64 _ _ _ _ _ _ (hr.alloc hB _) (by simp; omega) (u64s_one _) (by omega)).mono ?_; rintro e w1 ⟨A', c', rfl, hown, hb⟩))
    obtain ⟨g, cap, hv, hg, -⟩ := hown.form (by omega)
    obtain ⟨rfl, rfl⟩ : A' = some ⟨g, 0, none⟩ ∧ c' = cap := by simpa using hv
    clear hv
    obtain ⟨cur, hg1, hg2, hg3, hg4, hg5, hg6⟩ := own_open hown
    have hne2 : ¬ c' = to0 := by omega
    have e1 : IntKind.i64.wrap ((to0 : Int) + k0) = (to0 : Int) + k0 := IntWalk.i64_in _ (by omega)
    have e2 : ((to0 : Int) + k0).toNat = to0 + k0 := by omega
    have e3 : 0 ≤ (to0 : Int) + k0 := by omega
    have e4 : (to0 : Int) + k0 ≤ c' := by omega
    have e5 : IntKind.i64.wrap ((from0 : Int) + k0) = (from0 : Int) + k0 := IntWalk.i64_in _ (by omega)
    have e6 : ((from0 : Int) + k0).toNat = from0 + k0 := by omega
    have e7 : 0 ≤ (from0 : Int) + k0 := by omega
    have e8 : (from0 : Int) + k0 ≤ c := by omega
    obtain ⟨cs, hcs⟩ : ∃ cs, cs = ((xs.drop from0).take k0).map (Value.int .u64) := ⟨_, rfl⟩
    have hcl : Hid (cs.length = k0) := by show _ = _; rw [hcs]; simp [HX.out]; omega
    have hc1 : ∀ u ∈ cs, u.oneCell' = true := by rw [hcs]; exact u64s_one _
    have hsrc : ∀ j v, cs[j]? = some v → w1.drew.cell? ((ad.add from0).add j) = some v := by
      intro j v hv
      have hj : j < k0 := by
        have := (List.getElem?_eq_some_iff.1 hv).1
        rw [hcl.out] at this; exact this
      rw [hcs, List.getElem?_map, List.getElem?_take, if_pos hj, List.getElem?_drop] at hv
      rw [add_of_add]
      show w1.cell? _ = _
      have hbl : (ad.add (from0 + j)).block < w.heap.size := by rw [block_of_add]; omega
      rw [hb.cell (p := ad.add (from0 + j)) (by simp; omega), World.cell?_alloc_lt _ _ _ hbl]
      exact HC.out _ _ (by rw [List.getElem?_map]; exact hv)
    have HCS := Lib.hid hcs
    have HSRC := Lib.hid hsrc
    have HC1 := Lib.hid hc1
    have HB : Hid (Below w.heap.size w w1) := ((Below.refl _ _).alloc (Nat.le_refl _) _).trans (hb.mono (by simp))
    have H5 := Lib.hid hg5
    have H6 := Lib.hid hg6
    clear hcs hsrc hc1 hb hg5 hg6 hown HC
    go_region_law (refine step_copy_splice rfl (.tmp 28) (.tmp 34) 22 22 rfl 47 Try.underlying22 size_u64 (some ⟨g, to0, none⟩) (some (ad.add from0)) k0 (c' - to0) k0 (c - from0) (by simp [Act.eval, Act.put]) (by simp [Act.eval, Act.put]) g to0 cur 47 hg2 cs (by rw [hcl.out]; simp) (fun _ => ⟨rfl, _, rfl, HSRC.out⟩) (by rw [hcl.out, H5.out]; omega) HC1.out w.heap.size w HB.out.drew (by simp at hg1; omega) ?_; intro w4 hh4 hb4)
    go_wp2
    go_ret2
    refine ⟨hb4, some ⟨g, 0, none⟩, c', rfl, ?_⟩
    have hcll := hcl.out
    have h5 := H5.out
    have := own_close (w := w4) (base := w.heap.size) (e := 47) (size := 1) (n := n) (c := c') (g := g) (splice cur to0 cs) (by simp at hg1; omega) hh4.out hg3 hg4 (by rw [length_splice _ _ _ (by omega)]; omega)
    rw [Nat.mul_one, take_splice _ _ _ _ (by omega) (by omega)] at this
    have h6 := H6.out
    rw [Nat.mul_one] at h6
    rw [h6, HCS.out] at this
    simpa [moveL, splice] using this
  · obtain rfl : k0 = 0 := by omega
    have HS : Hid (stretchF n 0 [↑from0, ↑to0] = 0) := HS.out
    have hcz := fun (w : World) (dp sp : Option Addr) (dc sc : Nat) => run_copy_none (P := Try.prog) w 22 22 3 47 dp sp 0 dc 0 sc Try.underlying22 size_u64 rfl
    have e1 : IntKind.i64.wrap (to0 : Int) = (to0 : Int) := IntWalk.i64_in _ (by omega)
    have e5 : IntKind.i64.wrap (from0 : Int) = (from0 : Int) := IntWalk.i64_in _ (by omega)
    have e8 : (from0 : Int) ≤ c := by omega
    go_enter Try.func23, Try.ntmps23
    go_wp2_with (first
      | (go_at_call 63; refine (stretches_any _ _ _ _ _ _ 2 _ [↑from0, ↑to0] _ (by omega) (by omega) (reads_new w [.int .i64 from0, .int .i64 to0] 3 2 1 rfl) (by omega) (by simp; omega)).mono ?_; rw [HS.out]; rintro e w' ⟨rfl, rfl⟩)
      | (go_at_call 22; refine (clone_u64 _ _ _ _ _ _ (hr.alloc hB _) (by simp; omega) (u64s_one _) (by omega)).mono ?_; rintro e w1 ⟨A', c', rfl, hown, hb⟩))
    have e4 : (to0 : Int) ≤ c' := by have := own_cap hown; omega
    have HB : Hid (Below w.heap.size w w1.drew) := (((Below.refl _ _).alloc (Nat.le_refl _) _).trans (hb.mono (by simp))).drew
    have HO : Hid (w1.drew.ownsRow w.heap.size 47 1 (.slice A' n c') n ((moveL xs from0 to0 0).map (.int .u64))) := by
      have h := own_mono (base := w.heap.size) hown (by simp)
      have e : moveL xs from0 to0 0 = xs := by simp [moveL, splice]
      rw [e]
      exact h.drew
    clear hb hown
    by_cases hc1 : c' = to0
    all_goals by_cases hc2 : c = from0
    all_goals try subst hc1
    all_goals try subst hc2
    all_goals go_region
    all_goals
      go_wp2
      go_ret2
      exact ⟨HB.out, A', _, rfl, HO.out⟩
end Go.Proofs.Ytammailnbgojgab

/-
  Plain law: what gap.Join does to an arena. No program stands here.
-/
namespace Go.Proofs.Ytammailnbgojgab
open Go.RowKit

def freeC (p : Nat) : Chk := ⟨0, (p : Int) - 1, 0, true, List.replicate (p - 1) 0⟩
def flushC (p : Nat) : List Chk := if p = 0 then [] else [freeC p]
def joinP : Nat → List Chk → List Chk
  | p, [] => flushC p
  | p, c :: cs => if c.f then joinP (p + c.len) cs else flushC p ++ c :: joinP 0 cs
def flushG (i p : Nat) : List Rn := if p = 0 then [] else [⟨i, p⟩]
def gapsP : Nat → Nat → List Chk → List Rn
  | i, p, [] => flushG (i - p) p
  | i, p, c :: cs => if c.f then gapsP (i + c.len) (p + c.len) cs else flushG (i - p) p ++ gapsP (i + c.len) 0 cs

theorem freeC_len {p : Nat} (h : p ≠ 0) : (freeC p).len = p := by unfold Chk.len freeC; rw [List.length_replicate]; omega
theorem freeC_f (p : Nat) : (freeC p).f = true := rfl
theorem freeC_ok {p : Nat} (h : p ≠ 0) (h2 : p ≤ 256) : (freeC p).ok := by
  refine ⟨headE_ok.2 ?_, ?_⟩
  · unfold freeC; dsimp only; refine ⟨by omega, by omega, by omega, by omega, by omega, by omega, by omega, fun _ => ⟨rfl, rfl⟩⟩
  · unfold freeC; dsimp only; rw [List.length_replicate]; omega
theorem flushC_length (p : Nat) : (chunksW (flushC p)).length = p := by
  unfold flushC
  by_cases h : p = 0
  · rw [if_pos h, h]; rfl
  · rw [if_neg h, chunksW_cons, List.length_append, chkW_length, freeC_len h]; rfl

theorem joinP_length : ∀ (cs : List Chk) (p : Nat), (chunksW (joinP p cs)).length = p + (chunksW cs).length := by
  intro cs
  induction cs with
  | nil => intro p; simp only [joinP]; rw [flushC_length]; rfl
  | cons c cs ih =>
    intro p
    simp only [joinP]
    rw [chunksW_cons, List.length_append, chkW_length]
    split
    · rw [ih]; omega
    · rw [chunksW_append, List.length_append, flushC_length, chunksW_cons, List.length_append, chkW_length, ih]; omega

theorem joinP_mem : ∀ (cs : List Chk) (p : Nat) (d : Chk), d ∈ joinP p cs → (∃ q, q ≠ 0 ∧ q ≤ p + (chunksW cs).length ∧ d = freeC q) ∨ (d ∈ cs ∧ d.f = false) := by
  intro cs
  have hfl : ∀ (p n : Nat) (d : Chk), d ∈ flushC p → ∃ q, q ≠ 0 ∧ q ≤ p + n ∧ d = freeC q := by
    intro p n d h
    unfold flushC at h
    split at h
    · cases h
    · rename_i h0; exact ⟨p, h0, by omega, List.mem_singleton.1 h⟩
  induction cs with
  | nil => intro p d h; exact .inl (hfl p _ d h)
  | cons c cs ih =>
    intro p d h
    simp only [joinP] at h
    rw [chunksW_cons, List.length_append, chkW_length]
    split at h
    · rcases ih _ d h with ⟨q, h1, h2, h3⟩ | ⟨h1, h2⟩
      · exact .inl ⟨q, h1, by omega, h3⟩
      · exact .inr ⟨List.mem_cons_of_mem _ h1, h2⟩
    · rename_i hf
      rcases List.mem_append.1 h with h | h
      · exact .inl (hfl p _ d h)
      · rcases List.mem_cons.1 h with rfl | h
        · exact .inr ⟨List.mem_cons_self, by simpa using hf⟩
        · rcases ih _ d h with ⟨q, h1, h2, h3⟩ | ⟨h1, h2⟩
          · exact .inl ⟨q, h1, by omega, h3⟩
          · exact .inr ⟨List.mem_cons_of_mem _ h1, h2⟩

theorem gapsA_chunks : ∀ (cs : List Chk) (i p : Nat) (acc : List Rn), p ≤ i → (∀ c ∈ cs, c.ok) → gapsA (acc ++ flushG (i - p) p) (decide (0 < p)) (spotsFrom i cs) = acc ++ gapsP i p cs := by
  intro cs
  induction cs with
  | nil => intro i p acc _ _; simp only [spotsFrom, gapsA, gapsP]
  | cons c cs ih =>
    intro i p acc hp hok
    have hc := hok c List.mem_cons_self
    have hok' : ∀ d ∈ cs, d.ok := fun d hd => hok d (List.mem_cons_of_mem _ hd)
    have hpos : 1 ≤ c.len := by unfold Chk.len; omega
    simp only [spotsFrom, gapsA, gapsP]
    rw [Chk.long hc]
    have hsf : (c.spot i).f = c.f := rfl
    have hsl : (c.spot i).loc = i := rfl
    rw [hsf, hsl]
    cases hf : c.f
    · rw [if_pos rfl, if_neg (by decide)]
      have := ih (i + c.len) 0 (acc ++ flushG (i - p) p) (by omega) hok'
      rw [List.append_assoc] at this
      simpa [flushG] using this
    · rw [if_neg (by decide), if_pos rfl]
      have := ih (i + c.len) (p + c.len) acc (by omega) hok'
      rw [show i + c.len - (p + c.len) = i - p by omega] at this
      rw [decide_eq_true (by omega)] at this
      rw [← this]
      by_cases h0 : p = 0
      · rw [if_neg (by simp [h0])]
        subst h0
        have e1 : flushG (i - 0) 0 = [] := rfl
        have e2 : flushG (i - 0) (0 + c.len) = [⟨i, c.len⟩] := by unfold flushG; rw [if_neg (by omega)]; simp
        rw [e1, e2, List.append_nil]
      · rw [if_pos (by simp; omega)]
        simp only [flushG]
        rw [if_neg h0, if_neg (by omega), bump_snoc]
        congr 3

theorem gapsL_chunks {cs : List Chk} (hok : ∀ c ∈ cs, c.ok) : gapsL (spotsFrom 0 cs) = gapsP 0 0 cs := by
  have := gapsA_chunks cs 0 0 [] (by omega) hok
  simpa [flushG, gapsL] using this

theorem gapsP_mem : ∀ (cs : List Chk) (i p : Nat), p ≤ i → ∀ r ∈ gapsP i p cs, ∃ a n : Nat, r = ⟨a, n⟩ ∧ 1 ≤ n ∧ i - p ≤ a ∧ a + n ≤ i + (chunksW cs).length := by
  intro cs
  have hfl : ∀ (i p m : Nat), p ≤ i → ∀ r ∈ flushG (i - p) p, ∃ a n : Nat, r = ⟨a, n⟩ ∧ 1 ≤ n ∧ i - p ≤ a ∧ a + n ≤ i + m := by
    intro i p m hp r h
    unfold flushG at h
    split at h
    · cases h
    · exact ⟨i - p, p, List.mem_singleton.1 h, by omega, by omega, by omega⟩
  induction cs with
  | nil => intro i p hp r h; exact hfl i p _ hp r h
  | cons c cs ih =>
    intro i p hp r h
    simp only [gapsP] at h
    rw [chunksW_cons, List.length_append, chkW_length]
    split at h
    · obtain ⟨a, n, h1, h2, h3, h4⟩ := ih _ _ (by omega) r h
      exact ⟨a, n, h1, h2, by omega, by omega⟩
    · rcases List.mem_append.1 h with h | h
      · exact hfl i p _ hp r h
      · obtain ⟨a, n, h1, h2, h3, h4⟩ := ih _ _ (by omega) r h
        exact ⟨a, n, h1, h2, by omega, by omega⟩

/-- gap.lay -/
def layL (a : List Int) (i n : Nat) : List Int := if n = 0 then a else (fillL a i n 0).set i (wordOf 0 ((n : Int) - 1) 0 true)
theorem layL_length (a : List Int) (i n : Nat) (h : i + n ≤ a.length) : (layL a i n).length = a.length := by
  unfold layL
  split
  · rfl
  · rw [List.length_set, fillL_length _ _ _ _ h]
theorem layL_mid (pre X post : List Int) : layL (pre ++ X ++ post) pre.length X.length = pre ++ chunksW (flushC X.length) ++ post := by
  unfold layL flushC
  by_cases h : X.length = 0
  · rw [if_pos h, if_pos h, List.eq_nil_of_length_eq_zero h]; simp [chunksW]
  · rw [if_neg h, if_neg h]
    unfold fillL
    rw [show (pre ++ X ++ post).take pre.length = pre by rw [List.append_assoc]; simp, show (pre ++ X ++ post).drop (pre.length + X.length) = post by rw [show pre.length + X.length = (pre ++ X).length by simp, List.drop_left]]
    rw [List.append_assoc, List.set_append_right _ _ (Nat.le_refl _), Nat.sub_self]
    obtain ⟨m, hm⟩ : ∃ m, X.length = m + 1 := ⟨X.length - 1, by omega⟩
    rw [hm, List.replicate_succ, List.cons_append, List.set_cons_zero, List.append_assoc]
    simp [chunksW, chkW, freeC]
theorem layL_out {a : List Int} {i n k : Nat} (h : i + n ≤ a.length) (hk : k < i ∨ i + n ≤ k) : (layL a i n)[k]? = a[k]? := by
  unfold layL
  split
  · rfl
  · rw [List.getElem?_set_ne (by omega)]
    unfold fillL
    rcases hk with hk | hk
    · rw [List.append_assoc, List.getElem?_append_left (by rw [List.length_take]; omega), List.getElem?_take, if_pos hk]
    · rw [List.getElem?_append_right (by rw [List.length_append, List.length_take, List.length_replicate]; omega), List.length_append, List.length_take, List.length_replicate, Nat.min_eq_left (by omega), List.getElem?_drop]
      congr 1
      omega

def joinL (a : List Int) (l : List Rn) : List Int := l.foldl (fun a r => layL a r.loc.toNat r.len.toNat) a
theorem joinL_append (a : List Int) (l m : List Rn) : joinL a (l ++ m) = joinL (joinL a l) m := List.foldl_append
theorem joinL_flush (pre X post : List Int) : joinL (pre ++ X ++ post) (flushG pre.length X.length) = pre ++ chunksW (flushC X.length) ++ post := by
  rw [← layL_mid]
  unfold flushG joinL
  by_cases h : X.length = 0
  · rw [if_pos h]; unfold layL; rw [if_pos h]; rfl
  · rw [if_neg h]; simp
theorem joinL_chunks : ∀ (cs : List Chk) (pre X : List Int), joinL (pre ++ X ++ chunksW cs) (gapsP (pre.length + X.length) X.length cs) = pre ++ chunksW (joinP X.length cs) := by
  intro cs
  induction cs with
  | nil =>
    intro pre X
    simp only [gapsP, joinP]
    rw [Nat.add_sub_cancel, joinL_flush]
    simp [chunksW]
  | cons c cs ih =>
    intro pre X
    simp only [gapsP, joinP]
    cases hf : c.f
    · rw [if_neg (by decide), if_neg (by decide), joinL_append, Nat.add_sub_cancel, joinL_flush]
      have := ih (pre ++ chunksW (flushC X.length) ++ chkW c) []
      rw [List.length_append, List.length_append, flushC_length, chkW_length] at this
      simp only [List.append_nil, List.length_nil, Nat.add_zero, List.append_assoc] at this
      rw [chunksW_append, chunksW_cons, chunksW_cons, List.append_assoc]
      exact this
    · rw [if_pos rfl, if_pos rfl]
      have := ih pre (X ++ chkW c)
      rw [List.length_append, chkW_length, ← Nat.add_assoc] at this
      rw [← this, chunksW_cons]
      simp

theorem joinL_out {k : Nat} : ∀ (l : List Rn) (a : List Int), (∀ r ∈ l, ∃ i n : Nat, r = ⟨i, n⟩ ∧ i + n ≤ a.length) → (joinL a l)[k]? = a[k]? ∨ ∃ r ∈ l, r.loc ≤ (k : Int) ∧ (k : Int) - r.loc < r.len := by
  intro l
  induction l with
  | nil => intro a _; exact .inl rfl
  | cons r l ih =>
    intro a h
    obtain ⟨i, n, rfl, hin⟩ := h r List.mem_cons_self
    have hl := layL_length a i n hin
    by_cases hk : k < i ∨ i + n ≤ k
    · rcases ih (layL a i n) (fun s hs => by rw [hl]; exact h s (List.mem_cons_of_mem _ hs)) with h1 | ⟨s, hs, h2⟩
      · left
        rw [← layL_out hin hk]
        exact h1
      · exact .inr ⟨s, List.mem_cons_of_mem _ hs, h2⟩
    · exact .inr ⟨⟨i, n⟩, List.mem_cons_self, by dsimp only; omega, by dsimp only; omega⟩

theorem gapsP_join : ∀ (cs : List Chk) (i p : Nat), p ≤ i → gapsP (i - p) 0 (joinP p cs) = gapsP i p cs := by
  intro cs
  have key : ∀ (i p : Nat) (R : List Chk), p ≤ i → (R = [] ∨ ∃ c T, R = c :: T ∧ c.f = false) → gapsP (i - p) 0 (flushC p ++ R) = gapsP i p R := by
    intro i p R hp hR
    unfold flushC
    by_cases h0 : p = 0
    · rw [if_pos h0, h0]; rfl
    · rw [if_neg h0]
      simp only [List.cons_append, List.nil_append, gapsP]
      rw [if_pos (freeC_f p), freeC_len h0, show i - p + p = i by omega, Nat.zero_add]
  induction cs with
  | nil => intro i p hp; simp only [joinP]; have := key i p [] hp (.inl rfl); rwa [List.append_nil] at this
  | cons c cs ih =>
    intro i p hp
    simp only [joinP]
    cases hf : c.f
    · rw [if_neg (by decide), key i p _ hp (.inr ⟨c, _, rfl, hf⟩)]
      simp only [gapsP]
      rw [hf, if_neg (by decide), if_neg (by decide)]
      have := ih (i + c.len) 0 (by omega)
      rw [Nat.sub_zero] at this
      rw [this]
    · rw [if_pos rfl]
      simp only [gapsP]
      rw [hf, if_pos rfl, ← ih (i + c.len) (p + c.len) (by omega)]
      congr 1
      omega
theorem joinP_join : ∀ (cs : List Chk) (p : Nat), joinP 0 (joinP p cs) = joinP p cs := by
  intro cs
  induction cs with
  | nil =>
    intro p
    simp only [joinP]
    unfold flushC
    by_cases h0 : p = 0
    · rw [if_pos h0]; rfl
    · rw [if_neg h0]
      simp only [joinP]
      rw [if_pos (freeC_f p), freeC_len h0, Nat.zero_add]
      unfold flushC
      rw [if_neg h0]
  | cons c cs ih =>
    intro p
    simp only [joinP]
    cases hf : c.f
    · rw [if_neg (by decide)]
      unfold flushC
      by_cases h0 : p = 0
      · rw [if_pos h0]
        simp only [List.nil_append, joinP]
        rw [hf, if_neg (by decide), ih]
        rfl
      · rw [if_neg h0]
        simp only [List.cons_append, List.nil_append, joinP]
        rw [if_pos (freeC_f p), freeC_len h0, Nat.zero_add, hf, if_neg (by decide), ih]
        unfold flushC
        rw [if_neg h0]
        rfl
    · rw [if_pos rfl]
      exact ih _
theorem starts_join : ∀ (cs : List Chk) (i p : Nat), p ≤ i → starts (i - p) (joinP p cs) = starts i cs := by
  intro cs
  have key : ∀ (i p : Nat) (R : List Chk), p ≤ i → starts (i - p) (flushC p ++ R) = starts i R := by
    intro i p R hp
    unfold flushC
    by_cases h0 : p = 0
    · rw [if_pos h0, h0]; rfl
    · rw [if_neg h0]
      simp only [List.cons_append, List.nil_append, starts]
      rw [freeC_len h0, show i - p + p = i by omega]
      rfl
  induction cs with
  | nil => intro i p hp; simp only [joinP]; have := key i p [] hp; rwa [List.append_nil] at this
  | cons c cs ih =>
    intro i p hp
    simp only [joinP]
    cases hf : c.f
    · rw [if_neg (by decide), key i p _ hp]
      simp only [starts]
      have := ih (i + c.len) 0 (by omega)
      rw [Nat.sub_zero] at this
      rw [this]
    · rw [if_pos rfl]
      simp only [starts]
      rw [hf, if_pos rfl, List.nil_append, ← ih (i + c.len) (p + c.len) (by omega)]
      congr 1
      omega
theorem free_join : ∀ (cs : List Chk) (i p j : Nat), ((spotsFrom j (joinP p cs)).filter (·.f)).length = (gapsP i p cs).length := by
  intro cs
  have key : ∀ (i p j : Nat) (R : List Chk), ((spotsFrom j (flushC p ++ R)).filter (·.f)).length = (flushG i p).length + ((spotsFrom (j + p) R).filter (·.f)).length := by
    intro i p j R
    unfold flushC flushG
    by_cases h0 : p = 0
    · rw [if_pos h0, if_pos h0, h0]; simp
    · rw [if_neg h0, if_neg h0]
      simp only [List.cons_append, List.nil_append, spotsFrom]
      rw [freeC_len h0, List.filter_cons, if_pos (by rfl)]
      simp only [List.length_cons, List.length_nil]
      omega
  induction cs with
  | nil => intro i p j; simp only [joinP, gapsP]; have := key (i - p) p j []; rw [List.append_nil] at this; rw [this]; rfl
  | cons c cs ih =>
    intro i p j
    simp only [joinP, gapsP]
    cases hf : c.f
    · rw [if_neg (by decide), if_neg (by decide), key (i - p) p j, List.length_append]
      simp only [spotsFrom]
      rw [List.filter_cons, if_neg (by simp [Chk.spot, hf]), ih (i + c.len) 0]
    · rw [if_pos rfl, if_pos rfl]
      exact ih _ _ _

theorem joinP_ok {cs : List Chk} (hok : ∀ c ∈ cs, c.ok) (hl : (chunksW cs).length ≤ 256) : ∀ d ∈ joinP 0 cs, d.ok := by
  intro d hd
  rcases joinP_mem cs 0 d hd with ⟨q, h1, h2, rfl⟩ | ⟨h1, -⟩
  · exact freeC_ok h1 (by omega)
  · exact hok d h1
theorem refsC_join {cs : List Chk} (h : refsC cs) : refsC (joinP 0 cs) := by
  intro d hd v hv
  have hs := starts_join cs 0 0 (by omega)
  rw [Nat.sub_zero] at hs
  rw [hs]
  rcases joinP_mem cs 0 d hd with ⟨q, h1, h2, rfl⟩ | ⟨h1, -⟩
  · simp [freeC] at hv
  · exact h d h1 v hv

/-- WHAT gap.Join ANSWERS: b. -/
structure JoinOk (a b : List Int) (l : List Rn) : Prop where
  len : b.length = a.length
  check : checkE b = 0
  gaps : gapsL (spotsL b) = l
  again : joinL b l = b
  free : ((spotsL b).filter (·.f)).length = l.length
  out : ∀ k : Nat, b[k]? = a[k]? ∨ ∃ r ∈ l, r.loc ≤ (k : Int) ∧ (k : Int) - r.loc < r.len
  runs : ∀ r ∈ l, ∃ i n : Nat, r = ⟨i, n⟩ ∧ 1 ≤ n ∧ i + n ≤ a.length
theorem join_ok {a : List Int} (h : checkE a = 0) : JoinOk a (joinL a (gapsL (spotsL a))) (gapsL (spotsL a)) := by
  obtain ⟨cs, hok, rfl, hs, hl, hr⟩ := check_chunks h
  have hg : gapsL (spotsL (chunksW cs)) = gapsP 0 0 cs := by rw [hs, gapsL_chunks hok]
  rw [hg]
  have hj := joinL_chunks cs [] []
  simp only [List.nil_append, List.length_nil, Nat.add_zero] at hj
  have hok2 := joinP_ok hok hl
  have hlen := joinP_length cs 0
  rw [Nat.zero_add] at hlen
  have hm := gapsP_mem cs 0 0 (by omega)
  have hm' : ∀ r ∈ gapsP 0 0 cs, ∃ i n : Nat, r = ⟨i, n⟩ ∧ 1 ≤ n ∧ i + n ≤ (chunksW cs).length := fun r hr => by
    obtain ⟨i, n, h1, h2, h3, h4⟩ := hm r hr
    exact ⟨i, n, h1, h2, by omega⟩
  obtain ⟨hs1, hs2⟩ := chunks_spots hok2 (by omega)
  have hg2 := gapsP_join cs 0 0 (by omega)
  rw [Nat.sub_zero] at hg2
  refine ⟨by rw [hj, hlen], by rw [hj, checkE_chunks hok2 (by omega)]; exact refsC_join hr, by rw [hj, hs2, gapsL_chunks hok2, hg2], ?_, ?_, fun k => ?_, hm'⟩
  · have hj2 := joinL_chunks (joinP 0 cs) [] []
    simp only [List.nil_append, List.length_nil, Nat.add_zero] at hj2
    rw [hg2, joinP_join] at hj2
    rw [hj, hj2]
  · rw [hj, hs2, free_join cs 0 0 0]
  · exact joinL_out _ _ (fun r hr => by
      obtain ⟨i, n, h1, h2, h3⟩ := hm' r hr
      exact ⟨i, n, h1, h3⟩)
end Go.Proofs.Ytammailnbgojgab

/-
  Plain law: the objects of an arena by the words at which they begin, what they refer to, what is reached. No program stands here.
-/
namespace Go.Proofs.Ytammailnbgojgab
open Go.RowKit

def isBeg (x : Int) (s : Spot) : Bool := !s.f && (s.loc == x)
/-- Where the objects begin that are not free. -/
def begsL (S : List Spot) : List Int := (S.filter fun s => !s.f).map (·.loc)
def spotAt (S : List Spot) (x : Int) : Option Spot := S.find? (isBeg x)
def headC (s : Spot) : Value := .agg #[.int .i64 s.r, .int .i64 s.b, .int .i64 s.t, .bool s.f]
def headF (S : List Spot) : Int → Option Value := fun x => (spotAt S x).map headC
/-- What an object refers to. -/
def linksL (a : List Int) (s : Spot) : List Int := ((refsOf a s).filter fun v => v != 0).map fun v => v - 1
def linksAt (a : List Int) (S : List Spot) (x : Int) : List Int := match spotAt S x with | some s => linksL a s | none => []

theorem spotAt_some {S : List Spot} {x : Int} {s : Spot} (h : spotAt S x = some s) : s ∈ S ∧ s.f = false ∧ s.loc = x := by
  have h1 := List.find?_some h
  have h2 := List.mem_of_find?_eq_some h
  simp only [isBeg, Bool.and_eq_true, Bool.not_eq_true', beq_iff_eq] at h1
  exact ⟨h2, h1.1, h1.2⟩
theorem begsL_iff {S : List Spot} {x : Int} : x ∈ begsL S ↔ ∃ s, spotAt S x = some s := by
  unfold begsL spotAt
  rw [List.mem_map]
  constructor
  · rintro ⟨s, hs, rfl⟩
    obtain ⟨h1, h2⟩ := List.mem_filter.1 hs
    cases h : S.find? (isBeg s.loc) with
    | some s' => exact ⟨s', rfl⟩
    | none =>
      have := List.find?_eq_none.1 h s h1
      simp only [isBeg, h2, beq_self_eq_true, Bool.and_self, not_true] at this
  · rintro ⟨s, hs⟩
    obtain ⟨h1, h2, h3⟩ := spotAt_some hs
    exact ⟨s, List.mem_filter.2 ⟨h1, by simp [h2]⟩, h3⟩
theorem headF_isSome {S : List Spot} {x : Int} : (headF S x).isSome = true ↔ x ∈ begsL S := by
  rw [begsL_iff]
  unfold headF
  cases spotAt S x <;> simp

theorem begsL_snoc (l : List Spot) (s : Spot) : begsL (l ++ [s]) = if s.f = true then begsL l else begsL l ++ [s.loc] := by
  unfold begsL
  rw [List.filter_append, List.map_append]
  cases h : s.f <;> simp [h]
theorem headF_nil : headF [] = fun _ => none := rfl
theorem headF_free {l : List Spot} {s : Spot} (h : s.f = true) : headF (l ++ [s]) = headF l := by
  funext x
  unfold headF spotAt
  rw [List.find?_append]
  have : List.find? (isBeg x) [s] = none := by simp [isBeg, h]
  rw [this]
  simp
theorem headF_snoc {l : List Spot} {s : Spot} (h : s.f = false) (hl : ∀ x ∈ l, x.loc < s.loc) : headF (l ++ [s]) = upd (headF l) s.loc (headC s) := by
  funext x
  unfold headF spotAt upd
  rw [List.find?_append]
  by_cases hx : x = s.loc
  · subst hx
    have h1 : List.find? (isBeg s.loc) l = none := by
      rw [List.find?_eq_none]
      intro y hy
      have := hl y hy
      simp [isBeg]
      intro _
      omega
    rw [h1, if_pos rfl]
    simp [isBeg, h]
  · rw [if_neg hx]
    have h1 : List.find? (isBeg x) [s] = none := by simp [isBeg]; intro _; omega
    rw [h1]
    simp

theorem begsL_bounds {a : List Int} (h : spotsE a = 0) : ∀ x ∈ begsL (spotsL a), 0 ≤ x ∧ x < 256 := by
  intro x hx
  obtain ⟨s, hs⟩ := begsL_iff.1 hx
  obtain ⟨h1, -, rfl⟩ := spotAt_some hs
  obtain ⟨hlen, hp⟩ := parse_ok h
  have := (parse_mem hp s h1).1
  have e1 := this.loc0
  have e2 := this.fits
  have e3 := this.r0
  have e4 := this.b0
  unfold Spot.long at e2
  omega

theorem placeF_some {l : List Spot} {v : Int} (h : (placeF l v).isSome = true) : v = 0 ∨ v - 1 ∈ begsL l := by
  unfold placeF at h
  by_cases h0 : v = 0
  · exact .inl h0
  · rw [if_neg h0] at h
    right
    cases hf : l.findIdx? (isPlace v) with
    | none => rw [hf] at h; cases h
    | some i =>
      obtain ⟨h1, h2, -⟩ := List.findIdx?_eq_some_iff_getElem.1 hf
      unfold begsL
      refine List.mem_map.2 ⟨l[i], List.mem_filter.2 ⟨List.getElem_mem h1, ?_⟩, ?_⟩
      · simp only [isPlace, Bool.and_eq_true] at h2; exact h2.1
      · simp only [isPlace, Bool.and_eq_true, beq_iff_eq] at h2; omega
theorem links_begs {a : List Int} (h : checkE a = 0) {s : Spot} (hs : s ∈ spotsL a) : ∀ y ∈ linksL a s, y ∈ begsL (spotsL a) := by
  intro y hy
  obtain ⟨v, hv, rfl⟩ := List.mem_map.1 hy
  obtain ⟨h1, h2⟩ := List.mem_filter.1 hv
  have h3 := List.all_eq_true.1 (List.all_eq_true.1 (checkE_ok.1 h).2 s hs) v h1
  rcases placeF_some h3 with h4 | h4
  · simp [h4] at h2
  · exact h4
theorem linksAt_begs {a : List Int} (h : checkE a = 0) (x : Int) : ∀ y ∈ linksAt a (spotsL a) x, y ∈ begsL (spotsL a) := by
  intro y hy
  unfold linksAt at hy
  split at hy
  · rename_i s hs
    exact links_begs h (spotAt_some hs).1 y hy
  · cases hy

/-- What is reached: all that one begins with, closed, no more, in order, each once. -/
structure Reached (a : List Int) (S : List Spot) (from_ L : List Int) : Prop where
  begs : ∀ x ∈ L, x ∈ begsL S
  roots : ∀ x ∈ from_, x ∈ L
  closed : ∀ x ∈ L, ∀ y ∈ linksAt a S x, y ∈ L
  least : ∀ X : Int → Prop, (∀ x ∈ from_, X x) → (∀ x, X x → ∀ y ∈ linksAt a S x, X y) → ∀ x ∈ L, X x
  sorted : L.Pairwise (fun x y => x ≤ y)
  once : L.Nodup
theorem sorted_unique : ∀ {L L' : List Int}, L.Pairwise (fun x y => x ≤ y) → L.Nodup → L'.Pairwise (fun x y => x ≤ y) → L'.Nodup → (∀ x, x ∈ L ↔ x ∈ L') → L = L'
  | [], [], _, _, _, _, _ => rfl
  | [], y :: t, _, _, _, _, h => by have := (h y).2 List.mem_cons_self; cases this
  | x :: t, [], _, _, _, _, h => by have := (h x).1 List.mem_cons_self; cases this
  | x :: t, y :: t', h1, h2, h3, h4, h => by
    obtain ⟨a1, a2⟩ := List.pairwise_cons.1 h1
    obtain ⟨b1, b2⟩ := List.nodup_cons.1 h2
    obtain ⟨c1, c2⟩ := List.pairwise_cons.1 h3
    obtain ⟨d1, d2⟩ := List.nodup_cons.1 h4
    have hxy : x = y := by
      have e1 : x ≤ y := by
        rcases List.mem_cons.1 ((h y).2 List.mem_cons_self) with e | e
        · omega
        · exact a1 y e
      have e2 : y ≤ x := by
        rcases List.mem_cons.1 ((h x).1 List.mem_cons_self) with e | e
        · omega
        · exact c1 x e
      omega
    subst hxy
    rw [sorted_unique a2 b2 c2 d2 (fun z => by
      constructor
      · intro hz
        rcases List.mem_cons.1 ((h z).1 (List.mem_cons_of_mem _ hz)) with e | e
        · subst e; exact absurd hz b1
        · exact e
      · intro hz
        rcases List.mem_cons.1 ((h z).2 (List.mem_cons_of_mem _ hz)) with e | e
        · subst e; exact absurd hz d1
        · exact e)]
theorem Reached.unique {a : List Int} {S : List Spot} {f L L' : List Int} (h : Reached a S f L) (h' : Reached a S f L') : L = L' :=
  sorted_unique h.sorted h.once h'.sorted h'.once (fun x => ⟨fun hx => h.least (· ∈ L') h'.roots h'.closed x hx, fun hx => h'.least (· ∈ L) h.roots h.closed x hx⟩)

theorem nodup_bound : ∀ (n : Nat) (L : List Int), L.Nodup → (∀ x ∈ L, 0 ≤ x ∧ x < n) → L.length ≤ n
  | 0, [], _, _ => Nat.le_refl _
  | 0, x :: _, _, h => by have := h x List.mem_cons_self; omega
  | n + 1, L, hn, h => by
    have h1 := nodup_bound n (L.erase (n : Int)) (hn.erase _) (fun x hx => by
      have h2 := h x (List.mem_of_mem_erase hx)
      have h3 : x ≠ (n : Int) := fun e => by subst e; exact absurd hx (hn.not_mem_erase)
      omega)
    have h4 := List.length_erase (a := (n : Int)) (l := L)
    split at h4 <;> omega

/-- How the search goes on: what is found, how far it has looked. -/
structure Search (a : List Int) (S : List Spot) (from_ out : List Int) (i : Nat) : Prop where
  begs : ∀ x ∈ out, x ∈ begsL S
  once : out.Nodup
  least : ∀ X : Int → Prop, (∀ x ∈ from_, X x) → (∀ x, X x → ∀ y ∈ linksAt a S x, X y) → ∀ x ∈ out, X x
  seen : ∀ k x, k < i → out[k]? = some x → ∀ y ∈ linksAt a S x, y ∈ out
def addL (out : List Int) (x : Int) : List Int := if x ∈ out then out else out ++ [x]
theorem addL_sub (out : List Int) (x : Int) : (∀ y ∈ out, y ∈ addL out x) ∧ x ∈ addL out x := by
  unfold addL
  split
  · rename_i h; exact ⟨fun y hy => hy, h⟩
  · exact ⟨fun y hy => List.mem_append_left _ hy, by simp⟩
theorem addL_mem {out : List Int} {x y : Int} (h : y ∈ addL out x) : y ∈ out ∨ y = x := by
  unfold addL at h
  split at h
  · exact .inl h
  · simpa using h
theorem addL_get {out : List Int} {x y : Int} {k : Nat} (hk : k < out.length) (h : (addL out x)[k]? = some y) : out[k]? = some y := by
  unfold addL at h
  split at h
  · exact h
  · rwa [List.getElem?_append_left hk] at h
theorem addL_nodup {out : List Int} {x : Int} (h : out.Nodup) : (addL out x).Nodup := by
  unfold addL
  split
  · exact h
  · rename_i hx
    exact List.nodup_append.2 ⟨h, by simp, by rintro a ha b hb rfl; simp at hb; subst hb; exact hx ha⟩
theorem addL_len (out : List Int) (x : Int) : out.length ≤ (addL out x).length := by unfold addL; split <;> simp
theorem Search.nil (a : List Int) (S : List Spot) (f : List Int) : Search a S f [] 0 := ⟨by simp, by simp, by simp, by simp⟩
theorem Search.add {a : List Int} {S : List Spot} {f out : List Int} {i : Nat} (h : Search a S f out i) (hi : i ≤ out.length) {x : Int} (hx : x ∈ begsL S)
    (hl : ∀ X : Int → Prop, (∀ x ∈ f, X x) → (∀ x, X x → ∀ y ∈ linksAt a S x, X y) → X x) : Search a S f (addL out x) i := by
  obtain ⟨s1, s2⟩ := addL_sub out x
  refine ⟨fun y hy => ?_, addL_nodup h.once, fun X hX hc y hy => ?_, fun k y hk hy z hz => s1 z (h.seen k y hk (addL_get (by omega) hy) z hz)⟩
  · rcases addL_mem hy with h1 | rfl
    · exact h.begs y h1
    · exact hx
  · rcases addL_mem hy with h1 | rfl
    · exact h.least X hX hc y h1
    · exact hl X hX hc
theorem Search.len {a : List Int} {f out : List Int} {i : Nat} (h : Search a (spotsL a) f out i) (ha : spotsE a = 0) : out.length ≤ 256 :=
  nodup_bound 256 out h.once (fun x hx => begsL_bounds ha x (h.begs x hx))
end Go.Proofs.Ytammailnbgojgab

/-
  Plain arithmetic of bits: masks and joins of 64-bit words.
-/
namespace Go.Proofs.Ytammailnbgojgab
open Go.RowKit

theorem band16 (x : Int) (h0 : 0 ≤ x) (h1 : x < 18446744073709551616) : bits .and .u64 x 65535 = x % 65536 := by
  rw [u64_and x 65535 h0 h1 (by decide) (by decide), show (65535 : Int).toNat = 2 ^ 16 - 1 from rfl, Nat.and_two_pow_sub_one_eq_mod]
  omega
theorem band48 (x : Int) (h0 : 0 ≤ x) (h1 : x < 18446744073709551616) : bits .and .u64 x 281474976710656 = x / 281474976710656 % 2 * 281474976710656 := by
  rw [u64_and x 281474976710656 h0 h1 (by decide) (by decide), show (281474976710656 : Int).toNat = 2 ^ 48 from rfl, nat_bit]
  have : (2 : Nat) ^ 48 = 281474976710656 := by decide
  rw [this]
  omega
theorem bor_join (i : Nat) (x y : Int) (h0 : 0 ≤ x) (h1 : x < 18446744073709551616) (h2 : 0 ≤ y) (h3 : y < 18446744073709551616) (hx : x % 2 ^ i = 0) (hy : y < 2 ^ i) : bits .or .u64 y x = y + x := by
  obtain ⟨a, rfl⟩ := Int.eq_ofNat_of_zero_le h0
  obtain ⟨b, rfl⟩ := Int.eq_ofNat_of_zero_le h2
  rw [u64_or_nat b a (by omega) (by omega), Nat.or_comm, nat_join i a b (by exact_mod_cast hx) (by exact_mod_cast hy)]
  omega

theorem wrap_u64_of {x : Int} (h0 : 0 ≤ x) (h1 : x < 18446744073709551616) : IntKind.u64.wrap x = x := by
  have : IntKind.u64.wrap x = x % 18446744073709551616 := by simp [IntKind.wrap, IntKind.signed, IntKind.bits]
  rw [this]
  omega
theorem or_byte (old : Int) (b e : Nat) (h0 : 0 ≤ old) (h1 : old < 2 ^ e) (hb : b < 256) (he : e ≤ 56) : bits .or .u64 old (IntKind.u64.wrap (IntKind.u64.wrap (b : Int) * 2 ^ e)) = old + b * 2 ^ e := by
  have hp : (2 : Nat) ^ e ≤ 2 ^ 56 := Nat.pow_le_pow_right (by decide) he
  have hp2 : ((2 ^ e : Nat) : Int) ≤ ((2 ^ 56 : Nat) : Int) := Int.ofNat_le.2 hp
  rw [Int.natCast_pow] at hp2
  have hp3 : (2 : Int) ^ e ≤ 72057594037927936 := hp2
  have hp0 : (0 : Int) < 2 ^ e := Int.pow_pos (by decide)
  have hm : (b : Int) * 2 ^ e ≤ 255 * 72057594037927936 := Int.le_trans (Int.mul_le_mul_of_nonneg_right (by omega : (b : Int) ≤ 255) (Int.le_of_lt hp0)) (Int.mul_le_mul_of_nonneg_left hp3 (by decide))
  have hm0 : 0 ≤ (b : Int) * 2 ^ e := Int.mul_nonneg (by omega) (Int.le_of_lt hp0)
  rw [wrap_u64_of (x := (b : Int)) (by omega) (by omega)]
  generalize hx : (b : Int) * 2 ^ e = x at *
  rw [wrap_u64_of hm0 (by omega)]
  have h : x % 2 ^ e = 0 := by rw [← hx]; exact Int.mul_emod_left _ _
  have hj := bor_join e x old
  generalize (2 : Int) ^ e = p at *
  exact hj hm0 (by omega) h0 (by omega) h h1

end Go.Proofs.Ytammailnbgojgab

/-
  package head: contracts of its functions.
-/
namespace Go.Proofs.Ytammailnbgojgab
open Go.RowKit

set_option maxHeartbeats 400000 in
theorem hlong_any (r b t : Int) (f : Bool) (w : World) (h : 0 ≤ r ∧ r ≤ 100000 ∧ 0 ≤ b ∧ b ≤ 100000) :
    Calls Try.prog 102 #[.agg #[.int .i64 r, .int .i64 b, .int .i64 t, .bool f]] w fun e w' => e = .returned (.int .i64 (1 + r + b)) ∧ Below w.heap.size w w' := by
  obtain ⟨h1, h2, h3, h4⟩ := h
  go_enter Try.func102, Try.ntmps102
  go_wp2
  go_ret
  exact ⟨rfl, below_new _ _⟩

set_option maxHeartbeats 1000000 in
theorem hcheck_any (r b t : Int) (f : Bool) (w : World) :
    Calls Try.prog 101 #[.agg #[.int .i64 r, .int .i64 b, .int .i64 t, .bool f]] w fun e w' => e = .returned (.int .i64 (headE r b t f)) ∧ Below w.heap.size w w' := by
  by_cases hr : r < 0 ∨ b < 0 ∨ t < 0 ∨ 256 < r ∨ 256 < b ∨ 65535 < t
  · have HE : Hid (headE r b t f = 4) := by show _ = _; unfold headE; rw [if_pos hr]
    go_enter Try.func101, Try.ntmps101
    go_wp2_with fail
    all_goals
      go_ret
      exact ⟨ret_int HE.out.symm, below_new _ _⟩
  · have g1 : 0 ≤ r := by omega
    have g2 : 0 ≤ b := by omega
    have g3 : 0 ≤ t := by omega
    have g4 : r ≤ 256 := by omega
    have g5 : b ≤ 256 := by omega
    have g6 : t ≤ 65535 := by omega
    by_cases hf : f = true ∧ (0 < r ∨ 0 < t)
    · have HE : Hid (headE r b t f = 3) := by show _ = _; unfold headE; rw [if_neg hr, if_pos hf]
      obtain ⟨rfl, hf⟩ := hf
      clear hr
      rcases hf with hf | hf
      all_goals
        go_enter Try.func101, Try.ntmps101
        go_wp2_with fail
        all_goals
          go_ret
          exact ⟨ret_int HE.out.symm, below_new _ _⟩
    · have hf2 : f = false ∨ (f = true ∧ r = 0 ∧ t = 0) := by
        cases f
        · exact .inl rfl
        · exact .inr ⟨rfl, by simp at hf; omega⟩
      by_cases hl : 256 < 1 + r + b
      · have HE : Hid (headE r b t f = 2) := by show _ = _; unfold headE; rw [if_neg hr, if_neg hf, if_pos hl]
        clear hr hf
        rcases hf2 with rfl | ⟨rfl, rfl, rfl⟩
        all_goals
          go_enter Try.func101, Try.ntmps101
          go_wp2_with (go_at_call 102; refine (hlong_any _ _ _ _ _ (by omega)).mono ?_; rintro e w1 ⟨rfl, hb1⟩)
          all_goals
            go_ret
            exact ⟨ret_int HE.out.symm, below_step (below_new _ _) hb1⟩
      · have HE : Hid (headE r b t f = 0) := by show _ = _; unfold headE; rw [if_neg hr, if_neg hf, if_neg hl]
        clear hr hf
        rcases hf2 with rfl | ⟨rfl, rfl, rfl⟩
        all_goals
          go_enter Try.func101, Try.ntmps101
          go_wp2_with (go_at_call 102; refine (hlong_any _ _ _ _ _ (by omega)).mono ?_; rintro e w1 ⟨rfl, hb1⟩)
          all_goals
            go_ret
            exact ⟨ret_int HE.out.symm, below_step (below_new _ _) hb1⟩

set_option maxHeartbeats 400000 in
theorem hword_ok (r b t : Int) (f : Bool) (w : World) (hE : headE r b t f = 0) :
    Calls Try.prog 58 #[.agg #[.int .i64 r, .int .i64 b, .int .i64 t, .bool f]] w fun e w' => e = .returned (.tuple #[.int .u64 (wordOf r b t f), .int .i64 0]) ∧ Below w.heap.size w w' := by
  obtain ⟨h1, h2, h3, h4, h5, h6, h7, h8⟩ := headE_ok.1 hE
  have HE := Lib.hid hE
  have HF := Lib.hid h8
  clear hE h8
  have o1 := bor_join 16 (b * 65536) r (by omega) (by omega) (by omega) (by omega) (by omega) (by omega)
  have o2 := bor_join 32 (t * 4294967296) (r + b * 65536) (by omega) (by omega) (by omega) (by omega) (by omega) (by omega)
  have o3 := bor_join 48 281474976710656 (r + b * 65536 + t * 4294967296) (by omega) (by omega) (by omega) (by omega) (by omega) (by omega)
  cases f
  all_goals
    go_enter Try.func58, Try.ntmps58
    go_wp2_with (go_at_call 101; refine (hcheck_any _ _ _ _ _).mono ?_; rw [HE.out]; rintro e w1 ⟨rfl, hb1⟩; obtain ⟨hc1, hf1⟩ := bcell hb1)
    go_ret2
    exact ⟨by simp [wordOf], below_step (below_new _ _) hb1⟩

set_option maxHeartbeats 400000 in
theorem hword_bad (r b t : Int) (f : Bool) (w : World) (hE : headE r b t f ≠ 0) :
    Calls Try.prog 58 #[.agg #[.int .i64 r, .int .i64 b, .int .i64 t, .bool f]] w fun e w' => e = .returned (.tuple #[.int .u64 0, .int .i64 (headE r b t f)]) ∧ Below w.heap.size w w' := by
  have H := fun w => hcheck_any r b t f w
  have HH := Lib.hid H
  clear H
  generalize headE r b t f = E at *
  have hE1 : (E != 0) = true := by simpa using hE
  have hE2 : (E == 0) = false := by simpa using hE
  go_enter Try.func58, Try.ntmps58
  go_wp2_with (go_at_call 101; refine (HH.out _).mono ?_; rintro e w1 ⟨rfl, hb1⟩)
  go_ret2
  exact ⟨rfl, below_step (below_new _ _) hb1⟩

set_option maxHeartbeats 400000 in
theorem hlongc_ok (r b t : Int) (f : Bool) (w : World) (hE : headE r b t f = 0) :
    Calls Try.prog 56 #[.agg #[.int .i64 r, .int .i64 b, .int .i64 t, .bool f]] w fun e w' => e = .returned (.tuple #[.int .i64 (1 + r + b), .int .i64 0]) ∧ Below w.heap.size w w' := by
  obtain ⟨h1, h2, h3, h4, h5, h6, h7, h8⟩ := headE_ok.1 hE
  have HE := Lib.hid hE
  clear hE h8
  go_enter Try.func56, Try.ntmps56
  go_wp2_with (first
    | (go_at_call 101; refine (hcheck_any _ _ _ _ _).mono ?_; rw [HE.out]; rintro e w1 ⟨rfl, hb1⟩; obtain ⟨hc1, hf1⟩ := bcell hb1)
    | (go_at_call 102; refine (hlong_any _ _ _ _ _ (by omega)).mono ?_; rintro e w2 ⟨rfl, hb2⟩))
  go_ret2
  exact ⟨rfl, below_step (below_step (below_new _ _) hb1) hb2⟩

set_option maxHeartbeats 400000 in
theorem hlongc_bad (r b t : Int) (f : Bool) (w : World) (hE : headE r b t f ≠ 0) :
    Calls Try.prog 56 #[.agg #[.int .i64 r, .int .i64 b, .int .i64 t, .bool f]] w fun e w' => e = .returned (.tuple #[.int .i64 0, .int .i64 (headE r b t f)]) ∧ Below w.heap.size w w' := by
  have H := fun w => hcheck_any r b t f w
  have HH := Lib.hid H
  clear H
  generalize headE r b t f = E at *
  have hE1 : (E != 0) = true := by simpa using hE
  have hE2 : (E == 0) = false := by simpa using hE
  go_enter Try.func56, Try.ntmps56
  go_wp2_with (go_at_call 101; refine (HH.out _).mono ?_; rintro e w1 ⟨rfl, hb1⟩)
  go_ret2
  exact ⟨rfl, below_step (below_new _ _) hb1⟩

theorem hread_ok (v : Int) (w : World) (v0 : 0 ≤ v) (v1 : v < 18446744073709551616) (hok : readOk v) :
    Calls Try.prog 99 #[.int .u64 v] w fun e w' => e = .returned (.tuple #[.agg #[.int .i64 (rdR v), .int .i64 (rdB v), .int .i64 (rdT v), .bool (rdF v)], .int .i64 0]) ∧ Below w.heap.size w w' := by
  obtain ⟨hz, hE⟩ := hok
  have H := fun w => hcheck_any (rdR v) (rdB v) (rdT v) (rdF v) w
  rw [hE] at H
  have HH := Lib.hid H
  clear H hE
  have e1 : bits .and .u64 v 65535 = rdR v := band16 v v0 v1
  have e2 : bits .and .u64 (v / 65536) 65535 = rdB v := band16 (v / 65536) (by omega) (by omega)
  have e3 : bits .and .u64 (v / 4294967296) 65535 = rdT v := band16 (v / 4294967296) (by omega) (by omega)
  have e4 : (bits .and .u64 v 281474976710656 != 0) = rdF v := by
    rw [band48 v v0 v1]
    unfold rdF
    rw [Bool.eq_iff_iff]
    simp
    omega
  have b1 : 0 ≤ rdR v := by unfold rdR; omega
  have b2 : rdR v < 65536 := by unfold rdR; omega
  have b3 : 0 ≤ rdB v := by unfold rdB; omega
  have b4 : rdB v < 65536 := by unfold rdB; omega
  have b5 : 0 ≤ rdT v := by unfold rdT; omega
  have b6 : rdT v < 65536 := by unfold rdT; omega
  generalize rdR v = r at *
  generalize rdB v = b at *
  generalize rdT v = t at *
  generalize rdF v = f at *
  go_enter Try.func99, Try.ntmps99
  go_wp2_with (go_at_call 101; refine (HH.out _).mono ?_; rintro e w1 ⟨rfl, hb1⟩; obtain ⟨hc1, hf1⟩ := bcell hb1)
  have HB : Blk w1 w.heap.size 100 #[.int .i64 0, .int .i64 0, .int .i64 0, .bool false] := ((Blk.new _ _ _).alloc _).below hb1 (by simp only [World.size_alloc]; omega)
  have k0 := HB.cell 0
  have k1 := HB.cell 1
  have k2 := HB.cell 2
  have k3 := HB.cell 3
  simp at k0 k1 k2 k3
  have hb3 := below_step (below_step (below_new _ _) (below_new _ _)) hb1
  refine bodyPost_ret (v := .tuple #[.agg #[.int .i64 r, .int .i64 b, .int .i64 t, .bool f], .int .i64 0]) ?_ rfl ⟨rfl, ?_⟩
  · (simp only [results, Try.results99]; go_simp)
  · repeat (first | exact hb3 | refine Below.setCell ?_ (by simp) _)

theorem hread_bad (v : Int) (w : World) (v0 : 0 ≤ v) (v1 : v < 18446744073709551616) (hbad : ¬ readOk v) :
    Calls Try.prog 99 #[.int .u64 v] w fun e w' => e = .returned (.tuple #[.agg #[.int .i64 0, .int .i64 0, .int .i64 0, .bool false], .int .i64 3]) ∧ Below w.heap.size w w' := by
  have H := fun w => hcheck_any (rdR v) (rdB v) (rdT v) (rdF v) w
  have HH := Lib.hid H
  clear H
  have hb : ¬ v / 562949953421312 = 0 ∨ (v / 562949953421312 = 0 ∧ headE (rdR v) (rdB v) (rdT v) (rdF v) ≠ 0) := by
    unfold readOk at hbad
    by_cases h : v / 562949953421312 = 0
    · exact .inr ⟨h, fun h2 => hbad ⟨h, h2⟩⟩
    · exact .inl h
  clear hbad
  have e1 : bits .and .u64 v 65535 = rdR v := band16 v v0 v1
  have e2 : bits .and .u64 (v / 65536) 65535 = rdB v := band16 (v / 65536) (by omega) (by omega)
  have e3 : bits .and .u64 (v / 4294967296) 65535 = rdT v := band16 (v / 4294967296) (by omega) (by omega)
  have e4 : (bits .and .u64 v 281474976710656 != 0) = rdF v := by
    rw [band48 v v0 v1]
    unfold rdF
    rw [Bool.eq_iff_iff]
    simp
    omega
  have b1 : 0 ≤ rdR v := by unfold rdR; omega
  have b2 : rdR v < 65536 := by unfold rdR; omega
  have b3 : 0 ≤ rdB v := by unfold rdB; omega
  have b4 : rdB v < 65536 := by unfold rdB; omega
  have b5 : 0 ≤ rdT v := by unfold rdT; omega
  have b6 : rdT v < 65536 := by unfold rdT; omega
  generalize headE (rdR v) (rdB v) (rdT v) (rdF v) = E at *
  generalize rdR v = r at *
  generalize rdB v = b at *
  generalize rdT v = t at *
  generalize rdF v = f at *
  rcases hb with hz | ⟨hz, hE⟩
  · go_enter Try.func99, Try.ntmps99
    go_wp2_with fail
    refine bodyPost_ret (v := .tuple #[.agg #[.int .i64 0, .int .i64 0, .int .i64 0, .bool false], .int .i64 3]) ?_ rfl ⟨rfl, ?_⟩
    · simp [results, Try.results99, go_sem]
    · repeat (first | exact below_step (below_new _ _) (below_new _ _) | refine Below.setCell ?_ (by simp) _)
  · have hE1 : (E != 0) = true := by simpa using hE
    have hE2 : (E == 0) = false := by simpa using hE
    go_enter Try.func99, Try.ntmps99
    go_wp2_with (go_at_call 101; refine (HH.out _).mono ?_; rintro e w1 ⟨rfl, hb1⟩; obtain ⟨hc1, hf1⟩ := bcell hb1)
    have HB : Blk w1 w.heap.size 100 #[.int .i64 0, .int .i64 0, .int .i64 0, .bool false] := ((Blk.new _ _ _).alloc _).below hb1 (by simp only [World.size_alloc]; omega)
    have k0 := HB.cell 0
    have k1 := HB.cell 1
    have k2 := HB.cell 2
    have k3 := HB.cell 3
    simp at k0 k1 k2 k3
    have hb3 := below_step (below_step (below_new _ _) (below_new _ _)) hb1
    refine bodyPost_ret (v := .tuple #[.agg #[.int .i64 0, .int .i64 0, .int .i64 0, .bool false], .int .i64 3]) ?_ rfl ⟨rfl, ?_⟩
    · (simp only [results, Try.results99]; go_simp)
    · repeat (first | exact hb3 | refine Below.setCell ?_ (by simp) _)
end Go.Proofs.Ytammailnbgojgab
