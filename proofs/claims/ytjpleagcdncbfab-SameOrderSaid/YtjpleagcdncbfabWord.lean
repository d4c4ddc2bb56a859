/-
  package word: contracts of its functions.
-/
import Derived.Test.YtjpleagcdncbfabRows
import Derived.Test.YtjpleagcdncbfabBase
namespace Go.Proofs.Ytjpleagcdncbfab
open Go.RowKit

def stretchF (len n : Int) : List Int → Int
  | [] => 0
  | k :: r => if n < 0 ∨ k < 0 ∨ len < k ∨ len - k < n then 4 else stretchF len n r

set_option maxHeartbeats 400000 in
theorem stretches_big (A : Option Addr) (n c : Nat) (k : Int) (v : Value) (w : World) (hn : 256 < n) :
    Calls Try.prog 50 #[.slice A n c, .int .i64 k, v] w fun e w' => e = .returned (.int .i64 2) ∧ w = w' := by
  go_enter Try.func50, Try.ntmps50
  go_wp2
  go_ret
  exact ⟨rfl, rfl⟩

set_option maxHeartbeats 400000 in
theorem stretches_any (A : Option Addr) (n c : Nat) (k : Int) (B : Nat) (A2 : Option Addr) (m c2 : Nat) (ats : List Int) (w : World) (hn : n ≤ 256) (hm : m ≤ 1000) (hr : Reads w B 1 A2 m (ats.map (.int .i64)))
    (hk : -9223372036854775808 ≤ k ∧ k ≤ 9223372036854775807) (ha : ∀ x ∈ ats, -9223372036854775808 ≤ x ∧ x ≤ 9223372036854775807) :
    Calls Try.prog 50 #[.slice A n c, .int .i64 k, .slice A2 m c2] w fun e w' => e = .returned (.int .i64 (stretchF n k ats)) ∧ w = w' := by
  go_enter Try.func50, Try.ntmps50
  go_wp2
  go_loop [14] (fun i => ∃ j : Nat, j ≤ m ∧ i = .int .i64 j ∧ stretchF n k (ats.drop j) = stretchF n k ats) (fun i => m - (intOf i).toNat)
  case atStart => exact ⟨0, Nat.zero_le _, rfl, rfl⟩
  case round =>
    obtain ⟨j, hj, rfl, hs⟩ := hrel
    have HS := Lib.hid hs
    clear hs
    by_cases hlt : j < m
    · have hl : j < ats.length := by have := hr.1; simp at this; omega
      obtain ⟨ad, u, hA2, _, hx, hc⟩ := hr.at_ hlt
      subst hA2
      have hu : u = .int .i64 ats[j] := by
        rw [List.getElem?_map, List.getElem?_eq_getElem hl] at hx
        simpa using hx.symm
      subst hu
      clear hx
      have hb := ha _ (List.getElem_mem hl)
      have hd : ats.drop j = ats[j] :: ats.drop (j + 1) := List.drop_eq_getElem_cons hl
      have HD := Lib.hid hd
      clear hd
      by_cases hbad : k < 0 ∨ ats[j] < 0 ∨ (n : Int) < ats[j] ∨ (n : Int) - ats[j] < k
      · go_wp2
        all_goals
          go_ret
          exact ⟨ret_int (by rw [← HS.out, HD.out, stretchF, if_pos hbad]), rfl⟩
      · have h1 : 0 ≤ k := by omega
        have h2 : 0 ≤ ats[j] := by omega
        have h3 : ats[j] ≤ (n : Int) := by omega
        have h4 : k ≤ (n : Int) - ats[j] := by omega
        clear hbad
        go_wp2
        go_round
        case rel => exact ⟨j + 1, by omega, by go_num, by rw [← HS.out, HD.out, stretchF, if_neg (by omega)]⟩
        case measure => simp [intOf]; omega
    · go_wp2
      go_ret
      have : j = m := by omega
      subst this
      exact ⟨ret_int (by rw [← HS.out, List.drop_of_length_le (by have := hr.1; simp at this; omega)]; rfl), rfl⟩

theorem size_u64 : (Try.prog.info? 56).map (·.size) = some 1 := by kernel_rfl
theorem info_u64 : (Try.prog.info? 56).map (fun i => (i.zero, i.size, i.bytes)) = some (some (.int .u64 0), 1, 8) := by kernel_rfl

set_option maxHeartbeats 400000 in
theorem clone_u64 (A : Option Addr) (n c B : Nat) (xs : List Value) (w : World) (hr : Reads w B 1 A n xs) (hB : B ≤ w.heap.size) (h1 : ∀ u ∈ xs, u.oneCell' = true) (hn : n * 8 ≤ 140737488355328) :
    Calls Try.prog 22 #[.slice A n c] w fun e w' => ∃ A' c', e = .returned (.slice A' n c') ∧ w'.ownsRow w.heap.size 56 1 (.slice A' n c') n xs ∧ Below w.heap.size w w' := by
  obtain ⟨i0, hi, hz0, hz1, hz2⟩ := info_parts info_u64
  rcases A with _ | ad
  · have hm : n = 0 := by
      rcases Nat.eq_zero_or_pos n with h0 | h0
      · exact h0
      · obtain ⟨ad, h, _⟩ := hr.2 h0
        cases h
    subst hm
    have hx : xs = [] := List.eq_nil_of_length_eq_zero (by simpa using hr.1)
    subst hx
    have hnil := fun (w : World) => Lib.run_eql_slice_nil (P := Try.prog) w 22 56 none 0 c 0 0 Try.underlying22
    go_enter Try.func22, Try.ntmps22
    go_wp2
    go_ret
    exact ⟨none, 0, rfl, World.ownsRow_nil _ _ _ _, Below.refl _ _⟩
  · have hnil := fun (w : World) => Lib.run_eql_slice_nil (P := Try.prog) w 22 56 (some ad) n c 0 0 Try.underlying22
    have hmade := World.ownsRow_made (e := 56) (size := 1) w #[] 0 (Nat.le_refl w.heap.size) (Nat.zero_le _) rfl
    go_enter Try.func22, Try.ntmps22
    go_wp2_with (at_builtin; refine wpList_append_any _ rfl (.tmp 5) (.tmp 6) 22 rfl w.heap.size 56 i0 (.int .u64 0) 1 8 Try.underlying22 hi hz0 hz1 hz2 rfl (by decide) (.slice (some ⟨w.heap.size, 0, none⟩) 0 0) 0 [] rfl hmade B (some ad) n c xs rfl (hr.alloc hB _) h1 (by simp [maxLen]; omega) (by simpa using hn) (by simp) ?_; rintro v' w1 hown hgr hbl -; obtain ⟨A', c', rfl⟩ := own_slice hown)
    go_ret
    exact ⟨A', c', rfl, by simpa using hown, ((Below.refl _ _).alloc (Nat.le_refl _) _).grown hgr (by simp) (by simp [Value.ownBlock])⟩
theorem u64s_one (l : List Int) : ∀ u ∈ l.map (Value.int .u64), u.oneCell' = true := by
  intro u hu
  obtain ⟨x, _, rfl⟩ := List.mem_map.1 hu
  rfl


/-- word.Fill: what it answers. -/
def fillE (len at_ n : Int) : Int := if 256 < len then 2 else stretchF len n [at_]
def fillL (a : List Int) (at_ n : Nat) (v : Int) : List Int := a.take at_ ++ List.replicate n v ++ a.drop (at_ + n)

theorem stretchF_cases (len n : Int) (l : List Int) : stretchF len n l = 0 ∨ stretchF len n l = 4 := by
  induction l with
  | nil => exact .inl rfl
  | cons k r ih =>
    unfold stretchF
    split
    · exact .inr rfl
    · exact ih

theorem fillE_cases (len at_ n : Int) : fillE len at_ n = 0 ∨ fillE len at_ n = 2 ∨ fillE len at_ n = 4 := by
  unfold fillE
  split
  · exact .inr (.inl rfl)
  · rcases stretchF_cases len n [at_] with h | h
    · exact .inl h
    · exact .inr (.inr h)

theorem fillE_ok {len at_ n : Int} : fillE len at_ n = 0 ↔ len ≤ 256 ∧ 0 ≤ n ∧ 0 ≤ at_ ∧ at_ ≤ len ∧ n ≤ len - at_ := by
  unfold fillE
  split
  · constructor
    · intro h; cases h
    · omega
  · simp only [stretchF]
    split
    · constructor
      · intro h; cases h
      · omega
    · constructor
      · intro _; omega
      · intro _; rfl

theorem fillL_length (a : List Int) (at_ n : Nat) (v : Int) (h : at_ + n ≤ a.length) : (fillL a at_ n v).length = a.length := by
  simp [fillL]; omega

theorem fillL_zero (a : List Int) (at_ : Nat) (v : Int) : fillL a at_ 0 v = a := by simp [fillL]

theorem fillL_succ (a : List Int) (at_ n : Nat) (v : Int) (h : at_ + n < a.length) : (fillL a at_ n v).set (at_ + n) v = fillL a at_ (n + 1) v := by
  have hl : (a.take at_ ++ List.replicate n v).length = at_ + n := by simp; omega
  have hd : a.drop (at_ + n) = a[at_ + n] :: a.drop (at_ + n + 1) := List.drop_eq_getElem_cons h
  unfold fillL
  rw [hd, List.set_append_right _ _ (by omega), hl, Nat.sub_self, List.set_cons_zero, List.replicate_succ', ← Nat.add_assoc]
  simp

set_option maxHeartbeats 400000 in
theorem fill_bad (A : Option Addr) (n c B : Nat) (at_ k v : Int) (w : World)
    (ha : -9223372036854775808 ≤ at_ ∧ at_ ≤ 9223372036854775807) (hk : -9223372036854775808 ≤ k ∧ k ≤ 9223372036854775807) (hbad : fillE n at_ k ≠ 0) :
    Calls Try.prog 28 #[.slice A n c, .int .i64 at_, .int .i64 k, .int .u64 v] w fun e w' => Below w.heap.size w w' ∧ e = .returned (.tuple #[.slice none 0 0, .int .i64 (fillE n at_ k)]) := by
  by_cases hbig : 256 < n
  · have hE : fillE n at_ k = 2 := by unfold fillE; rw [if_pos (by omega)]
    rw [hE]
    clear hbad hE
    go_enter Try.func28, Try.ntmps28
    go_wp2_with (go_at_call 50; refine (stretches_big _ _ _ _ _ _ hbig).mono ?_; rintro e w' ⟨rfl, rfl⟩)
    go_ret2
    exact ⟨(Below.refl _ _).alloc (Nat.le_refl _) _, rfl⟩
  · have hE : fillE n at_ k = 4 := by
      rcases fillE_cases n at_ k with h | h | h
      · exact absurd h hbad
      · unfold fillE at h
        rw [if_neg (by omega)] at h
        rcases stretchF_cases n k [at_] with h' | h' <;> rw [h'] at h <;> cases h
      · exact h
    have hS : stretchF n k [at_] = 4 := by unfold fillE at hE; rwa [if_neg (by omega)] at hE
    rw [hE]
    have HS := Lib.hid hS
    clear hbad hE hS
    go_enter Try.func28, Try.ntmps28
    go_wp2_with (go_at_call 50; refine (stretches_any _ _ _ _ _ _ 1 _ [at_] _ (by omega) (by omega) (reads_new w [.int .i64 at_] 3 1 1 rfl) hk (by simpa using ha)).mono ?_; rw [HS.out]; rintro e w' ⟨rfl, rfl⟩)
    go_ret2
    exact ⟨(Below.refl _ _).alloc (Nat.le_refl _) _, rfl⟩

set_option maxHeartbeats 400000 in
theorem fill_ok (A : Option Addr) (n c B : Nat) (xs : List Int) (at_ k v : Int) (w : World) (hr : Reads w B 1 A n (xs.map (.int .u64))) (hB : B ≤ w.heap.size) (hok : fillE n at_ k = 0) :
    Calls Try.prog 28 #[.slice A n c, .int .i64 at_, .int .i64 k, .int .u64 v] w fun e w' => Below w.heap.size w w' ∧
      ∃ A' c', e = .returned (.tuple #[.slice A' n c', .int .i64 0]) ∧ w'.ownsRow w.heap.size 56 1 (.slice A' n c') n ((fillL xs at_.toNat k.toNat v).map (.int .u64)) := by
  obtain ⟨h1, h2, h3, h4, h5⟩ := fillE_ok.1 hok
  have hS : stretchF n k [at_] = 0 := by unfold fillE at hok; rwa [if_neg (by omega)] at hok
  have HS := Lib.hid hS
  clear hok hS
  obtain ⟨at0, rfl⟩ := Int.eq_ofNat_of_zero_le h3
  obtain ⟨k0, rfl⟩ := Int.eq_ofNat_of_zero_le h2
  have hxl : xs.length = n := by have := hr.1; simpa using this
  have HX := Lib.hid hxl
  clear hxl
  go_enter Try.func28, Try.ntmps28
  go_wp2_with (first
    | (go_at_call 50; refine (stretches_any _ _ _ _ _ _ 1 _ [↑at0] _ (by omega) (by omega) (reads_new w [.int .i64 at0] 3 1 1 rfl) (by omega) (by simp; omega)).mono ?_; rw [HS.out]; rintro e w' ⟨rfl, rfl⟩)
    | (go_at_call 22; refine (clone_u64 _ _ _ _ _ _ (hr.alloc hB _) (by simp; omega) (u64s_one _) (by omega)).mono ?_; rintro e w1 ⟨A', c', rfl, hown, hb⟩))
  go_loopw [24] (fun i wr => ∃ j : Nat, j ≤ k0 ∧ i = .int .i64 j ∧ wr.ownsRow w.heap.size 56 1 (.slice A' n c') n ((fillL xs at0 j v).map (.int .u64)) ∧ Below w.heap.size w wr) (fun i _ => k0 - (intOf i).toNat)
  case atStart => exact ⟨0, Nat.zero_le _, rfl, by rw [fillL_zero]; exact (own_mono hown (by simp)), ((Below.refl _ _).alloc (Nat.le_refl _) _).trans (hb.mono (by simp))⟩
  case round =>
    obtain ⟨j, hj, rfl, hown1, hb1⟩ := hrel
    by_cases hlt : j < k0
    · obtain ⟨g, cap, hv, hg, -⟩ := hown1.form (by omega)
      obtain ⟨rfl, -, rfl⟩ : A' = some ⟨g, 0, none⟩ ∧ n = n ∧ c' = cap := by simpa using hv
      have hcell := hown1.cellAt (at0 + j) (by omega)
      have hfl := fillL_length xs at0 j v (by rw [HX.out]; omega)
      rw [List.getElem?_eq_getElem (by simp [hfl, HX.out]; omega)] at hcell
      generalize ((fillL xs at0 j v).map (Value.int .u64))[at0 + j]'_ = u0 at hcell
      have hfr := hown1.frozenAt (at0 + j)
      clear hfl
      go_wp2
      go_roundw
      case rel => exact ⟨j + 1, by omega, by go_num, by rw [← fillL_succ _ _ _ _ (by rw [HX.out]; omega), List.map_set]; exact (hown1.stored (at0 + j) (.int .u64 v)).1, hb1.setCell (p := ⟨g, at0 + j, none⟩) (hown1.lt g rfl).1 _⟩
      case measure => simp [intOf]; omega
    · have hjk : j = k0 := by omega
      subst hjk
      go_wp2
      go_ret2
      exact ⟨hb1, A', c', rfl, hown1⟩

/-- word.Move: what it answers. -/
def moveE (len from_ to n : Int) : Int := if 256 < len then 2 else stretchF len n [from_, to]
def moveL (a : List Int) (from_ to n : Nat) : List Int := splice a to ((a.drop from_).take n)

theorem moveE_cases (len from_ to n : Int) : moveE len from_ to n = 0 ∨ moveE len from_ to n = 2 ∨ moveE len from_ to n = 4 := by
  unfold moveE
  split
  · exact .inr (.inl rfl)
  · rcases stretchF_cases len n [from_, to] with h | h
    · exact .inl h
    · exact .inr (.inr h)

theorem moveE_ok {len from_ to n : Int} : moveE len from_ to n = 0 ↔ len ≤ 256 ∧ 0 ≤ n ∧ 0 ≤ from_ ∧ n ≤ len - from_ ∧ 0 ≤ to ∧ n ≤ len - to := by
  unfold moveE
  split
  · constructor
    · intro h; cases h
    · omega
  · simp only [stretchF]
    split
    · constructor
      · intro h; cases h
      · omega
    · split
      · constructor
        · intro h; cases h
        · omega
      · constructor
        · intro _; omega
        · intro _; rfl

end Go.Proofs.Ytjpleagcdncbfab
