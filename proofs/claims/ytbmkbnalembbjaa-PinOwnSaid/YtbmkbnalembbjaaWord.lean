/-
  package word: contracts of its functions.
-/
import Derived.Test.YtbmkbnalembbjaaRows
import Derived.Test.YtbmkbnalembbjaaBase
namespace Go.Proofs.Ytbmkbnalembbjaa
open Go.RowKit

def stretchF (len n : Int) : List Int → Int
  | [] => 0
  | k :: r => if n < 0 ∨ k < 0 ∨ len < k ∨ len - k < n then 4 else stretchF len n r

theorem size_u64 : (Try.prog.info? 37).map (·.size) = some 1 := by kernel_rfl
theorem info_u64 : (Try.prog.info? 37).map (fun i => (i.zero, i.size, i.bytes)) = some (some (.int .u64 0), 1, 8) := by kernel_rfl

set_option maxHeartbeats 400000 in
theorem clone_u64 (A : Option Addr) (n c B : Nat) (xs : List Value) (w : World) (hr : Reads w B 1 A n xs) (hB : B ≤ w.heap.size) (h1 : ∀ u ∈ xs, u.oneCell' = true) (hn : n * 8 ≤ 140737488355328) :
    Calls Try.prog 24 #[.slice A n c] w fun e w' => ∃ A' c', e = .returned (.slice A' n c') ∧ w'.ownsRow w.heap.size 37 1 (.slice A' n c') n xs ∧ Below w.heap.size w w' := by
  obtain ⟨i0, hi, hz0, hz1, hz2⟩ := info_parts info_u64
  rcases A with _ | ad
  · have hm : n = 0 := by
      rcases Nat.eq_zero_or_pos n with h0 | h0
      · exact h0
      · obtain ⟨ad, h, _⟩ := hr.2 h0
        cases h
    subst hm
    have hx : xs = [] := List.eq_nil_of_length_eq_zero (by simpa using hr.1)
    subst hx
    have hnil := fun (w : World) => Lib.run_eql_slice_nil (P := Try.prog) w 23 37 none 0 c 0 0 Try.underlying23
    go_enter Try.func24, Try.ntmps24
    go_wp2
    go_ret
    exact ⟨none, 0, rfl, World.ownsRow_nil _ _ _ _, Below.refl _ _⟩
  · have hnil := fun (w : World) => Lib.run_eql_slice_nil (P := Try.prog) w 23 37 (some ad) n c 0 0 Try.underlying23
    have hmade := World.ownsRow_made (e := 37) (size := 1) w #[] 0 (Nat.le_refl w.heap.size) (Nat.zero_le _) rfl
    go_enter Try.func24, Try.ntmps24
    go_wp2_with (at_builtin; refine wpList_append_any _ rfl (.tmp 5) (.tmp 6) 23 rfl w.heap.size 37 i0 (.int .u64 0) 1 8 Try.underlying23 hi hz0 hz1 hz2 rfl (by decide) (.slice (some ⟨w.heap.size, 0, none⟩) 0 0) 0 [] rfl hmade B (some ad) n c xs rfl (hr.alloc hB _) h1 (by simp [maxLen]; omega) (by simpa using hn) (by simp) ?_; rintro v' w1 hown hgr hbl -; obtain ⟨A', c', rfl⟩ := own_slice hown)
    go_ret
    exact ⟨A', c', rfl, by simpa using hown, ((Below.refl _ _).alloc (Nat.le_refl _) _).grown hgr (by simp) (by simp [Value.ownBlock])⟩
theorem u64s_one (l : List Int) : ∀ u ∈ l.map (Value.int .u64), u.oneCell' = true := by
  intro u hu
  obtain ⟨x, _, rfl⟩ := List.mem_map.1 hu
  rfl


/-- word.Fill: what it answers. -/
def fillE (len at_ n : Int) : Int := if 256 < len then 2 else stretchF len n [at_]
def fillL (a : List Int) (at_ n : Nat) (v : Int) : List Int := a.take at_ ++ List.replicate n v ++ a.drop (at_ + n)

theorem stretchF_cases (len n : Int) (l : List Int) : stretchF len n l = 0 ∨ stretchF len n l = 4 := by
  induction l with
  | nil => exact .inl rfl
  | cons k r ih =>
    unfold stretchF
    split
    · exact .inr rfl
    · exact ih

theorem fillE_cases (len at_ n : Int) : fillE len at_ n = 0 ∨ fillE len at_ n = 2 ∨ fillE len at_ n = 4 := by
  unfold fillE
  split
  · exact .inr (.inl rfl)
  · rcases stretchF_cases len n [at_] with h | h
    · exact .inl h
    · exact .inr (.inr h)

theorem fillE_ok {len at_ n : Int} : fillE len at_ n = 0 ↔ len ≤ 256 ∧ 0 ≤ n ∧ 0 ≤ at_ ∧ at_ ≤ len ∧ n ≤ len - at_ := by
  unfold fillE
  split
  · constructor
    · intro h; cases h
    · omega
  · simp only [stretchF]
    split
    · constructor
      · intro h; cases h
      · omega
    · constructor
      · intro _; omega
      · intro _; rfl

theorem fillL_length (a : List Int) (at_ n : Nat) (v : Int) (h : at_ + n ≤ a.length) : (fillL a at_ n v).length = a.length := by
  simp [fillL]; omega

theorem fillL_zero (a : List Int) (at_ : Nat) (v : Int) : fillL a at_ 0 v = a := by simp [fillL]

theorem fillL_succ (a : List Int) (at_ n : Nat) (v : Int) (h : at_ + n < a.length) : (fillL a at_ n v).set (at_ + n) v = fillL a at_ (n + 1) v := by
  have hl : (a.take at_ ++ List.replicate n v).length = at_ + n := by simp; omega
  have hd : a.drop (at_ + n) = a[at_ + n] :: a.drop (at_ + n + 1) := List.drop_eq_getElem_cons h
  unfold fillL
  rw [hd, List.set_append_right _ _ (by omega), hl, Nat.sub_self, List.set_cons_zero, List.replicate_succ', ← Nat.add_assoc]
  simp

/-- word.Move: what it answers. -/
def moveE (len from_ to n : Int) : Int := if 256 < len then 2 else stretchF len n [from_, to]
def moveL (a : List Int) (from_ to n : Nat) : List Int := splice a to ((a.drop from_).take n)

theorem moveE_cases (len from_ to n : Int) : moveE len from_ to n = 0 ∨ moveE len from_ to n = 2 ∨ moveE len from_ to n = 4 := by
  unfold moveE
  split
  · exact .inr (.inl rfl)
  · rcases stretchF_cases len n [from_, to] with h | h
    · exact .inl h
    · exact .inr (.inr h)

theorem moveE_ok {len from_ to n : Int} : moveE len from_ to n = 0 ↔ len ≤ 256 ∧ 0 ≤ n ∧ 0 ≤ from_ ∧ n ≤ len - from_ ∧ 0 ≤ to ∧ n ≤ len - to := by
  unfold moveE
  split
  · constructor
    · intro h; cases h
    · omega
  · simp only [stretchF]
    split
    · constructor
      · intro h; cases h
      · omega
    · split
      · constructor
        · intro h; cases h
        · omega
      · constructor
        · intro _; omega
        · intro _; rfl

end Go.Proofs.Ytbmkbnalembbjaa
