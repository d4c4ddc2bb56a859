/-
  Rows of one's own whose cells are known: small laws; slices.Clone at []uint64.
-/
import Derived.Test.YtbmkbnalembbjaaOwnT
import Derived.Test.YtbmkbnalembbjaaWord
import Derived.Test.YtbmkbnalembbjaaMem
import Derived.Test.YtbmkbnalembbjaaBase2
namespace Go.Proofs.Ytbmkbnalembbjaa
open Go.RowKit

theorem own_u64_ok {w : World} {base n : Nat} {v : Value} {a : List Int} (h : OwnT w base 37 1 (isNum .u64) v n (a.map (.int .u64))) : ∀ x ∈ a, (Lit.int .u64 x).wf = true := by
  intro x hx
  obtain ⟨j, hj⟩ := List.mem_iff_getElem?.1 hx
  obtain ⟨y, e, hy⟩ := h.elems j (.int .u64 x) (by rw [List.getElem?_map, hj]; rfl)
  injection e with _ e
  rw [e]; exact hy
theorem own_i64_ok {w : World} {base n : Nat} {v : Value} {a : List Int} (h : OwnT w base 3 1 (isNum .i64) v n (a.map (.int .i64))) : ∀ x ∈ a, (Lit.int .i64 x).wf = true := by
  intro x hx
  obtain ⟨j, hj⟩ := List.mem_iff_getElem?.1 hx
  obtain ⟨y, e, hy⟩ := h.elems j (.int .i64 x) (by rw [List.getElem?_map, hj]; rfl)
  injection e with _ e
  rw [e]; exact hy

theorem OwnT.apart {w : World} {base : Nat} {e : TypeId} {size : Nat} {ok : Nat → Value → Prop} {v : Value} {n : Nat} {xs : List Value} (h : OwnT w base e size ok v n xs) {p : Addr} (hp : v.ownBlock ≠ some p.block) (u : Value) : OwnT (w.setCell p u) base e size ok v n xs :=
  ⟨own_apart h.1 hp u, fun g cur hg hc => h.2 g cur hg (by rw [← hc]; exact (Below.heap_setCell w p u g (fun e => hp (by rw [hg, e]))).symm)⟩
/-- One word of an owned list is set. -/
theorem OwnT.setElem {w : World} {base : Nat} {e : TypeId} {ok : Nat → Value → Prop} {q n c i : Nat} {xs : List Value} (h : OwnT w base e 1 ok (.slice (some ⟨q, 0, none⟩) n c) n xs) (hi : i < n) {u : Value} (hu : ok 0 u) :
    OwnT (w.setCell ⟨q, i, none⟩ u) base e 1 ok (.slice (some ⟨q, 0, none⟩) n c) n (xs.set i u) ∧ (∃ v, w.cell? ⟨q, i, none⟩ = some v) ∧ w.frozen? ⟨q, i, none⟩ = false := by
  obtain ⟨cur, h1, h2, h3, h4, h5, h6, h7⟩ := h.open
  have hB : Blk w q e cur.toArray := h2
  have hs := hB.set_ i u
  rw [List.setIfInBounds_toArray] at hs
  have hi2 : i < cur.length := by omega
  refine ⟨?_, ⟨cur[i], by rw [hB.cell]; simp [hi2]⟩, hB.frozen i⟩
  have := OwnT.close (w := w.setCell ⟨q, i, none⟩ u) (n := n) (c := c) (size := 1) (ok := ok) (cur.set i u) h1 hs h3 h4 (by rw [List.length_set]; exact h5) (fun j v hj => by
    by_cases hji : i = j
    · subst hji
      rw [List.getElem?_set_self hi2] at hj
      injection hj with hj
      rw [Nat.mod_one, ← hj]
      exact hu
    · rw [List.getElem?_set_ne hji] at hj
      exact h7 j v hj)
  rw [List.take_set, h6] at this
  exact this
theorem own_ptr {w : World} {base n c size : Nat} {e : TypeId} {A : Option Addr} {xs : List Value} (h : w.ownsRow base e size (.slice A n c) n xs) (hn : 0 < n) : ∃ q, A = some ⟨q, 0, none⟩ ∧ base ≤ q := by
  rcases h.2 with ⟨h1, h2⟩ | ⟨q, cap, cur, h1, h2, -⟩
  · omega
  · injection h1 with h1
    exact ⟨q, h1, h2⟩

theorem splice_ok {p : Value → Prop} {Z : List Value} {I : Nat} {vs : List Value} (h1 : ∀ u ∈ Z, p u) (h2 : ∀ u ∈ vs, p u) : ∀ u ∈ splice Z I vs, p u := by
  intro u hu
  unfold splice at hu
  rcases List.mem_append.1 hu with hu | hu
  · exact h1 u (List.mem_of_mem_take hu)
  · rcases List.mem_append.1 hu with hu | hu
    · exact h2 u hu
    · exact h1 u (List.mem_of_mem_drop hu)
set_option maxHeartbeats 400000 in
theorem clone_u64T (A : Option Addr) (n c B : Nat) (xs : List Value) (w : World) (hr : Reads w B 1 A n xs) (hB : B ≤ w.heap.size) (h1 : ∀ u ∈ xs, u.oneCell' = true) (hno : ∀ j u, xs[j]? = some u → isNum .u64 (j % 1) u) (hn : n * 8 ≤ 140737488355328) :
    Calls Try.prog 24 #[.slice A n c] w fun e w' => ∃ A' c', e = .returned (.slice A' n c') ∧ OwnT w' w.heap.size 37 1 (isNum .u64) (.slice A' n c') n xs ∧ Below w.heap.size w w' := by
  obtain ⟨i0, hi, hz0, hz1, hz2⟩ := info_parts info_u64
  rcases A with _ | ad
  · have hm : n = 0 := by
      rcases Nat.eq_zero_or_pos n with h0 | h0
      · exact h0
      · obtain ⟨ad, h, _⟩ := hr.2 h0
        cases h
    subst hm
    have hx : xs = [] := List.eq_nil_of_length_eq_zero (by simpa using hr.1)
    subst hx
    have hnil := fun (w : World) => Lib.run_eql_slice_nil (P := Try.prog) w 23 37 none 0 c 0 0 Try.underlying23
    go_enter Try.func24, Try.ntmps24
    go_wp2
    go_ret
    exact ⟨none, 0, rfl, OwnT.nil _ _ _ _ _, Below.refl _ _⟩
  · have hnil := fun (w : World) => Lib.run_eql_slice_nil (P := Try.prog) w 23 37 (some ad) n c 0 0 Try.underlying23
    have hmade : OwnT (w.alloc (.cells #[] 37)) w.heap.size 37 1 (isNum .u64) (.slice (some ⟨w.heap.size, 0, none⟩) 0 0) 0 [] := OwnT.close (w := w.alloc (.cells #[] 37)) (n := 0) (c := 0) (size := 1) [] (Nat.le_refl _) (heap_alloc_new w _) (Nat.le_refl _) (by decide) rfl (by simp)
    go_enter Try.func24, Try.ntmps24
    go_wp2_with (at_builtin; refine wpList_append_T _ rfl (.tmp 5) (.tmp 6) 23 rfl w.heap.size 37 i0 (.int .u64 0) 1 8 Try.underlying23 hi hz0 hz1 hz2 rfl (by decide) (zero_num .u64 rfl) (.slice (some ⟨w.heap.size, 0, none⟩) 0 0) 0 [] rfl hmade B (some ad) n c xs rfl (hr.alloc hB _) h1 hno (by simp [maxLen]; omega) (by simpa using hn) (by simp) ?_; rintro v' w1 hown hgr hbl -; obtain ⟨A', c', rfl⟩ := own_slice hown.1)
    go_ret
    exact ⟨A', c', rfl, by simpa using hown, ((Below.refl _ _).alloc (Nat.le_refl _) _).grown hgr (by simp) (by simp [Value.ownBlock])⟩
end Go.Proofs.Ytbmkbnalembbjaa
