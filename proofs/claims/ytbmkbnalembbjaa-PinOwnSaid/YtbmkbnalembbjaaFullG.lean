/-
  Rows of elements of several cells, known to their ends, while cells of any of them are written.
-/
import Derived.Test.YtbmkbnalembbjaaOwnBase
import Derived.Test.YtbmkbnalembbjaaTintHeap
namespace Go.Proofs.Ytbmkbnalembbjaa
open Go.RowKit

/-- A row to its end: every cell is of its kind. -/
def FullG (ok : Nat → Value → Prop) (k : Nat) (t : TypeId) (W : World) (base : Nat) (A : Option Addr) (c : Nat) : Prop := ∃ ys, OwnT W base t k ok (.slice A c c) c ys
section
variable {ok ok' : Nat → Value → Prop} {k k' : Nat} {t t' : TypeId} {W W' : World} {base base' c c' : Nat} {A : Option Addr}
theorem FullG.below (h : FullG ok k t W base A c) (hb : Below W.heap.size W W') : FullG ok k t W' base A c := by
  obtain ⟨ys, h⟩ := h
  exact ⟨ys, h.below hb⟩
theorem FullG.of {n : Nat} {xs : List Value} (h : OwnT W base' t k ok (.slice A n c) n xs) (hb : base ≤ base') : FullG ok k t W base A c := by
  rcases h.1.2 with ⟨h1, h2⟩ | ⟨g, cap, cur, h1, -⟩
  · injection h1 with a1 a2 a3
    subst a1 a2 a3
    exact ⟨xs, h.mono hb⟩
  · injection h1 with a1 a2 a3
    subst a1 a3
    obtain ⟨cur, h1, h2, h3, h4, h5, -, h7⟩ := h.open
    exact ⟨_, (OwnT.close cur h1 h2 (Nat.le_refl _) h4 h5 h7).mono hb⟩
theorem FullG.mono (h : FullG ok k t W base' A c) (hb : base ≤ base') : FullG ok k t W base A c := by
  obtain ⟨ys, h⟩ := h
  exact ⟨ys, h.mono hb⟩
theorem FullG.cap (h : FullG ok k t W base A c) : c ≤ 9223372036854775807 := by
  obtain ⟨ys, h⟩ := h
  rcases h.1.2 with ⟨h1, h2⟩ | ⟨g, cap, cur, h1, -, -, -, h3, -⟩
  · omega
  · injection h1 with a1 a2 a3
    unfold maxLen at h3
    omega
theorem FullG.cell {j : Nat} (h : FullG ok k t W base A c) (hj : j < c * k) : ∃ (g : Nat) (v : Value), A = some ⟨g, 0, none⟩ ∧ base ≤ g ∧ W.cell? ⟨g, j, none⟩ = some v ∧ ok (j % k) v ∧ W.frozen? ⟨g, j, none⟩ = false := by
  obtain ⟨ys, h⟩ := h
  have hc : 0 < c := Nat.pos_of_ne_zero (fun h0 => by rw [h0, Nat.zero_mul] at hj; omega)
  obtain ⟨g, rfl, hg⟩ := own_ptr h.1 hc
  obtain ⟨cur, b1, b2, b3, b4, b5, -, b7⟩ := h.open
  have hB : Blk W g t cur.toArray := b2
  have hl : j < cur.length := by rw [b5]; exact hj
  refine ⟨g, cur[j], rfl, hg, ?_, b7 j _ (List.getElem?_eq_getElem hl), hB.frozen j⟩
  rw [hB.cell, List.getElem?_toArray, List.getElem?_eq_getElem hl]
theorem ownT_put {w : World} {base g n c k : Nat} {e : TypeId} {ok : Nat → Value → Prop} {xs : List Value} (h : OwnT w base e k ok (.slice (some ⟨g, 0, none⟩) n c) n xs) (j : Nat) (u : Value) (hu : ok (j % k) u) :
    OwnT (w.setCell ⟨g, j, none⟩ u) base e k ok (.slice (some ⟨g, 0, none⟩) n c) n (xs.set j u) := by
  obtain ⟨cur, hb, hg, hc, hm, hl, ht, hty⟩ := h.open
  have hB : Blk w g e cur.toArray := hg
  have hB2 := hB.set_ j u
  simp only [List.setIfInBounds_toArray] at hB2
  have := OwnT.close (size := k) (n := n) (c := c) (ok := ok) (cur.set j u) hb hB2 hc hm (by rw [List.length_set]; exact hl) (fun i v hv => by
    by_cases hij : j = i
    · subst hij
      by_cases hlt : j < cur.length
      · rw [List.getElem?_set_self hlt] at hv
        injection hv with hv
        rw [← hv]; exact hu
      · rw [List.set_eq_of_length_le (by omega)] at hv
        exact hty j v hv
    · rw [List.getElem?_set_ne hij] at hv
      exact hty i v hv)
  rw [List.take_set, ht] at this
  exact this
theorem FullG.put {g j : Nat} {u : Value} (h : FullG ok k t W base A c) (hu : ok (j % k) u) : FullG ok k t (W.setCell ⟨g, j, none⟩ u) base A c := by
  obtain ⟨ys, h⟩ := h
  by_cases hb : (Value.slice A c c).ownBlock = some g
  · rcases h.1.2 with ⟨h1, h2⟩ | ⟨g2, cap, cur0, h1, -⟩
    · rw [h1] at hb
      simp [Value.ownBlock] at hb
    · injection h1 with a1 a2 a3
      subst a1
      simp only [Value.ownBlock, Option.some.injEq] at hb
      subst hb
      exact ⟨_, ownT_put h j u hu⟩
  · exact ⟨ys, h.apart (p := ⟨g, j, none⟩) hb u⟩
theorem FullG.far {g j : Nat} {u : Value} (h : FullG ok k t W base A c) (h' : FullG ok' k' t' W base' (some ⟨g, 0, none⟩) c') (ht : t' ≠ t) : FullG ok k t (W.setCell ⟨g, j, none⟩ u) base A c := by
  obtain ⟨ys, h⟩ := h
  obtain ⟨zs, h'⟩ := h'
  exact ⟨ys, h.apart (p := ⟨g, j, none⟩) (own_kinds (g := g) h'.1 h.1 ht rfl) u⟩
end
theorem size_ofG {t : TypeId} (h : (Try.prog.info? t).map (·.size) = some 1) (w : World) : (sizeOf t).run Try.prog w = .ok 1 w := by
  obtain ⟨i, hi, h1⟩ := Option.map_eq_some_iff.1 h
  simp [sizeOf, run_typeInfo w hi, h1]
theorem idxG (m : Nat) (t el e : TypeId) (h : Try.prog.underlying t = some (.array m el)) (he : Try.prog.underlying el = some (.slice e)) (hs : ∀ w, (sizeOf el).run Try.prog w = .ok 1 w) (vs : Array Value) (k : Nat) (hk : k < m) (hv : vs.size = m) (w : World) : (Instr.index t (.agg vs) (.int .i64 k)).run Try.prog w = .ok (vs[k]!) w := by
  have h1 : (0 : Int) ≤ k ∧ (k : Int) < m := by omega
  have h2 : k < vs.size := by omega
  simp [Instr.index, asIntOf, run_underlying h, run_underlying he, isAgg, hs, hk, h1, h2, go_sem]
end Go.Proofs.Ytbmkbnalembbjaa
