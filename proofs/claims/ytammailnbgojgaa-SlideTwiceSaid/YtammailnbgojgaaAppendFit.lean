/-
  append within the capacity of an owned slice: no bound on the bytes is wanted.
-/
import Derived.Test.YtammailnbgojgaaMem
namespace Go.Proofs.Ytammailnbgojgaa
open Go.RowKit

theorem grownBy_setRow {w : World} {g : Nat} {cs : Array Value} : w.grownBy (w.setRow g cs) (some g) := by
  refine ⟨rfl, rfl, rfl, by simp [World.setRow], fun b hb hne => ?_⟩
  exact setRow_other _ _ _ _ (fun e => hne (by rw [e]))

section
variable {P : Program} (w : World)
theorem run_append_fit (base : Nat) (t ty e : TypeId) (i : TypeInfo) (size : Nat) (ht : P.underlying t = some (.slice e)) (hi : P.info? e = some i) (hsize : i.size = size)
    (A : Option Addr) (n cap : Nat) (xs : List Value) (hown : w.ownsRow base e size (.slice A n cap) n xs) (B : Nat) (As : Option Addr) (m c : Nat) (news : List Value) (hr : Reads w B size As m news) (h1 : ∀ u ∈ news, u.oneCell' = true) (hpos : 0 < size)
    (hfit : n + m ≤ cap) :
    ∃ w', (Builtin.append_ #[t, t] ty #[.slice A n cap, .slice As m c]).run P w = .ok (.slice A (n + m) cap) w' ∧ w'.ownsRow base e size (.slice A (n + m) cap) (n + m) (xs ++ news) ∧ w.grownBy w' (Value.slice A n cap).ownBlock := by
  have hnil : m = 0 → news = [] := fun h => List.eq_nil_of_length_eq_zero (by rw [hr.1, h]; simp)
  rcases As with _ | ad
  · have hm : m = 0 := by
      rcases Nat.eq_zero_or_pos m with h0 | h0
      · exact h0
      · obtain ⟨ad, h, _⟩ := hr.2 h0
        cases h
    subst hm
    rw [hnil rfl]
    exact ⟨w, run_append_of_nil w base t ty e i size ht hi _ n xs hown c, by simpa using hown, World.grownBy.refl w _⟩
  · have hcells : ∀ j u, news[j]? = some u → w.cell? (ad.add j) = some u := by
      intro j u hu
      rcases Nat.eq_zero_or_pos m with h0 | h0
      · rw [hnil h0] at hu; simp at hu
      · obtain ⟨ad', h, _, hc⟩ := hr.2 h0
        injection h with h
        subst h
        exact hc j u hu
    rcases hown.2 with ⟨hv, hx⟩ | ⟨g, cap', cur, hv, -⟩
    · injection hv with e1 e2 e3
      subst e1 e2 e3
      have hm : m = 0 := by omega
      subst hm
      rw [hnil rfl]
      have hl0 := run_loadCells_list (P := P) w ad [] (by simp)
      simp only [List.length_nil] at hl0
      exact ⟨w, by simp [hl0, Builtin.append_, run_underlying ht, sizeOf, typeInfo, hi, Builtin.lenOf, Builtin.firstCells], by simpa using hown, World.grownBy.refl w _⟩
    · injection hv with e1 e2 e3
      subst e1
      obtain ⟨cur, hb, hg, hc, hm, hs, htk⟩ := own_open hown
      have hlen : news.length = m * size := hr.1
      have hmul : (n + m) * size ≤ cap * size := Nat.mul_le_mul_right _ hfit
      have hsum : (n + m) * size = n * size + m * size := Nat.add_mul _ _ _
      have hrun := run_appendK (P := P) w t ty e size g n cap ad m c cur e news ht (by rw [hi]; simp [hsize]) hg hlen hcells hfit (by omega) h1
      refine ⟨_, hrun, ?_, grownBy_setRow⟩
      have hl2 : (splice cur (n * size) news).length = cap * size := by unfold splice; simp; omega
      have := own_close (w := w.setRow g (splice cur (n * size) news).toArray) (base := base) (e := e) (size := size) (n := n + m) (c := cap) (g := g) (splice cur (n * size) news) hb (setRow_heap w g _ _ _ _ hg) hfit hm hl2
      have h3 : (splice cur (n * size) news).take ((n + m) * size) = xs ++ news := by
        rw [hsum, take_splice _ _ _ _ (by omega) (by omega)]
        unfold splice
        rw [List.take_take, Nat.min_eq_left (by omega), htk, List.drop_of_length_le (by rw [List.length_take]; omega), List.append_nil]
      rw [h3] at this
      exact this
end
end Go.Proofs.Ytammailnbgojgaa
