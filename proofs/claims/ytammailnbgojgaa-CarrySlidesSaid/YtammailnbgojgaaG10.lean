/-
  Texts joined: CleanGaps CopyWf.
-/
import Derived.Test.YtammailnbgojgaaG5
import Derived.Test.YtammailnbgojgaaG7
import Derived.Test.YtammailnbgojgaaG9
/-
  Plain law: the gaps of a cleaned arena; cleaned twice. No program stands here.
-/
namespace Go.Proofs.Ytammailnbgojgaa
open Go.RowKit

theorem rsum_takeG {L : List Rn} {M : Int} (h : ∀ r ∈ L, 0 ≤ r.len ∧ r.len ≤ M) : ∀ j, j ≤ L.length → 0 ≤ rsum (L.take j) ∧ rsum (L.take j) ≤ M * j := by
  intro j
  induction j with
  | zero => intro _; simp [rsum]
  | succ j ih =>
    intro hj
    have hlt : j < L.length := by omega
    rw [List.take_succ_eq_append_getElem hlt, rsum_append]
    have h1 := h _ (List.getElem_mem hlt)
    have h2 := ih (by omega)
    simp only [rsum]
    have e : M * ((j + 1 : Nat) : Int) = M * j + M := by rw [Int.natCast_add, Int.mul_add]; simp
    rw [e]
    omega
theorem rsum_mono {L : List Rn} (h : ∀ r ∈ L, 0 ≤ r.len) : ∀ j, rsum (L.take j) ≤ rsum L := by
  induction L with
  | nil => intro j; simp
  | cons r L ih =>
    intro j
    have h0 := h r List.mem_cons_self
    have ih' := ih (fun x hx => h x (List.mem_cons_of_mem _ hx))
    cases j with
    | zero =>
      have := ih' 0
      simp only [List.take_zero, rsum] at this ⊢
      omega
    | succ j =>
      have := ih' j
      simp only [List.take_succ_cons, rsum]
      omega
theorem longsL_isum {a L longs : List Int} (hl : longs.length = L.length) (h : ∀ (j : Nat) (x : Int), L[j]? = some x → longs[j]? = some (longW (spotsL a) x)) : isum longs = longsL (spotsL a) L := by
  induction L generalizing longs with
  | nil => obtain rfl : longs = [] := List.eq_nil_of_length_eq_zero hl
           rfl
  | cons x L ih =>
    cases longs with
    | nil => cases hl
    | cons k longs =>
      have h0 := h 0 x rfl
      simp only [List.getElem?_cons_zero, Option.some.injEq] at h0
      simp only [isum, longsL]
      rw [ih (by simpa using hl) (fun j y hy => by have := h (j + 1) y (by simpa using hy); simpa using this), h0]

theorem Cleaned.gaps {a f p L Y b now : List Int} (h : Cleaned a f p L Y b now) (hI : CleanIs a f p L Y b now) :
    ggL b = pgaps a.length 0 Y (longsV a L p) ∧ rsum (ggL b) + longsL (spotsL a) L = a.length ∧ (∀ r ∈ ggL b, 0 ≤ r.len ∧ r.len ≤ 256) ∧ (ggL b).length ≤ p.length + 1 ∧ (ggL b).length ≤ 257 := by
  have hg : ggL b = pgaps a.length 0 Y (longsV a L p) := by
    unfold ggL
    rw [if_pos h.laid.check, h.laid.gaps, h.plan.ys, h.plan.lens]
  obtain ⟨hK, hN⟩ := kept_of hI.longs
  have hs := pgaps_sum a.length p L (longsV a L p) 0 hK (fun x hx => h.plan.nn2 x (List.mem_of_getElem? hx)) (by omega)
  rw [← hI.y] at hs
  have hlen : (pgaps a.length 0 Y (longsV a L p)).length ≤ p.length + 1 := by
    rw [hI.y]
    exact pgaps_few (reached_rises hI.reached)
  have hlen2 : (pgaps a.length 0 Y (longsV a L p)).length ≤ L.length + 1 := by
    rw [hI.y]
    have h1 := pgaps_count a.length p L (longsV a L p) 0
    have h2 := List.length_filter_le (fun x => decide (x ∈ p)) L
    omega
  have hll := h.lenL
  have hsum : isum (longsV a L p) = longsL (spotsL a) L := longsL_isum h.plan.lenL (fun j x hx => by
    obtain ⟨s, i, e1, -, -, -, -, e6, -⟩ := h.plan.at_ j x _ hx (List.getElem?_eq_getElem (l := Y) (i := j) (by rw [h.plan.len]; exact (List.getElem?_eq_some_iff.1 hx).1))
    rw [e6]
    unfold longW
    rw [e1])
  rw [hg]
  refine ⟨rfl, by rw [← hsum, hs.1]; omega, fun r hr => ?_, hlen, by omega⟩
  have := hs.2 r hr
  omega
end Go.Proofs.Ytammailnbgojgaa

/-
  Plain law: the words of a copied arena, and where its objects stand. No program stands here.
-/
namespace Go.Proofs.Ytammailnbgojgaa
open Go.RowKit

theorem CopyIs.nn {a f O Y b : List Int} {N : Nat} (hI : CopyIs a f N O Y b) : 0 ≤ longsL (spotsL a) O := by
  have hD := copied_of hI
  exact longsL_nn (fun x hx => by
    obtain ⟨j, hj⟩ := List.mem_iff_getElem?.1 hx
    obtain ⟨s, i, h⟩ := (copy_facts hI.check hD.closed id).2 j x hj
    unfold longW
    rw [h.spot]
    have := h.ok.r0
    have := h.ok.b0
    simp only [Spot.long]
    omega)
theorem CopyIs.yb {a f O Y b : List Int} {N : Nat} (hI : CopyIs a f N O Y b) : ∀ y ∈ Y, 0 ≤ y ∧ y ≤ 256 := fun y hy => by
  have hD := copied_of hI
  have hM := hI.le
  have hfit := hI.fit
  obtain ⟨j, hj⟩ := List.mem_iff_getElem?.1 hy
  have hjl : j < O.length := by rw [← hD.len]; exact (List.getElem?_eq_some_iff.1 hj).1
  rw [hI.y, sumsY_at _ _ _ _ hjl] at hj
  have h1 := (copy_facts hI.check hD.closed id).1 j
  have h2 := (copy_facts hI.check hD.closed id).1 O.length
  rw [List.take_length] at h2
  have := Option.some.inj hj
  have := h1.2.2.1
  have := h1.2.2.2.1
  have := h2.2.2.1
  omega
theorem CopyIs.wf {a f O Y b : List Int} {N : Nat} (hI : CopyIs a f N O Y b) (ha : ∀ x ∈ a, (Lit.int .u64 x).wf = true) : ∀ x ∈ b, (Lit.int .u64 x).wf = true := by
  have hD := copied_of hI
  have := laid_wf ha hD.rows hI.le (fun y hy => (hI.yb y hy).2) hD.nodup hD.len hD.closed hD.nn
  rw [hI.b]
  exact this
theorem CopyIs.ix {a f O Y b : List Int} {N : Nat} (hI : CopyIs a f N O Y b) : ∀ x ∈ O, ∃ (q : Nat) (y : Int), q < O.length ∧ ixOf (fun z => x == z) O = q ∧ Y[q]? = some y ∧ posL O Y x = y := fun x hx => by
  have hD := copied_of hI
  obtain ⟨q, y, h1, h2, h3⟩ := posL_ex (keep := O) (Y := Y) hD.nodup hD.len hx
  exact ⟨q, y, (List.getElem?_eq_some_iff.1 h1).1, idxL_at hD.nodup h1, h2, h3⟩
theorem CopyIs.nowf {a f O Y b : List Int} {N : Nat} (hI : CopyIs a f N O Y b) : ∀ x ∈ f.map (posL O Y), (Lit.int .i64 x).wf = true := fun x hx => by
  obtain ⟨z, hz, rfl⟩ := List.mem_map.1 hx
  obtain ⟨q, y, -, -, h1, h2⟩ := hI.ix z (hI.ordered.roots z hz)
  have := hI.yb y (List.mem_of_getElem? h1)
  rw [h2]
  simp [Lit.wf, IntKind.min, IntKind.max, IntKind.signed, IntKind.bits]
  omega
/-- What is reached has no more words than there are. -/
theorem reached_fits {a f L : List Int} (h0 : checkE a = 0) (h : Reached a (spotsL a) f L) : longsL (spotsL a) L ≤ a.length := by
  have h' : Reached a (spotsL a) (f ++ []) L := by rw [List.append_nil]; exact h
  have hI : CleanIs a f [] L (slidGo [] 0 L (longsV a L [])) (slidW a L []) (f.map (posL L (slidGo [] 0 L (longsV a L [])))) := ⟨h0, rfl, h', (clean_longs h0 h').1 rfl, rfl, rfl, rfl⟩
  have hD := cleaned_of hI
  obtain ⟨-, g2, g3, -⟩ := hD.gaps hI
  have := (rsum_takeG g3 (ggL (slidW a L [])).length (Nat.le_refl _)).1
  rw [List.take_length] at this
  omega
theorem ordered_fits {a f O : List Int} (h0 : checkE a = 0) (h : Ordered a (spotsL a) f O) : longsL (spotsL a) O ≤ a.length := by
  have := reached_fits h0 (h.search.done h.roots)
  rwa [longsL_perm (spotsL a) (sortL_perm O)] at this
end Go.Proofs.Ytammailnbgojgaa
