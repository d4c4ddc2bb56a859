/-
  Plain law: an arena whose objects stand elsewhere has the same form. No program stands here.
-/
import Derived.Test.YtammailnbgojgaaForm
import Derived.Test.YtammailnbgojgaaChunks
namespace Go.Proofs.Ytammailnbgojgaa
open Go.RowKit

/-- A reference where the objects stand elsewhere. -/
def refT (φ : Int → Int) (v : Int) : Int := if v = 0 then 0 else φ (v - 1) + 1
/-- The objects of L stand in arena b, each at φ of where it stood. -/
structure Iso (a b L : List Int) (φ : Int → Int) : Prop where
  nn : ∀ x ∈ L, 0 ≤ φ x
  inj : ∀ x ∈ L, ∀ y ∈ L, φ x = φ y → x = y
  at_ : ∀ x ∈ L, ∀ s, spotAt (spotsL a) x = some s → ∃ s', spotAt (spotsL b) (φ x) = some s' ∧ s'.r = s.r ∧ s'.b = s.b ∧ s'.t = s.t ∧ bodyOf b s' = bodyOf a s ∧ refsOf b s' = (refsOf a s).map (refT φ)
/-- What L must be. -/
structure ClosedL (a L : List Int) : Prop where
  begs : ∀ x ∈ L, x ∈ begsL (spotsL a)
  closed : ∀ x ∈ L, ∀ y ∈ linksAt a (spotsL a) x, y ∈ L
  nn : ∀ x ∈ L, 0 ≤ x

theorem linksT {φ : Int → Int} : ∀ (l : List Int), (∀ v ∈ l, v ≠ 0 → 0 ≤ φ (v - 1)) → (((l.map (refT φ)).filter fun v => v != 0).map fun v => v - 1) = ((l.filter fun v => v != 0).map fun v => v - 1).map φ := by
  intro l
  induction l with
  | nil => intro _; rfl
  | cons v l ih =>
    intro h
    have ih' := ih (fun u hu => h u (List.mem_cons_of_mem _ hu))
    rw [List.map_cons]
    by_cases h0 : v = 0
    · have e : refT φ v = 0 := by unfold refT; rw [if_pos h0]
      rw [e, List.filter_cons_of_neg (by simp), List.filter_cons_of_neg (by simp [h0])]
      exact ih'
    · have e : refT φ v = φ (v - 1) + 1 := by unfold refT; rw [if_neg h0]
      have hp := h v List.mem_cons_self h0
      rw [e, List.filter_cons_of_pos (by simp; omega), List.filter_cons_of_pos (by simp [h0]), List.map_cons, List.map_cons, List.map_cons, ih']
      congr 1
      omega

section
variable {a b L : List Int} {φ : Int → Int}
theorem Iso.link_of (hC : ClosedL a L) {x : Int} (hx : x ∈ L) {s : Spot} (hs : spotAt (spotsL a) x = some s) : ∀ v ∈ refsOf a s, v ≠ 0 → v - 1 ∈ L := fun v hv h0 => by
  refine hC.closed x hx (v - 1) ?_
  unfold linksAt
  rw [hs]
  exact List.mem_map.2 ⟨v, List.mem_filter.2 ⟨hv, by simpa using h0⟩, rfl⟩
theorem Iso.links (h : Iso a b L φ) (hC : ClosedL a L) {x : Int} (hx : x ∈ L) : linksAt b (spotsL b) (φ x) = (linksAt a (spotsL a) x).map φ := by
  obtain ⟨s, hs⟩ := begsL_iff.1 (hC.begs x hx)
  obtain ⟨s', hs', -, -, -, -, hr⟩ := h.at_ x hx s hs
  unfold linksAt
  rw [hs, hs']
  show linksL b s' = (linksL a s).map φ
  unfold linksL
  rw [hr]
  exact linksT _ (fun v hv h0 => h.nn _ (Iso.link_of hC hx hs v hv h0))
theorem Iso.addL (h : Iso a b L φ) {out : List Int} (ho : ∀ y ∈ out, y ∈ L) {x : Int} (hx : x ∈ L) : addL (out.map φ) (φ x) = (addL out x).map φ := by
  unfold Proofs.Ytammailnbgojgaa.addL
  by_cases hm : x ∈ out
  · rw [if_pos hm, if_pos (List.mem_map.2 ⟨x, hm, rfl⟩)]
  · rw [if_neg hm, if_neg (fun hh => by
      obtain ⟨y, hy, e⟩ := List.mem_map.1 hh
      exact hm (h.inj y (ho y hy) x hx e ▸ hy)), List.map_append]
    rfl
theorem Iso.addL_in {out : List Int} (ho : ∀ y ∈ out, y ∈ L) {x : Int} (hx : x ∈ L) : ∀ y ∈ Proofs.Ytammailnbgojgaa.addL out x, y ∈ L := fun y hy => by
  rcases addL_mem hy with h1 | rfl
  · exact ho y h1
  · exact hx
theorem Iso.fold (h : Iso a b L φ) : ∀ (l out : List Int), (∀ y ∈ out, y ∈ L) → (∀ y ∈ l, y ∈ L) → (l.map φ).foldl Proofs.Ytammailnbgojgaa.addL (out.map φ) = (l.foldl Proofs.Ytammailnbgojgaa.addL out).map φ ∧ ∀ y ∈ l.foldl Proofs.Ytammailnbgojgaa.addL out, y ∈ L
  | [], out, ho, _ => ⟨rfl, ho⟩
  | x :: l, out, ho, hl => by
    have hx := hl x List.mem_cons_self
    have ih := Iso.fold h l (Proofs.Ytammailnbgojgaa.addL out x) (Iso.addL_in ho hx) (fun y hy => hl y (List.mem_cons_of_mem _ hy))
    rw [List.map_cons, List.foldl_cons, List.foldl_cons, h.addL ho hx]
    exact ih
theorem Iso.bfs (h : Iso a b L φ) (hC : ClosedL a L) {f : List Int} (hf : ∀ y ∈ f, y ∈ L) : ∀ n, bfsL b (spotsL b) (f.map φ) n = (bfsL a (spotsL a) f n).map φ ∧ ∀ y ∈ bfsL a (spotsL a) f n, y ∈ L
  | 0 => by
    have := h.fold f [] (fun y hy => by cases hy) hf
    exact this
  | n + 1 => by
    obtain ⟨i1, i2⟩ := Iso.bfs h hC hf n
    show (match (bfsL b (spotsL b) (f.map φ) n)[n]? with | some x => (linksAt b (spotsL b) x).foldl Proofs.Ytammailnbgojgaa.addL (bfsL b (spotsL b) (f.map φ) n) | none => bfsL b (spotsL b) (f.map φ) n) = _ ∧ ∀ y ∈ (match (bfsL a (spotsL a) f n)[n]? with | some x => (linksAt a (spotsL a) x).foldl Proofs.Ytammailnbgojgaa.addL (bfsL a (spotsL a) f n) | none => bfsL a (spotsL a) f n), y ∈ L
    rw [i1, List.getElem?_map]
    have e : bfsL a (spotsL a) f (n + 1) = (match (bfsL a (spotsL a) f n)[n]? with | some x => (linksAt a (spotsL a) x).foldl Proofs.Ytammailnbgojgaa.addL (bfsL a (spotsL a) f n) | none => bfsL a (spotsL a) f n) := rfl
    rw [e]
    cases hx : (bfsL a (spotsL a) f n)[n]? with
    | none => exact ⟨rfl, i2⟩
    | some x =>
      have hxL := i2 x (List.mem_of_getElem? hx)
      simp only [Option.map_some]
      rw [h.links hC hxL]
      exact h.fold _ _ i2 (hC.closed x hxL)

theorem idxL_map (h : Iso a b L φ) {M : List Int} (hM : ∀ y ∈ M, y ∈ L) {y : Int} (hy : y ∈ L) : idxL (M.map φ) (φ y) = idxL M y := by
  unfold idxL ixOf
  rw [List.findIdx?_map]
  have e : M.findIdx? ((fun x => φ y == x) ∘ φ) = M.findIdx? (fun x => y == x) := by
    revert hM
    induction M with
    | nil => intro _; rfl
    | cons m M ih =>
      intro hM
      have hm := hM m List.mem_cons_self
      rw [List.findIdx?_cons, List.findIdx?_cons, ih (fun z hz => hM z (List.mem_cons_of_mem _ hz))]
      have e : ((fun x => φ y == x) ∘ φ) m = (y == m) := by
        show (φ y == φ m) = (y == m)
        rw [Bool.eq_iff_iff, beq_iff_eq, beq_iff_eq]
        exact ⟨fun e => h.inj y hy m hm e, fun e => by rw [e]⟩
      rw [e]
  rw [e]
theorem idxL_neg {M : List Int} (hM : ∀ y ∈ M, 0 ≤ y) : idxL M (-1) = -1 := ixOf_none (fun x hx => by have := hM x hx; simp; omega)

theorem form_iso (h : Iso a b L φ) (hC : ClosedL a L) {f : List Int} (hf : ∀ y ∈ f, y ∈ L) {os os' : List Ob} {fr fr' : List Int} (hF : FormIs a f os fr) (hF' : FormIs b (f.map φ) os' fr') : os = os' ∧ fr = fr' := by
  obtain ⟨M, h1, rfl, rfl⟩ := hF
  obtain ⟨M', h1', rfl, rfl⟩ := hF'
  have hb := h.bfs hC hf M.length
  have hM : ∀ y ∈ M, y ∈ L := fun y hy => hb.2 y (h1.fn ▸ hy)
  have e : M' = M.map φ := by
    refine bfsL_unique h1'.fn ?_
    rw [List.length_map, hb.1, ← h1.fn]
  subst e
  constructor
  · rw [List.map_map]
    refine List.map_congr_left (fun x hx => ?_)
    have hxL := hM x hx
    obtain ⟨s, hs⟩ := begsL_iff.1 (hC.begs x hxL)
    obtain ⟨s', hs', e1, e2, e3, e4, e5⟩ := h.at_ x hxL s hs
    show formO a (spotsL a) M x = formO b (spotsL b) (M.map φ) (φ x)
    unfold formO
    rw [hs, hs']
    dsimp only
    rw [e3, e4, e5, (spotAt_some hs).2.1, (spotAt_some hs').2.1, List.map_map]
    congr 1
    refine List.map_congr_left (fun v hv => ?_)
    show idxL M (v - 1) = idxL (M.map φ) (refT φ v - 1)
    by_cases h0 : v = 0
    · subst h0
      have e6 : refT φ 0 = 0 := rfl
      rw [e6]
      show idxL M (-1) = idxL (M.map φ) (-1)
      rw [idxL_neg (fun y hy => hC.nn y (hM y hy)), idxL_neg (fun y hy => by
        obtain ⟨z, hz, rfl⟩ := List.mem_map.1 hy
        exact h.nn z (hM z hz))]
    · have e6 : refT φ v - 1 = φ (v - 1) := by unfold refT; rw [if_neg h0]; omega
      rw [e6, idxL_map h hM (Iso.link_of hC hxL hs v hv h0)]
  · rw [List.map_map]
    refine List.map_congr_left (fun x hx => ?_)
    exact (idxL_map h hM (hf x hx)).symm
end

theorem spotsFrom_append : ∀ (cs ds : List Chk) (i : Nat), spotsFrom i (cs ++ ds) = spotsFrom i cs ++ spotsFrom (i + (chunksW cs).length) ds
  | [], ds, i => by simp [spotsFrom, chunksW]
  | c :: cs, ds, i => by
    rw [List.cons_append, chunksW_cons, List.length_append, chkW_length]
    simp only [spotsFrom]
    rw [spotsFrom_append cs ds, List.cons_append, Nat.add_assoc]
theorem spotsFrom_low : ∀ (cs : List Chk) (i : Nat), ∀ s ∈ spotsFrom i cs, (i : Int) ≤ s.loc ∧ s.loc < i + (chunksW cs).length
  | [], i => by simp [spotsFrom]
  | c :: cs, i => by
    intro s hs
    rw [chunksW_cons, List.length_append, chkW_length]
    have hp : 1 ≤ c.len := by unfold Chk.len; omega
    simp only [spotsFrom, List.mem_cons] at hs
    rcases hs with rfl | hs
    · simp only [Chk.spot]; omega
    · have := spotsFrom_low cs (i + c.len) s hs
      omega
/-- An object among others: it is found, with its references and its body. -/
theorem split_at (pre suf : List Chk) (c : Chk) (hf : c.f = false) : spotAt (spotsFrom 0 (pre ++ c :: suf)) (chunksW pre).length = some (c.spot (chunksW pre).length) := by
  unfold spotAt
  rw [spotsFrom_append, List.find?_append]
  have h1 : (spotsFrom 0 pre).find? (isBeg (chunksW pre).length) = none := by
    rw [List.find?_eq_none]
    intro s hs
    have := spotsFrom_low pre 0 s hs
    simp only [isBeg, Bool.and_eq_true, beq_iff_eq, not_and]
    intro _
    omega
  rw [h1, Nat.zero_add]
  simp only [spotsFrom, Option.none_or]
  rw [List.find?_cons_of_pos]
  simp [isBeg, Chk.spot, hf]
theorem split_refs (pre suf : List Chk) (c : Chk) (hc : c.ok) : refsOf (chunksW (pre ++ c :: suf)) (c.spot (chunksW pre).length) = c.pay.take c.r.toNat ∧ bodyOf (chunksW (pre ++ c :: suf)) (c.spot (chunksW pre).length) = c.pay.drop c.r.toNat := by
  have hE := headE_ok.1 hc.1
  have hp := hc.2
  rw [chunksW_append, chunksW_cons, chkW]
  simp only [refsOf, bodyOf, Chk.spot, Int.toNat_natCast]
  constructor
  · rw [List.drop_append, List.drop_of_length_le (by omega), List.nil_append, show (chunksW pre).length + 1 - (chunksW pre).length = 1 by omega, List.cons_append, List.drop_succ_cons, List.drop_zero, List.take_append_of_le_length (by omega)]
  · rw [List.drop_append, List.drop_of_length_le (by omega), List.nil_append, show (chunksW pre).length + 1 + c.r.toNat - (chunksW pre).length = c.r.toNat + 1 by omega, List.cons_append, List.drop_succ_cons, List.drop_append_of_le_length (by omega), List.take_append_of_le_length (by rw [List.length_drop]; omega), List.take_of_length_le (by rw [List.length_drop]; omega)]
end Go.Proofs.Ytammailnbgojgaa
