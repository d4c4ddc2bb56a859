/-
  Texts joined: PlayRel PlayRel2 PlayScan InsertOp.
-/
import Derived.Deep.RegionHeld3
import Derived.StillTailTactics
import Derived.Test.YtccmichgbkmdpaaGreatDoorG18
import Derived.Test.YtccmichgbkmdpaaGreatDoorG22
namespace Go.Proofs.YtccmichgbkmdpaaGreatDoor
open Go.RowKit
theorem Iso.refl {a L : List Int} (hL : ClosedL a L) : Iso a a L id := by
  refine ⟨hL.nn, fun x _ y _ e => e, fun x hx s hs => ⟨s, hs, rfl, rfl, rfl, rfl, ?_⟩⟩
  conv => lhs; rw [← List.map_id (refsOf a s)]
  refine List.map_congr_left (fun v _ => ?_)
  show v = refT id v
  unfold refT
  by_cases h0 : v = 0
  · rw [if_pos h0, h0]
  · rw [if_neg h0]
    show v = v - 1 + 1
    omega
theorem refT_comp {φ ψ : Int → Int} {v : Int} (h : v ≠ 0 → 0 ≤ φ (v - 1)) : refT ψ (refT φ v) = refT (fun x => ψ (φ x)) v := by
  unfold refT
  by_cases h0 : v = 0
  · rw [if_pos h0, if_pos h0, if_pos rfl]
  · have h1 := h h0
    rw [if_neg h0, if_neg h0, if_neg (by omega)]
    congr 2
    omega
theorem Iso.trans {a b c L M : List Int} {φ ψ : Int → Int} (h : Iso a b L φ) (hC : ClosedL a L) (h2 : Iso b c M ψ) (hM : ∀ x ∈ L, φ x ∈ M) : Iso a c L (fun x => ψ (φ x)) := by
  refine ⟨fun x hx => h2.nn _ (hM x hx), fun x hx y hy e => h.inj x hx y hy (h2.inj _ (hM x hx) _ (hM y hy) e), fun x hx s hs => ?_⟩
  obtain ⟨s', hs', e1, e2, e3, e4, e5⟩ := h.at_ x hx s hs
  obtain ⟨s2, hs2, f1, f2, f3, f4, f5⟩ := h2.at_ _ (hM x hx) s' hs'
  refine ⟨s2, hs2, f1.trans e1, f2.trans e2, f3.trans e3, f4.trans e4, ?_⟩
  rw [f5, e5, List.map_map]
  refine List.map_congr_left (fun v hv => ?_)
  exact refT_comp (fun h0 => h.nn _ (Iso.link_of hC hx hs v hv h0))
def invL (L : List Int) (φ : Int → Int) (y : Int) : Int := (L.find? (fun x => φ x == y)).getD 0
theorem invL_of {L : List Int} {φ : Int → Int} (hi : ∀ x ∈ L, ∀ y ∈ L, φ x = φ y → x = y) {x : Int} (hx : x ∈ L) : invL L φ (φ x) = x := by
  unfold invL
  cases hf : L.find? (fun z => φ z == φ x) with
  | none => exact absurd (List.find?_eq_none.1 hf x hx) (by simp)
  | some z =>
    have h1 := List.find?_some hf
    have h2 := List.mem_of_find?_eq_some hf
    exact hi z h2 x hx (by simpa using h1)
theorem Iso.closed {a b L : List Int} {φ : Int → Int} (h : Iso a b L φ) (hC : ClosedL a L) : ClosedL b (L.map φ) := by
  refine ⟨fun y hy => ?_, fun y hy z hz => ?_, fun y hy => ?_⟩
  · obtain ⟨x, hx, rfl⟩ := List.mem_map.1 hy
    obtain ⟨s, hs⟩ := begsL_iff.1 (hC.begs x hx)
    obtain ⟨s', hs', -⟩ := h.at_ x hx s hs
    exact begsL_iff.2 ⟨s', hs'⟩
  · obtain ⟨x, hx, rfl⟩ := List.mem_map.1 hy
    rw [h.links hC hx] at hz
    obtain ⟨u, hu, rfl⟩ := List.mem_map.1 hz
    exact List.mem_map.2 ⟨u, hC.closed x hx u hu, rfl⟩
  · obtain ⟨x, hx, rfl⟩ := List.mem_map.1 hy
    exact h.nn x hx
theorem Iso.symm {a b L : List Int} {φ : Int → Int} (h : Iso a b L φ) (hC : ClosedL a L) : Iso b a (L.map φ) (invL L φ) := by
  refine ⟨fun y hy => ?_, fun y hy z hz e => ?_, fun y hy s' hs' => ?_⟩
  · obtain ⟨x, hx, rfl⟩ := List.mem_map.1 hy
    rw [invL_of h.inj hx]
    exact hC.nn x hx
  · obtain ⟨x, hx, rfl⟩ := List.mem_map.1 hy
    obtain ⟨u, hu, rfl⟩ := List.mem_map.1 hz
    rw [invL_of h.inj hx, invL_of h.inj hu] at e
    rw [e]
  · obtain ⟨x, hx, rfl⟩ := List.mem_map.1 hy
    obtain ⟨s, hs⟩ := begsL_iff.1 (hC.begs x hx)
    obtain ⟨s2, hs2, e1, e2, e3, e4, e5⟩ := h.at_ x hx s hs
    obtain rfl := Option.some.inj (hs2.symm.trans hs')
    rw [invL_of h.inj hx]
    refine ⟨s, hs, e1.symm, e2.symm, e3.symm, e4.symm, ?_⟩
    rw [e5, List.map_map]
    conv => lhs; rw [← List.map_id (refsOf a s)]
    refine List.map_congr_left (fun v hv => ?_)
    show v = refT (invL L φ) (refT φ v)
    rw [refT_comp (fun h0 => h.nn _ (Iso.link_of hC hx hs v hv h0))]
    unfold refT
    by_cases h0 : v = 0
    · rw [if_pos h0, h0]
    · rw [if_neg h0]
      show v = invL L φ (φ (v - 1)) + 1
      rw [invL_of h.inj (Iso.link_of hC hx hs v hv h0)]
      omega
structure SameS (S T : St) (L : List Int) (φ : Int → Int) : Prop where
  iso : Iso S.a T.a L φ
  closed : ClosedL S.a L
  sub : ∀ x ∈ S.begs, x ∈ L
  r : T.r = S.r.map (phiV φ)
  l : T.l = S.l.map (phiS φ)
  p : T.p = S.p
  pin : ∀ y ∈ S.p, φ y.loc = y.loc
def Alikes (S T : St) : Prop := ∃ L φ, SameS S T L φ
theorem Alikes.refl {S : St} (hS : StOk S) : Alikes S S := by
  refine ⟨begsL (spotsL S.a), id, Iso.refl (closed_all hS.arena), closed_all hS.arena, hS.live, ?_, ?_, rfl, fun _ _ => rfl⟩
  · conv => lhs; rw [← List.map_id S.r]
    refine List.map_congr_left (fun v _ => ?_)
    unfold phiV
    split <;> rfl
  · conv => lhs; rw [← List.map_id S.l]
    refine List.map_congr_left (fun s _ => ?_)
    obtain ⟨g, o, x⟩ := s
    unfold phiS
    cases o <;> rfl
theorem SameS.begs {S T : St} {L : List Int} {φ : Int → Int} (h : SameS S T L φ) : ∀ y ∈ T.begs, ∃ x ∈ S.begs, y = φ x := by
  intro y hy
  rcases begs_cases hy with ⟨h1, h2⟩ | ⟨s, h1, h2, rfl⟩ | ⟨z, h1, rfl⟩
  · rw [h.r] at h1
    obtain ⟨v, hv, rfl⟩ := List.mem_map.1 h1
    unfold phiV at h2 ⊢
    by_cases h0 : 0 ≤ v
    · rw [if_pos h0]
      exact ⟨v, root_at hv h0, rfl⟩
    · rw [if_neg h0] at h2
      exact absurd h2 h0
  · rw [h.l] at h1
    obtain ⟨u, hu, rfl⟩ := List.mem_map.1 h1
    rw [phiS_opn] at h2
    refine ⟨u.loc, open_at hu h2, ?_⟩
    unfold phiS
    rw [if_pos h2]
  · rw [h.p] at h1
    exact ⟨z.loc, pin_at h1, (h.pin z h1).symm⟩
theorem Alikes.trans {S T U : St} (h : Alikes S T) (h2 : Alikes T U) : Alikes S U := by
  obtain ⟨L, φ, h⟩ := h
  obtain ⟨M, ψ, h2⟩ := h2
  -- the part of L whose image lies in M is closed
  refine ⟨L.filter (fun x => decide (φ x ∈ M)), fun x => ψ (φ x), ?_, ?_, ?_, ?_, ?_, ?_, ?_⟩
  · refine Iso.trans (M := M) ⟨fun x hx => h.iso.nn x (List.mem_filter.1 hx).1, fun x hx y hy e => h.iso.inj x (List.mem_filter.1 hx).1 y (List.mem_filter.1 hy).1 e, fun x hx s hs => h.iso.at_ x (List.mem_filter.1 hx).1 s hs⟩ ?_ h2.iso (fun x hx => by simpa using (List.mem_filter.1 hx).2)
    refine ⟨fun x hx => h.closed.begs x (List.mem_filter.1 hx).1, fun x hx y hy => ?_, fun x hx => h.closed.nn x (List.mem_filter.1 hx).1⟩
    obtain ⟨q1, q2⟩ := List.mem_filter.1 hx
    refine List.mem_filter.2 ⟨h.closed.closed x q1 y hy, ?_⟩
    have := h2.closed.closed (φ x) (by simpa using q2) (φ y) (by rw [h.iso.links h.closed q1]; exact List.mem_map.2 ⟨y, hy, rfl⟩)
    simpa using this
  · refine ⟨fun x hx => h.closed.begs x (List.mem_filter.1 hx).1, fun x hx y hy => ?_, fun x hx => h.closed.nn x (List.mem_filter.1 hx).1⟩
    obtain ⟨q1, q2⟩ := List.mem_filter.1 hx
    refine List.mem_filter.2 ⟨h.closed.closed x q1 y hy, ?_⟩
    have := h2.closed.closed (φ x) (by simpa using q2) (φ y) (by rw [h.iso.links h.closed q1]; exact List.mem_map.2 ⟨y, hy, rfl⟩)
    simpa using this
  · intro x hx
    have h1 := h.sub x hx
    refine List.mem_filter.2 ⟨h1, ?_⟩
    have h3 : φ x ∈ T.begs := by
      rcases begs_cases hx with ⟨h4, h5⟩ | ⟨s, h4, h5, rfl⟩ | ⟨z, h4, rfl⟩
      · refine root_at ?_ (h.iso.nn x h1)
        rw [h.r]
        exact List.mem_map.2 ⟨x, h4, if_pos h5⟩
      · have : phiS φ s ∈ T.l := by rw [h.l]; exact List.mem_map.2 ⟨s, h4, rfl⟩
        have h6 := open_at this (by rw [phiS_opn]; exact h5)
        unfold phiS at h6
        rwa [if_pos h5] at h6
      · rw [h.pin z h4]
        exact pin_at (by rw [h.p]; exact h4)
    simpa using h2.sub _ h3
  · rw [h2.r, h.r, List.map_map]
    refine List.map_congr_left (fun v hv => ?_)
    show phiV ψ (phiV φ v) = _
    unfold phiV
    by_cases h0 : 0 ≤ v
    · rw [if_pos h0, if_pos (h.iso.nn v (h.sub v (root_at hv h0))), if_pos h0]
    · rw [if_neg h0, if_neg h0, if_neg h0]
  · rw [h2.l, h.l, List.map_map]
    refine List.map_congr_left (fun s hs => ?_)
    show phiS ψ (phiS φ s) = _
    unfold phiS
    by_cases h0 : s.opn = true
    · rw [if_pos h0, if_pos rfl, if_pos h0]
    · rw [if_neg h0, if_neg h0, if_neg h0]
  · rw [h2.p, h.p]
  · intro y hy
    show ψ (φ y.loc) = y.loc
    rw [h.pin y hy, h2.pin y (by rw [h.p]; exact hy)]
theorem Alikes.symm {S T : St} (h : Alikes S T) : Alikes T S := by
  obtain ⟨L, φ, h⟩ := h
  refine ⟨L.map φ, invL L φ, h.iso.symm h.closed, h.iso.closed h.closed, ?_, ?_, ?_, h.p.symm, ?_⟩
  · intro y hy
    obtain ⟨x, hx, rfl⟩ := h.begs y hy
    exact List.mem_map.2 ⟨x, h.sub x hx, rfl⟩
  · rw [h.r, List.map_map]
    conv => lhs; rw [← List.map_id S.r]
    refine List.map_congr_left (fun v hv => ?_)
    show v = phiV (invL L φ) (phiV φ v)
    unfold phiV
    by_cases h0 : 0 ≤ v
    · have h1 := h.sub v (root_at hv h0)
      rw [if_pos h0, if_pos (h.iso.nn v h1), invL_of h.iso.inj h1]
    · rw [if_neg h0, if_neg h0]
  · rw [h.l, List.map_map]
    conv => lhs; rw [← List.map_id S.l]
    refine List.map_congr_left (fun s hs => ?_)
    show s = phiS (invL L φ) (phiS φ s)
    unfold phiS
    by_cases h0 : s.opn = true
    · rw [if_pos h0, if_pos rfl]
      show s = ⟨s.gen, true, invL L φ (φ s.loc)⟩
      rw [invL_of h.iso.inj (h.sub _ (open_at hs h0)), ← h0]
    · rw [if_neg h0, if_neg h0]
  · intro y hy
    rw [h.p] at hy
    have := invL_of h.iso.inj (h.sub _ (pin_at hy))
    rw [h.pin y hy] at this
    exact this
theorem Coll.alikes {S S' : St} {fr : Int} {L Y now : List Int} (h : Coll S S' fr L Y now) (hS : StOk S) : Alikes S S' := by
  have hC := cleaned_of h.is
  exact ⟨L, posL L Y, hC.laid.iso, hC.closed, fun x hx => h.is.reached.roots x (List.mem_append_left _ hx), h.r' hS, h.l' hS, h.p, fun y hy => h.pinned hy⟩
theorem sweep_alikes {S : St} (hS : StOk S) : Alikes S (sweep S).1 := by
  by_cases hx : ∃ p : St × Int, ∃ L Y now : List Int, Coll S p.1 p.2 L Y now
  · obtain ⟨⟨S', fr⟩, L, Y, now, hC⟩ := hx
    rw [hC.sweep]
    exact hC.alikes hS
  · have e : sweep S = (S, 0) := dif_neg hx
    rw [e]
    exact Alikes.refl hS
theorem made_alikes {S T S' T' : St} {k : Nat} {g h : Rn} {r b t : Int} (hST : Alikes S T) (hS : Made S S' k g r b t) (hT : Made T T' k h r b t) (e1 : S'.r = S.r.set k g.loc) (e2 : S'.p = S.p) (e3 : S'.l = S.l) (f1 : T'.r = T.r.set k h.loc) (f2 : T'.p = T.p) (f3 : T'.l = T.l) : Alikes S' T' := by
  obtain ⟨L, φ, hI⟩ := hST
  have hgL : g.loc ∉ L := fun hg => hS.fresh (hI.closed.begs _ hg)
  have hhL : ∀ x ∈ L, φ x ≠ h.loc := fun x hx e => hT.fresh (by rw [← e]; exact (hI.iso.closed hI.closed).begs _ (List.mem_map.2 ⟨x, hx, rfl⟩))
  have hsa := (checkE_ok.1 hS.ok.arena).1
  have hta := (checkE_ok.1 hT.ok.arena).1
  have hIT : Iso S.a T'.a L φ := hI.iso.keeps hT.keeps hta
  let φ' : Int → Int := fun x => if x = g.loc then h.loc else φ x
  have hg' : φ' g.loc = h.loc := if_pos rfl
  have hl' : ∀ x ∈ L, φ' x = φ x := fun x hx => if_neg (fun e => hgL (by rw [← e]; exact hx))
  have hspS := spotAt_mem hsa hS.spot rfl
  have hspT := spotAt_mem hta hT.spot rfl
  simp only at hspS hspT
  have hkeep : ∀ x ∈ L, ∀ s, spotAt (spotsL S'.a) x = some s → spotAt (spotsL S.a) x = some s ∧ refsOf S'.a s = refsOf S.a s ∧ bodyOf S'.a s = bodyOf S.a s := by
    intro x hx s hs
    obtain ⟨s0, hs0⟩ := begsL_iff.1 (hI.closed.begs x hx)
    obtain ⟨m1, m2, m3⟩ := spotAt_some hs0
    obtain ⟨k1, k2, k3⟩ := hS.keeps s0 m1 m2
    have := spotAt_mem hsa k1 m2
    rw [m3] at this
    obtain rfl := Option.some.inj (this.symm.trans hs)
    exact ⟨hs0, k2, k3⟩
  have hspotok : ∀ {U : St} {x : Int}, StOk U → (⟨x, r, b, t, false⟩ : Spot) ∈ spotsL U.a → SpotOk U.a ⟨x, r, b, t, false⟩ := fun hU hm => ((parse_mem (parse_ok (checkE_ok.1 hU.arena).1).2) _ hm).1
  have okS := hspotok hS.ok hS.spot
  have okT := hspotok hT.ok hT.spot
  have hzero : ∀ {l m : List Int}, l.length = m.length → (∀ v ∈ l, v = 0) → (∀ v ∈ m, v = 0) → l = m := by
    intro l m hl h1 h2
    refine List.ext_getElem hl (fun i q1 q2 => ?_)
    rw [h1 _ (List.getElem_mem q1), h2 _ (List.getElem_mem q2)]
  refine ⟨g.loc :: L, φ', ⟨?_, ?_, ?_⟩, ⟨?_, ?_, ?_⟩, ?_, ?_, ?_, by rw [e2, f2, hI.p], ?_⟩
  · intro x hx
    rcases List.mem_cons.1 hx with rfl | hx
    · rw [hg']; exact hT.loc
    · rw [hl' x hx]; exact hI.iso.nn x hx
  · intro x hx y hy e
    rcases List.mem_cons.1 hx with rfl | hx <;> rcases List.mem_cons.1 hy with rfl | hy
    · rfl
    · rw [hg', hl' y hy] at e; exact absurd e.symm (hhL y hy)
    · rw [hg', hl' x hx] at e; exact absurd e (hhL x hx)
    · rw [hl' x hx, hl' y hy] at e; exact hI.iso.inj x hx y hy e
  · intro x hx s hs
    rcases List.mem_cons.1 hx with rfl | hx
    · obtain rfl := Option.some.inj (hspS.symm.trans hs)
      rw [hg']
      refine ⟨_, hspT, rfl, rfl, rfl, ?_, ?_⟩
      · exact hzero (by rw [bodyOf_length okS, bodyOf_length okT]) hT.zero hS.zero
      · refine hzero (by rw [List.length_map, refsOf_length okS, refsOf_length okT]) hT.refs (fun v hv => ?_)
        obtain ⟨u, hu, rfl⟩ := List.mem_map.1 hv
        rw [hS.refs u hu]
        rfl
    · rw [hl' x hx]
      obtain ⟨hs0, k2, k3⟩ := hkeep x hx s hs
      obtain ⟨s', hs', q1, q2, q3, q4, q5⟩ := hIT.at_ x hx s hs0
      refine ⟨s', hs', q1, q2, q3, q4.trans k3.symm, ?_⟩
      rw [q5, k2]
      refine List.map_congr_left (fun v hv => ?_)
      unfold refT
      by_cases h0 : v = 0
      · rw [if_pos h0, if_pos h0]
      · rw [if_neg h0, if_neg h0, hl' _ (Iso.link_of hI.closed hx hs0 v hv h0)]
  · intro x hx
    rcases List.mem_cons.1 hx with rfl | hx
    · exact begsL_iff.2 ⟨_, hspS⟩
    · obtain ⟨s0, hs0⟩ := begsL_iff.1 (hI.closed.begs x hx)
      obtain ⟨m1, m2, m3⟩ := spotAt_some hs0
      have := spotAt_mem hsa (hS.keeps s0 m1 m2).1 m2
      rw [m3] at this
      exact begsL_iff.2 ⟨_, this⟩
  · intro x hx y hy
    rcases List.mem_cons.1 hx with rfl | hx
    · unfold linksAt at hy
      rw [hspS] at hy
      obtain ⟨v, hv, rfl⟩ := List.mem_map.1 hy
      obtain ⟨h2, h3⟩ := List.mem_filter.1 hv
      rw [hS.refs v h2] at h3
      exact absurd h3 (by decide)
    · refine List.mem_cons_of_mem _ ?_
      unfold linksAt at hy
      obtain ⟨s0, hs0⟩ := begsL_iff.1 (hI.closed.begs x hx)
      obtain ⟨m1, m2, m3⟩ := spotAt_some hs0
      obtain ⟨k1, k2, k3⟩ := hS.keeps s0 m1 m2
      have hs := spotAt_mem hsa k1 m2
      rw [m3] at hs
      rw [hs] at hy
      obtain ⟨v, hv, rfl⟩ := List.mem_map.1 hy
      obtain ⟨h2, h3⟩ := List.mem_filter.1 hv
      rw [k2] at h2
      exact Iso.link_of hI.closed hx hs0 v h2 (by simpa using h3)
  · intro x hx
    rcases List.mem_cons.1 hx with rfl | hx
    · exact hS.loc
    · exact hI.closed.nn x hx
  · intro x hx
    rcases begs_cases hx with ⟨h1, h2⟩ | ⟨s, h1, h2, rfl⟩ | ⟨z, h1, rfl⟩
    · rw [e1] at h1
      rcases List.mem_or_eq_of_mem_set h1 with h1 | rfl
      · exact List.mem_cons_of_mem _ (hI.sub x (root_at h1 h2))
      · exact List.mem_cons_self
    · rw [e3] at h1
      exact List.mem_cons_of_mem _ (hI.sub _ (open_at h1 h2))
    · rw [e2] at h1
      exact List.mem_cons_of_mem _ (hI.sub _ (pin_at h1))
  · rw [f1, e1, hI.r]
    refine List.ext_getElem? (fun i => ?_)
    rw [List.getElem?_map, List.getElem?_set, List.getElem?_set, List.length_map]
    by_cases hik : k = i
    · subst hik
      rw [if_pos rfl, if_pos rfl]
      split
      · simp only [Option.map_some]
        unfold phiV
        rw [if_pos hS.loc, hg']
      · rfl
    · rw [if_neg hik, if_neg hik, List.getElem?_map]
      cases hv : S.r[i]? with
      | none => rfl
      | some v =>
        simp only [Option.map_some]
        unfold phiV
        by_cases h0 : 0 ≤ v
        · rw [if_pos h0, if_pos h0, hl' v (hI.sub v (root_at (List.mem_of_getElem? hv) h0))]
        · rw [if_neg h0, if_neg h0]
  · rw [f3, e3, hI.l]
    refine List.map_congr_left (fun s hs => ?_)
    unfold phiS
    by_cases h0 : s.opn = true
    · rw [if_pos h0, if_pos h0, hl' _ (hI.sub _ (open_at hs h0))]
    · rw [if_neg h0, if_neg h0]
  · intro y hy
    rw [e2] at hy
    rw [hl' _ (hI.sub _ (pin_at hy))]
    exact hI.pin y hy
end Go.Proofs.YtccmichgbkmdpaaGreatDoor

namespace Go.Proofs.YtccmichgbkmdpaaGreatDoor
open Go.RowKit
theorem phiV_neg {φ : Int → Int} {v : Int} (h : v < 0) : phiV φ v = v := if_neg (by omega)
theorem phiV_pos {φ : Int → Int} {v : Int} (h : 0 ≤ v) : phiV φ v = φ v := if_pos h
section
variable {S T : St} {L : List Int} {φ : Int → Int}
theorem SameS.rootsSet (h : SameS S T L φ) {O : Nat} {y : Int} (hy : 0 ≤ y → y ∈ L) : SameS ⟨S.a, S.r.set O y, S.p, S.l⟩ ⟨T.a, T.r.set O (phiV φ y), T.p, T.l⟩ L φ := by
  refine ⟨h.iso, h.closed, fun x hx => ?_, by show T.r.set O (phiV φ y) = (S.r.set O y).map (phiV φ); rw [h.r, List.map_set], h.l, h.p, h.pin⟩
  rcases begs_cases hx with ⟨h1, h2⟩ | ⟨s, h1, h2, rfl⟩ | ⟨z, h1, rfl⟩
  · rcases List.mem_or_eq_of_mem_set h1 with h1 | rfl
    · exact h.sub x (root_at h1 h2)
    · exact hy h2
  · exact h.sub _ (open_at h1 h2)
  · exact h.sub _ (pin_at h1)
theorem SameS.slotSet (h : SameS S T L φ) {j : Nat} {u : Slot} (hu : u.opn = true → u.loc ∈ L) : SameS ⟨S.a, S.r, S.p, S.l.set j u⟩ ⟨T.a, T.r, T.p, T.l.set j (phiS φ u)⟩ L φ := by
  refine ⟨h.iso, h.closed, fun x hx => ?_, h.r, by show T.l.set j (phiS φ u) = (S.l.set j u).map (phiS φ); rw [h.l, List.map_set], h.p, h.pin⟩
  rcases begs_cases hx with ⟨h1, h2⟩ | ⟨s, h1, h2, rfl⟩ | ⟨z, h1, rfl⟩
  · exact h.sub x (root_at h1 h2)
  · rcases List.mem_or_eq_of_mem_set h1 with h1 | rfl
    · exact h.sub _ (open_at h1 h2)
    · exact hu h2
  · exact h.sub _ (pin_at h1)
theorem SameS.paySet (h : SameS S T L φ) {X : Int} {s s' : Spot} {j : Nat} {v v' : Int} {a' b' : List Int} (hX : X ∈ L) (hs : spotAt (spotsL S.a) X = some s) (hs' : spotAt (spotsL T.a) (φ X) = some s') (er : s'.r = s.r) (hj : (j : Int) < s.r + s.b)
    (hA : PaySet S.a a' s j v) (hB : PaySet T.a b' s' j v') (hv : (j : Int) < s.r → v' = refT φ v ∧ (v ≠ 0 → v - 1 ∈ L)) (hv2 : ¬ (j : Int) < s.r → v' = v) : SameS ⟨a', S.r, S.p, S.l⟩ ⟨b', T.r, T.p, T.l⟩ L φ := by
  obtain ⟨s2, hs2, e1, e2, e3, e4, e5⟩ := h.iso.at_ X hX s hs
  obtain rfl := Option.some.inj (hs2.symm.trans hs')
  have hcl : ∀ x ∈ L, ∀ s0, spotAt (spotsL a') x = some s0 → ∀ u ∈ refsOf a' s0, u ≠ 0 → u - 1 ∈ L := by
    intro x hx s0 hs0 u hu h0
    rw [hA.spots] at hs0
    by_cases hxX : x = X
    · subst hxX
      obtain rfl := Option.some.inj (hs.symm.trans hs0)
      rw [hA.refs] at hu
      by_cases hjr : (j : Int) < s.r
      · rw [if_pos hjr] at hu
        rcases List.mem_or_eq_of_mem_set hu with hu | rfl
        · exact Iso.link_of h.closed hx hs u hu h0
        · exact (hv hjr).2 h0
      · rw [if_neg hjr] at hu
        exact Iso.link_of h.closed hx hs u hu h0
    · have hne : s0 ≠ s := fun e => hxX (by rw [← (spotAt_some hs0).2.2, ← (spotAt_some hs).2.2, e])
      rw [(hA.other s0 (spotAt_some hs0).1 hne).1] at hu
      exact Iso.link_of h.closed hx hs0 u hu h0
  refine ⟨⟨h.iso.nn, h.iso.inj, fun x hx s0 hs0 => ?_⟩, ⟨fun x hx => by show x ∈ begsL (spotsL a'); rw [hA.spots]; exact h.closed.begs x hx, fun x hx y hy => ?_, h.closed.nn⟩, h.sub, h.r, h.l, h.p, h.pin⟩
  · simp only at hs0 ⊢
    rw [hA.spots] at hs0
    rw [hB.spots]
    by_cases hxX : x = X
    · subst hxX
      obtain rfl := Option.some.inj (hs.symm.trans hs0)
      refine ⟨s2, hs', e1, e2, e3, ?_, ?_⟩
      · rw [hB.body, hA.body, er]
        by_cases hjr : (j : Int) < s.r
        · rw [if_pos hjr, if_pos hjr, e4]
        · rw [if_neg hjr, if_neg hjr, e4, hv2 hjr]
      · rw [hB.refs, hA.refs, er]
        by_cases hjr : (j : Int) < s.r
        · rw [if_pos hjr, if_pos hjr, e5, List.map_set, (hv hjr).1]
        · rw [if_neg hjr, if_neg hjr, e5]
    · obtain ⟨s3, hs3, f1, f2, f3, f4, f5⟩ := h.iso.at_ x hx s0 hs0
      have hne : s0 ≠ s := fun e => hxX (by rw [← (spotAt_some hs0).2.2, ← (spotAt_some hs).2.2, e])
      have hne' : s3 ≠ s2 := fun e => hxX (h.iso.inj x hx X hX (by rw [← (spotAt_some hs3).2.2, ← (spotAt_some hs').2.2, e]))
      obtain ⟨g1, g2⟩ := hA.other s0 (spotAt_some hs0).1 hne
      obtain ⟨g3, g4⟩ := hB.other s3 (spotAt_some hs3).1 hne'
      exact ⟨s3, hs3, f1, f2, f3, by rw [g4, g2, f4], by rw [g3, g1, f5]⟩
  · simp only at hy
    unfold linksAt at hy
    obtain ⟨s0, hs0⟩ := begsL_iff.1 (show x ∈ begsL (spotsL a') by rw [hA.spots]; exact h.closed.begs x hx)
    rw [hs0] at hy
    obtain ⟨u, hu, rfl⟩ := List.mem_map.1 hy
    obtain ⟨h2, h3⟩ := List.mem_filter.1 hu
    exact hcl x hx s0 hs0 u h2 (by simpa using h3)
theorem SameS.len_r (h : SameS S T L φ) : T.r.length = S.r.length := by rw [h.r, List.length_map]
theorem SameS.root (h : SameS S T L φ) {k : Nat} {v : Int} (hv : S.r[k]? = some v) : T.r[k]? = some (phiV φ v) := by rw [h.r, List.getElem?_map, hv]; rfl
theorem objE_same (h : SameS S T L φ) (hS : StOk S) (hT : StOk T) (x : Int) : objE T x = objE S x := by
  unfold objE
  rw [stE_ok.2 hS, stE_ok.2 hT, h.len_r]
  simp only [ne_eq, not_true_eq_false, if_false]
  by_cases h1 : x < 0 ∨ (S.r.length : Int) ≤ x
  · rw [if_pos h1, if_pos h1]
  · rw [if_neg h1, if_neg h1]
    have hk : x.toNat < S.r.length := by omega
    have hv : S.r[x.toNat]? = some S.r[x.toNat] := List.getElem?_eq_getElem hk
    rw [List.getD_eq_getElem?_getD, List.getD_eq_getElem?_getD, h.root hv, hv]
    simp only [Option.getD_some]
    by_cases h0 : 0 ≤ S.r[x.toNat]
    · rw [phiV_pos h0, if_neg (show ¬ φ S.r[x.toNat] < 0 by have := h.iso.nn _ (h.sub _ (root_at (List.getElem_mem hk) h0)); omega), if_neg (by omega)]
    · rw [phiV_neg (by omega)]
structure TwoAt (S T : St) (L : List Int) (φ : Int → Int) (k X X' : Nat) (s s' : Spot) (i i' : Nat) : Prop where
  hx : S.r[k]? = some (X : Int)
  hx' : T.r[k]? = some (X' : Int)
  goes : φ X = X'
  mem : (X : Int) ∈ L
  o : ObjAt S X s i
  o' : ObjAt T X' s' i'
  er : s'.r = s.r
  eb : s'.b = s.b
  body : bodyOf T.a s' = bodyOf S.a s
  refs : refsOf T.a s' = (refsOf S.a s).map (refT φ)
theorem SameS.obj (h : SameS S T L φ) (hT : StOk T) {k X : Nat} {s : Spot} {i : Nat} (hx : S.r[k]? = some (X : Int)) (hO : ObjAt S X s i) : ∃ X' s' i', TwoAt S T L φ k X X' s s' i i' := by
  have hm := h.sub _ (root_at (List.mem_of_getElem? hx) (by omega))
  have h1 := h.root hx
  rw [phiV_pos (by omega)] at h1
  obtain ⟨X', hX'⟩ := Int.eq_ofNat_of_zero_le (h.iso.nn _ hm)
  rw [hX'] at h1
  obtain ⟨s', i', hO'⟩ := obj_at hT (root_at (List.mem_of_getElem? h1) (by omega))
  obtain ⟨s2, hs2, e1, e2, -, e4, e5⟩ := h.iso.at_ _ hm s hO.spot
  rw [hX'] at hs2
  obtain rfl := Option.some.inj (hs2.symm.trans hO'.spot)
  exact ⟨X', s2, i', hx, h1, hX', hm, hO, hO', e1, e2, e4, e5⟩
theorem refE_same (h : SameS S T L φ) (hS : StOk S) (hT : StOk T) (x y z : Int) : refE T x y z = refE S x y z := by
  unfold refE
  rw [objE_same h hS hT, h.len_r]
  by_cases h0 : objE S x = 0
  · obtain ⟨-, k, X, s, i, rfl, hx, hO, h1, -⟩ := root_obj h0
    obtain ⟨X', s', i', h2⟩ := h.obj hT hx hO
    rw [h1, spS_at h2.hx' h2.o', h2.er]
  · rw [if_pos h0, if_pos h0]
theorem bodyE_same (h : SameS S T L φ) (hS : StOk S) (hT : StOk T) (x y : Int) : bodyE T x y = bodyE S x y := by
  unfold bodyE
  rw [objE_same h hS hT]
  by_cases h0 : objE S x = 0
  · obtain ⟨-, k, X, s, i, rfl, hx, hO, h1, -⟩ := root_obj h0
    obtain ⟨X', s', i', h2⟩ := h.obj hT hx hO
    rw [h1, spS_at h2.hx' h2.o', h2.eb]
  · rw [if_pos h0, if_pos h0]
theorem slotTE_same (h : SameS S T L φ) (hS : StOk S) (hT : StOk T) (x : Int) : slotTE T x = slotTE S x := by
  unfold slotTE
  rw [stE_ok.2 hS, stE_ok.2 hT, h.len_r]
def SameO (X Y : Out) : Prop := X.er = Y.er ∧ X.told = Y.told ∧ (X.er = 0 → Alikes X.st Y.st)
theorem SameO.bad {S T : St} {E : Int} (h : E ≠ 0) : SameO ⟨S, 0, E⟩ ⟨T, 0, E⟩ := ⟨rfl, rfl, fun h0 => absurd h0 h⟩
theorem refO_same (h : SameS S T L φ) (hS : StOk S) (hT : StOk T) (x y z : Int) : SameO (refO S x y z) (refO T x y z) := by
  by_cases hE : refE S x y z = 0
  · have hE' := hE
    rw [← refE_same h hS hT] at hE'
    obtain ⟨-, k, X, K, O, s, i, rfl, rfl, rfl, hx, hO, hK, hz⟩ := refE_zero hE
    obtain ⟨X', s', i', h2⟩ := h.obj hT hx hO
    obtain ⟨v, hv, -, hv2⟩ := ref_word hS hO hK
    obtain ⟨v', hv', -, -⟩ := ref_word hT h2.o' (by rw [h2.er]; exact hK)
    have e1 : (refsOf S.a s)[K]? = some (v : Int) := by
      rw [ref_ix hK, show s.loc.toNat + 1 + K = X + 1 + K by rw [hO.loc]; omega, hv]
    have e2 : (refsOf T.a s')[K]? = some (v' : Int) := by
      rw [ref_ix (by rw [h2.er]; exact hK), show s'.loc.toNat + 1 + K = X' + 1 + K by rw [h2.o'.loc]; omega, hv']
    rw [h2.refs, List.getElem?_map, e1] at e2
    have e3 : refT φ v = v' := by simpa using e2
    rw [refO_is hE hx hv, refO_is hE' h2.hx' hv']
    refine ⟨rfl, rfl, fun _ => ⟨L, φ, ?_⟩⟩
    have e4 : (v' : Int) - 1 = phiV φ ((v : Int) - 1) := by
      rw [← e3]
      unfold refT
      by_cases h0 : (v : Int) = 0
      · rw [if_pos h0, phiV_neg (by omega)]; omega
      · rw [if_neg h0, phiV_pos (by omega)]; omega
    rw [e4]
    exact h.rootsSet (fun h0 => Iso.link_of h.closed h2.mem hO.spot _ (List.mem_of_getElem? e1) (by omega))
  · have hE' := hE
    rw [← refE_same h hS hT] at hE'
    have e1 : refO S x y z = ⟨S, 0, refE S x y z⟩ := if_pos hE
    have e2 : refO T x y z = ⟨T, 0, refE T x y z⟩ := if_pos hE'
    rw [e1, e2, refE_same h hS hT]
    exact SameO.bad hE
theorem setO_same (h : SameS S T L φ) (hS : StOk S) (hT : StOk T) (x y z : Int) : SameO (setO S x y z) (setO T x y z) := by
  by_cases hE : refE S x y z = 0
  · have hE' := hE
    rw [← refE_same h hS hT] at hE'
    obtain ⟨-, k, X, K, O, s, i, rfl, rfl, rfl, hx, hO, hK, hz⟩ := refE_zero hE
    obtain ⟨X', s', i', h2⟩ := h.obj hT hx hO
    have hy : S.r[O]? = some S.r[O] := List.getElem?_eq_getElem hz
    have hy' := h.root hy
    have hyr := root_val hS (List.mem_of_getElem? hy)
    have hyr' := root_val hT (List.mem_of_getElem? hy')
    have hK' : (K : Int) < s'.r := by rw [h2.er]; exact hK
    have hb := hO.ok.b0
    rw [setO_is hE hx hy, setO_is hE' h2.hx' hy']
    refine ⟨rfl, rfl, fun _ => ⟨L, φ, h.paySet h2.mem hO.spot (by rw [h2.goes]; exact h2.o'.spot) h2.er (by omega) (set_law hS hO hK hyr.1).2 (set_law hT h2.o' hK' hyr'.1).2 (fun _ => ⟨?_, fun h0 => ?_⟩) (fun hn => absurd hK hn)⟩⟩
    · unfold refT
      by_cases h0 : 0 ≤ S.r[O]
      · rw [phiV_pos h0, if_neg (by omega)]
        congr 2
        omega
      · rw [phiV_neg (by omega), if_pos (by omega)]
        omega
    · have : S.r[O] + 1 - 1 = S.r[O] := by omega
      rw [this]
      exact h.sub _ (root_at (List.mem_of_getElem? hy) (by omega))
  · have hE' := hE
    rw [← refE_same h hS hT] at hE'
    have e1 : setO S x y z = ⟨S, 0, refE S x y z⟩ := if_pos hE
    have e2 : setO T x y z = ⟨T, 0, refE T x y z⟩ := if_pos hE'
    rw [e1, e2, refE_same h hS hT]
    exact SameO.bad hE
theorem getO_same (h : SameS S T L φ) (hS : StOk S) (hT : StOk T) (x y : Int) : SameO (getO S x y) (getO T x y) := by
  by_cases hE : bodyE S x y = 0
  · have hE' := hE
    rw [← bodyE_same h hS hT] at hE'
    obtain ⟨-, k, X, K, s, i, rfl, rfl, hx, hO, hK⟩ := bodyE_zero hE
    obtain ⟨X', s', i', h2⟩ := h.obj hT hx hO
    have hK' : (K : Int) < s'.b := by rw [h2.eb]; exact hK
    have e1 := body_ix (a := S.a) hK
    have e2 := body_ix (a := T.a) hK'
    rw [h2.body, e1] at e2
    have r0 := hO.ok.r0
    unfold getO
    rw [if_neg (by rw [hE]; decide), if_neg (by rw [hE']; decide), atX_is hx, atX_is h2.hx', spS_at hx hO, spS_at h2.hx' h2.o', h2.er]
    rw [hO.loc, h2.o'.loc, h2.er] at e2
    refine ⟨rfl, ?_, fun _ => ⟨L, φ, h⟩⟩
    show S.a.getD _ 0 = T.a.getD _ 0
    rw [List.getD_eq_getElem?_getD, List.getD_eq_getElem?_getD, show ((X : Int) + 1 + s.r + K).toNat = (X : Int).toNat + 1 + s.r.toNat + K by omega, show ((X' : Int) + 1 + s.r + K).toNat = (X' : Int).toNat + 1 + s.r.toNat + K by omega, e2]
  · have hE' := hE
    rw [← bodyE_same h hS hT] at hE'
    have e1 : getO S x y = ⟨S, 0, bodyE S x y⟩ := if_pos hE
    have e2 : getO T x y = ⟨T, 0, bodyE T x y⟩ := if_pos hE'
    rw [e1, e2, bodyE_same h hS hT]
    exact SameO.bad hE
theorem putO_same (h : SameS S T L φ) (hS : StOk S) (hT : StOk T) (x y v : Int) : SameO (putO S x y v) (putO T x y v) := by
  by_cases hE : bodyE S x y = 0
  · have hE' := hE
    rw [← bodyE_same h hS hT] at hE'
    obtain ⟨-, k, X, K, s, i, rfl, rfl, hx, hO, hK⟩ := bodyE_zero hE
    obtain ⟨X', s', i', h2⟩ := h.obj hT hx hO
    have hK' : (K : Int) < s'.b := by rw [h2.eb]; exact hK
    have r0 := hO.ok.r0
    rw [putO_is hE hx hO, putO_is hE' h2.hx' h2.o']
    have p1 := (put_law hS hO hK v).2
    have p2 := (put_law hT h2.o' hK' v).2
    rw [h2.er] at p2
    rw [h2.er]
    exact ⟨rfl, rfl, fun _ => ⟨L, φ, h.paySet h2.mem hO.spot (by rw [h2.goes]; exact h2.o'.spot) h2.er (by omega) p1 p2 (fun hn => absurd hn (by omega)) (fun _ => rfl)⟩⟩
  · have hE' := hE
    rw [← bodyE_same h hS hT] at hE'
    have e1 : putO S x y v = ⟨S, 0, bodyE S x y⟩ := if_pos hE
    have e2 : putO T x y v = ⟨T, 0, bodyE T x y⟩ := if_pos hE'
    rw [e1, e2, bodyE_same h hS hT]
    exact SameO.bad hE
theorem addE_full {l : List Rn} {x : Int} (h : PinsOk l) (hx : thereB x = true) : addE l x = 7 := by
  unfold addE
  rw [if_neg (by rw [findE_zero.2 ⟨h, hx⟩]; decide)]
theorem pinO_same (h : SameS S T L φ) (hS : StOk S) (hT : StOk T) (x : Int) (h1 : (pinO S x).er ≠ 7) (h2 : (pinO T x).er ≠ 7) : (pinO S x).er = (pinO T x).er := by
  by_cases hE : objE S x = 0
  · have hE' := hE
    rw [← objE_same h hS hT] at hE'
    obtain ⟨-, k, X, s, i, rfl, hx, hO, -⟩ := root_obj hE
    obtain ⟨X', s', i', h3⟩ := h.obj hT hx hO
    by_cases hP : ∃ j, PinOk S X j
    · obtain ⟨j, hP⟩ := hP
      rw [pinO_ok hE hx hP]
      by_cases hQ : ∃ j, PinOk T X' j
      · obtain ⟨j', hQ⟩ := hQ
        rw [pinO_ok hE' h3.hx' hQ]
      · rw [pinO_no hE' h3.hx' (fun j hj => hQ ⟨j, hj⟩)] at h2
        exact absurd (addE_full hT.pins (there_of hT (root_at (List.mem_of_getElem? h3.hx') (by omega)))) h2
    · rw [pinO_no hE hx (fun j hj => hP ⟨j, hj⟩)] at h1
      exact absurd (addE_full hS.pins (there_of hS (root_at (List.mem_of_getElem? hx) (by omega)))) h1
  · have hE' := hE
    rw [← objE_same h hS hT] at hE'
    have e1 : pinO S x = ⟨S, 0, objE S x⟩ := if_pos hE
    have e2 : pinO T x = ⟨T, 0, objE T x⟩ := if_pos hE'
    rw [e1, e2, objE_same h hS hT]
theorem phiS_gen (φ : Int → Int) (s : Slot) : (phiS φ s).gen = s.gen := by
  unfold phiS
  by_cases h : s.opn = true
  · rw [if_pos h]
  · rw [if_neg h]
theorem phiS_free (φ : Int → Int) (s : Slot) : slotFree (phiS φ s) = slotFree s := by
  unfold slotFree
  rw [phiS_opn, phiS_gen]
theorem findIdx_phi (φ : Int → Int) : ∀ l : List Slot, (l.map (phiS φ)).findIdx? slotFree = l.findIdx? slotFree
  | [] => rfl
  | s :: l => by
    rw [List.map_cons, List.findIdx?_cons, List.findIdx?_cons, phiS_free, findIdx_phi φ l]
theorem freeIx_same (h : SameS S T L φ) : freeIx T.l = freeIx S.l := by
  unfold freeIx
  rw [h.l, findIdx_phi]
theorem openO_same (h : SameS S T L φ) (hS : StOk S) (hT : StOk T) (x : Int) : SameO (openO S x) (openO T x) := by
  by_cases hE : objE S x = 0
  · have hE' := hE
    rw [← objE_same h hS hT] at hE'
    obtain ⟨-, k, X, s, i, rfl, hx, hO, -⟩ := root_obj hE
    obtain ⟨X', s', i', h3⟩ := h.obj hT hx hO
    have hX := root_at (List.mem_of_getElem? hx) (by omega)
    have hX' := root_at (List.mem_of_getElem? h3.hx') (by omega)
    rcases open_cases hS hX with ⟨f1, j, sl, hop, -⟩ | f1
    · have hsl : T.l[j]? = some (phiS φ sl) := by rw [h.l, List.getElem?_map, hop.at_]; rfl
      rcases open_cases hT hX' with ⟨f2, -⟩ | f2
      · rw [openO_is hE hx f1 hop.ix hop.at_, openO_is hE' h3.hx' f2 (by rw [freeIx_same h]; exact hop.ix) hsl, phiS_gen]
        refine ⟨rfl, rfl, fun _ => ⟨L, φ, ?_⟩⟩
        have := h.slotSet (j := j) (u := ⟨sl.gen + 1, true, (X : Int)⟩) (fun _ => h3.mem)
        unfold phiS at this
        rw [if_pos rfl] at this
        simp only at this
        rw [h3.goes] at this
        exact this
      · exfalso
        unfold openE at f2
        rw [freeIx_same h, hop.ix] at f2
        have := begs_lt hT.arena (hT.live _ hX')
        have h256 := (parse_ok (checkE_ok.1 hT.arena).1).1
        rw [if_neg (by simp [hT.hands]), if_neg (by omega), if_neg (by omega)] at f2
        exact absurd f2 (by decide)
    · rcases open_cases hT hX' with ⟨f2, j, sl, hop, -⟩ | f2
      · exfalso
        unfold openE at f1
        rw [← freeIx_same h, hop.ix] at f1
        have := begs_lt hS.arena (hS.live _ hX)
        have h256 := (parse_ok (checkE_ok.1 hS.arena).1).1
        rw [if_neg (by simp [hS.hands]), if_neg (by omega), if_neg (by omega)] at f1
        exact absurd f1 (by decide)
      · rw [openO_no hE hx (by rw [f1]; decide), openO_no hE' h3.hx' (by rw [f2]; decide), f1, f2]
        exact SameO.bad (by decide)
  · have hE' := hE
    rw [← objE_same h hS hT] at hE'
    have e1 : openO S x = ⟨S, 0, objE S x⟩ := if_pos hE
    have e2 : openO T x = ⟨T, 0, objE T x⟩ := if_pos hE'
    rw [e1, e2, objE_same h hS hT]
    exact SameO.bad hE
theorem findS_same (h : SameS S T L φ) (v : Int) : findS T.l v = (findS S.l v).map (phiS φ) := by
  unfold findS
  rw [h.l, List.getElem?_map]
  cases hs : S.l[(v % 65536).toNat]? with
  | none => rfl
  | some s =>
    simp only [Option.map_some]
    rw [phiS_opn, phiS_gen]
    split <;> rfl
theorem useO_same (h : SameS S T L φ) (hS : StOk S) (hT : StOk T) (v x : Int) : SameO (useO S v x) (useO T v x) := by
  unfold useO
  rw [slotTE_same h hS hT]
  by_cases hE : slotTE S x = 0
  · rw [if_neg (by rw [hE]; decide), if_neg (by rw [hE]; decide), findS_same h]
    cases hf : findS S.l v with
    | none => exact SameO.bad (by decide)
    | some sl =>
      obtain ⟨-, h2, h3, -⟩ := findS_some.1 hf
      have h4 := h.sub _ (open_at (List.mem_of_getElem? h2) h3)
      have e : (phiS φ sl).loc = phiV φ sl.loc := by
        unfold phiS
        rw [if_pos h3, phiV_pos (h.closed.nn _ h4)]
      simp only [Option.map_some]
      rw [e]
      exact ⟨rfl, rfl, fun _ => ⟨L, φ, h.rootsSet (fun _ => h4)⟩⟩
  · rw [if_pos hE, if_pos hE]
    exact SameO.bad hE
theorem shutO_same (h : SameS S T L φ) (hS : StOk S) (hT : StOk T) (v : Int) : SameO (shutO S v) (shutO T v) := by
  unfold shutO
  rw [stE_ok.2 hS, stE_ok.2 hT, if_neg (by decide), if_neg (by decide), findS_same h]
  cases hf : findS S.l v with
  | none => exact SameO.bad (by decide)
  | some sl =>
    simp only [Option.map_some]
    rw [phiS_gen]
    exact ⟨rfl, rfl, fun _ => ⟨L, φ, h.slotSet (u := ⟨sl.gen, false, 0⟩) (fun h => by cases h)⟩⟩
theorem dropO_same (h : SameS S T L φ) (hS : StOk S) (hT : StOk T) (x : Int) : SameO (dropO S x) (dropO T x) := by
  unfold dropO
  rw [slotTE_same h hS hT]
  by_cases hE : slotTE S x = 0
  · rw [if_neg (by rw [hE]; decide), if_neg (by rw [hE]; decide)]
    have := h.rootsSet (O := x.toNat) (y := -1) (fun h => by omega)
    rw [phiV_neg (by decide)] at this
    exact ⟨rfl, rfl, fun _ => ⟨L, φ, this⟩⟩
  · rw [if_pos hE, if_pos hE]
    exact SameO.bad hE
end
theorem makeE_same {S T : St} {L : List Int} {φ : Int → Int} (h : SameS S T L φ) (hS : StOk S) (hT : StOk T) (x r b t : Int) : makeE T x r b t false = makeE S x r b t false := by
  unfold makeE
  rw [stE_ok.2 hS, stE_ok.2 hT, h.len_r]
theorem makeO_room {S : St} (hS : StGood S) {x r b t : Int} (h : (makeO S x r b t).er = 0) : ∃ (k : Nat) (S1 : St) (g : Rn), Alikes S S1 ∧ Made S1 (makeO S x r b t).st k g r b t ∧ (makeO S x r b t).st.r = S1.r.set k g.loc ∧ (makeO S x r b t).st.p = S1.p ∧ (makeO S x r b t).st.l = S1.l ∧ x = k := by
  have hE : makeE S x r b t false = 0 := by
    refine Classical.byContradiction fun h0 => ?_
    unfold makeO at h
    rw [if_pos h0] at h
    exact h0 h
  obtain ⟨hOK, -, hh, k, rfl, hk⟩ := makeE_zero hE
  have hX : makeO S k r b t = if fitsE (ggL S.a) (1 + r + b) = 0 then ⟨putIn S k r b t, 0, 0⟩ else if fitsE (ggL (sweep S).1.a) (1 + r + b) = 0 then ⟨putIn (sweep S).1 k r b t, 1, 0⟩ else ⟨S, 0, 7⟩ := by
    unfold makeO
    rw [if_neg (by rw [hE]; decide), Int.toNat_natCast]
  rw [hX] at h ⊢
  by_cases h1 : fitsE (ggL S.a) (1 + r + b) = 0
  · rw [if_pos h1]
    obtain ⟨j, g, hG⟩ := first_gap h1
    have hM := made_of hOK hh hG hk
    refine ⟨k, S, g, Alikes.refl hOK, ?_⟩
    unfold putIn
    rw [hG.is]
    exact ⟨hM, rfl, rfl, rfl, rfl⟩
  · rw [if_neg h1] at h ⊢
    by_cases h2 : fitsE (ggL (sweep S).1.a) (1 + r + b) = 0
    · rw [if_pos h2]
      obtain ⟨j, g, hG⟩ := first_gap h2
      have hg := sweep_good hS
      have hk' : k < (sweep S).1.r.length := by
        obtain ⟨L, φ, hI⟩ := sweep_alikes hOK
        rw [hI.len_r]
        exact hk
      have hM := made_of hg.ok hh hG hk'
      refine ⟨k, (sweep S).1, g, sweep_alikes hOK, ?_⟩
      unfold putIn
      rw [hG.is]
      exact ⟨hM, rfl, rfl, rfl, rfl⟩
    · rw [if_neg h2] at h
      exact absurd h (show ¬ (7 : Int) = 0 by decide)
theorem makeO_er {S : St} (x r b t : Int) : (makeO S x r b t).er = makeE S x r b t false ∨ ((makeO S x r b t).er = 7 ∧ makeE S x r b t false = 0) := by
  unfold makeO
  by_cases h0 : makeE S x r b t false = 0
  · rw [if_neg (by rw [h0]; decide)]
    split
    · exact .inl h0.symm
    · split
      · exact .inl h0.symm
      · exact .inr ⟨rfl, h0⟩
  · rw [if_pos h0]
    exact .inl rfl
theorem do_same {S T : St} (hST : Alikes S T) (hS : StGood S) (hT : StGood T) (o : OpV) (h8 : o.kind ≠ 8) (h9 : o.kind ≠ 9) (e1 : (doO S o).er ≠ 7) (e2 : (doO T o).er ≠ 7) :
    (doO S o).er = (doO T o).er ∧ (o.kind ≠ 1 → o.kind ≠ 2 → o.kind ≠ 7 → (doO S o).told = (doO T o).told) ∧ (¬ (o.kind = 7 ∧ (doO S o).er = 0) → Alikes (nextS S o) (nextS T o)) := by
  have hfin : ∀ {X Y : Out}, doO S o = X → doO T o = Y → X.er = Y.er → (o.kind ≠ 1 → o.kind ≠ 2 → o.kind ≠ 7 → X.told = Y.told) → (¬ (o.kind = 7 ∧ X.er = 0) → X.er = 0 → Alikes X.st Y.st) → (doO S o).er = (doO T o).er ∧ (o.kind ≠ 1 → o.kind ≠ 2 → o.kind ≠ 7 → (doO S o).told = (doO T o).told) ∧ (¬ (o.kind = 7 ∧ (doO S o).er = 0) → Alikes (nextS S o) (nextS T o)) := by
    rintro X Y rfl rfl h1 h2 h3
    refine ⟨h1, h2, fun hn => ?_⟩
    unfold nextS
    rw [← h1]
    by_cases h0 : (doO S o).er = 0
    · rw [if_pos h0, if_pos h0]
      exact h3 hn h0
    · rw [if_neg h0, if_neg h0]
      exact hST
  have hso : ∀ {X Y : Out}, doO S o = X → doO T o = Y → SameO X Y → (doO S o).er = (doO T o).er ∧ (o.kind ≠ 1 → o.kind ≠ 2 → o.kind ≠ 7 → (doO S o).told = (doO T o).told) ∧ (¬ (o.kind = 7 ∧ (doO S o).er = 0) → Alikes (nextS S o) (nextS T o)) := fun hX hY h => hfin hX hY h.1 (fun _ _ _ => h.2.1) (fun _ => h.2.2)
  obtain ⟨L, φ, hI⟩ := hST
  by_cases hr : rightB o = false
  · exact hso (X := ⟨S, 0, 1⟩) (Y := ⟨T, 0, 1⟩) (if_pos hr) (if_pos hr) (SameO.bad (by decide))
  · by_cases k1 : o.kind = 1
    · have q1 : doO S o = makeO S o.a o.b o.c (o.v % 65536) := by unfold doO; rw [if_neg hr, if_pos k1]
      have q2 : doO T o = makeO T o.a o.b o.c (o.v % 65536) := by unfold doO; rw [if_neg hr, if_pos k1]
      rw [q1] at e1
      rw [q2] at e2
      refine hfin q1 q2 ?_ (fun h => absurd k1 h) (fun _ h0 => ?_)
      · rcases makeO_er (S := S) o.a o.b o.c (o.v % 65536) with g1 | ⟨g1, -⟩
        · rcases makeO_er (S := T) o.a o.b o.c (o.v % 65536) with g2 | ⟨g2, -⟩
          · rw [g1, g2, makeE_same hI hS.ok hT.ok]
          · exact absurd g2 e2
        · exact absurd g1 e1
      · have h0' : (makeO T o.a o.b o.c (o.v % 65536)).er = 0 := by
          rcases makeO_er (S := S) o.a o.b o.c (o.v % 65536) with g1 | ⟨g1, -⟩
          · rcases makeO_er (S := T) o.a o.b o.c (o.v % 65536) with g2 | ⟨g2, -⟩
            · rw [g2, makeE_same hI hS.ok hT.ok, ← g1, h0]
            · exact absurd g2 e2
          · exact absurd g1 e1
        obtain ⟨k, S1, g, a1, m1, r1, p1, l1, x1⟩ := makeO_room hS h0
        obtain ⟨k', T1, g', a2, m2, r2, p2, l2, x2⟩ := makeO_room hT h0'
        obtain rfl : k' = k := by omega
        exact made_alikes ((a1.symm.trans ⟨L, φ, hI⟩).trans a2) m1 m2 r1 p1 l1 r2 p2 l2
    · by_cases k2 : o.kind = 2
      · have q1 : doO S o = ⟨(sweep S).1, (sweep S).2, 0⟩ := by unfold doO collO; rw [if_neg hr, if_neg k1, if_pos k2, if_neg (by rw [stE_ok.2 hS.ok]; decide)]
        have q2 : doO T o = ⟨(sweep T).1, (sweep T).2, 0⟩ := by unfold doO collO; rw [if_neg hr, if_neg k1, if_pos k2, if_neg (by rw [stE_ok.2 hT.ok]; decide)]
        refine hfin q1 q2 rfl (fun _ h => absurd k2 h) (fun _ _ => ?_)
        exact ((sweep_alikes hS.ok).symm.trans ⟨L, φ, hI⟩).trans (sweep_alikes hT.ok)
      · by_cases k3 : o.kind = 3
        · exact hso (by unfold doO; rw [if_neg hr, if_neg k1, if_neg k2, if_pos k3]) (by unfold doO; rw [if_neg hr, if_neg k1, if_neg k2, if_pos k3]) (refO_same hI hS.ok hT.ok o.a o.b o.c)
        · by_cases k4 : o.kind = 4
          · exact hso (by unfold doO; rw [if_neg hr, if_neg k1, if_neg k2, if_neg k3, if_pos k4]) (by unfold doO; rw [if_neg hr, if_neg k1, if_neg k2, if_neg k3, if_pos k4]) (setO_same hI hS.ok hT.ok o.a o.b o.c)
          · by_cases k5 : o.kind = 5
            · exact hso (by unfold doO; rw [if_neg hr, if_neg k1, if_neg k2, if_neg k3, if_neg k4, if_pos k5]) (by unfold doO; rw [if_neg hr, if_neg k1, if_neg k2, if_neg k3, if_neg k4, if_pos k5]) (getO_same hI hS.ok hT.ok o.a o.b)
            · by_cases k6 : o.kind = 6
              · exact hso (by unfold doO; rw [if_neg hr, if_neg k1, if_neg k2, if_neg k3, if_neg k4, if_neg k5, if_pos k6]) (by unfold doO; rw [if_neg hr, if_neg k1, if_neg k2, if_neg k3, if_neg k4, if_neg k5, if_pos k6]) (putO_same hI hS.ok hT.ok o.a o.b o.v)
              · by_cases k7 : o.kind = 7
                · have q1 : doO S o = pinO S o.a := by unfold doO; rw [if_neg hr, if_neg k1, if_neg k2, if_neg k3, if_neg k4, if_neg k5, if_neg k6, if_pos k7]
                  have q2 : doO T o = pinO T o.a := by unfold doO; rw [if_neg hr, if_neg k1, if_neg k2, if_neg k3, if_neg k4, if_neg k5, if_neg k6, if_pos k7]
                  rw [q1] at e1
                  rw [q2] at e2
                  exact hfin q1 q2 (pinO_same hI hS.ok hT.ok o.a e1 e2) (fun _ _ h => absurd k7 h) (fun hn h0 => absurd ⟨k7, h0⟩ hn)
                · by_cases k10 : o.kind = 10
                  · exact hso (by unfold doO; rw [if_neg hr, if_neg k1, if_neg k2, if_neg k3, if_neg k4, if_neg k5, if_neg k6, if_neg k7, if_neg h8, if_neg h9, if_pos k10]) (by unfold doO; rw [if_neg hr, if_neg k1, if_neg k2, if_neg k3, if_neg k4, if_neg k5, if_neg k6, if_neg k7, if_neg h8, if_neg h9, if_pos k10]) (openO_same hI hS.ok hT.ok o.a)
                  · by_cases k11 : o.kind = 11
                    · exact hso (by unfold doO; rw [if_neg hr, if_neg k1, if_neg k2, if_neg k3, if_neg k4, if_neg k5, if_neg k6, if_neg k7, if_neg h8, if_neg h9, if_neg k10, if_pos k11]) (by unfold doO; rw [if_neg hr, if_neg k1, if_neg k2, if_neg k3, if_neg k4, if_neg k5, if_neg k6, if_neg k7, if_neg h8, if_neg h9, if_neg k10, if_pos k11]) (useO_same hI hS.ok hT.ok o.v o.a)
                    · by_cases k12 : o.kind = 12
                      · exact hso (by unfold doO; rw [if_neg hr, if_neg k1, if_neg k2, if_neg k3, if_neg k4, if_neg k5, if_neg k6, if_neg k7, if_neg h8, if_neg h9, if_neg k10, if_neg k11, if_pos k12]) (by unfold doO; rw [if_neg hr, if_neg k1, if_neg k2, if_neg k3, if_neg k4, if_neg k5, if_neg k6, if_neg k7, if_neg h8, if_neg h9, if_neg k10, if_neg k11, if_pos k12]) (shutO_same hI hS.ok hT.ok o.v)
                      · exact hso (by unfold doO; rw [if_neg hr, if_neg k1, if_neg k2, if_neg k3, if_neg k4, if_neg k5, if_neg k6, if_neg k7, if_neg h8, if_neg h9, if_neg k10, if_neg k11, if_neg k12]) (by unfold doO; rw [if_neg hr, if_neg k1, if_neg k2, if_neg k3, if_neg k4, if_neg k5, if_neg k6, if_neg k7, if_neg h8, if_neg h9, if_neg k10, if_neg k11, if_neg k12]) (dropO_same hI hS.ok hT.ok o.a)
theorem Alikes.rooted {S T : St} {L : List Int} {φ : Int → Int} (h : SameS S T L φ) : rootedL T = (rootedL S).map φ := by
  unfold rootedL
  rw [h.r, h.l, h.p, List.map_append (f := φ), List.map_append (f := φ), filter_phi (fun v hv h0 => h.iso.nn _ (h.sub _ (root_at hv h0))), open_phi]
  congr 1
  conv => lhs; rw [← List.map_id (pinsL S.p)]
  refine List.map_congr_left (fun x hx => ?_)
  obtain ⟨y, hy, rfl⟩ := List.mem_map.1 hx
  exact (h.pin y hy).symm
theorem Alikes.forms {S T : St} (h : Alikes S T) {os os' : List Ob} {fo fo' : List Int} (h1 : FormIs S.a (rootedL S) os fo) (h2 : FormIs T.a (rootedL T) os' fo') : os = os' ∧ fo = fo' := by
  obtain ⟨L, φ, hI⟩ := h
  rw [Alikes.rooted hI] at h2
  exact form_iso hI.iso hI.closed (fun x hx => hI.sub x (rooted_begs.2 hx)) h1 h2
end Go.Proofs.YtccmichgbkmdpaaGreatDoor

namespace Go.Proofs.YtccmichgbkmdpaaGreatDoor
open Go.RowKit
def collOp : OpV := ⟨2, 0, 0, 0, 0⟩
theorem told_at : ∀ (l : List OpV) (S : St) (i : Nat) (o : OpV), l[i]? = some o → (playT S l)[i]? = some (toldS (playS S (l.take i)) o)
  | [], _, _, _, h => by simp at h
  | x :: l, S, 0, o, h => by
    simp only [List.getElem?_cons_zero, Option.some.injEq] at h
    subst h
    rfl
  | x :: l, S, i + 1, o, h => by
    simp only [List.getElem?_cons_succ] at h
    exact told_at l (nextS S x) i o h
theorem play_take1 {S : St} {l : List OpV} {j : Nat} {o : OpV} (ho : l[j]? = some o) : playS S (l.take (j + 1)) = nextS (playS S (l.take j)) o := by
  obtain ⟨q, rfl⟩ := List.getElem?_eq_some_iff.1 ho
  rw [List.take_succ_eq_append_getElem q, playS_app]
  rfl
theorem coll_next {S : St} (hS : StGood S) : nextS S collOp = (sweep S).1 := by
  have h1 : doO S collOp = ⟨(sweep S).1, (sweep S).2, 0⟩ := by
    unfold doO collOp
    rw [if_neg (by decide), if_neg (by decide), if_pos rfl]
    unfold collO
    rw [if_neg (by rw [stE_ok.2 hS.ok]; decide)]
  unfold nextS
  rw [h1, if_pos rfl]
theorem coll_alikes {S : St} (hS : StGood S) : Alikes S (nextS S collOp) := by
  rw [coll_next hS]
  exact sweep_alikes hS.ok
def insL (l : List OpV) (k : Nat) : List OpV := l.take k ++ collOp :: l.drop k
def idxK (k i : Nat) : Nat := if i < k then i else i + 1
theorem insL_length {l : List OpV} {k : Nat} (hk : k ≤ l.length) : (insL l k).length = l.length + 1 := by
  unfold insL
  rw [List.length_append, List.length_cons, List.length_take, List.length_drop]
  omega
theorem insL_at {l : List OpV} {k i : Nat} {o : OpV} (hk : k ≤ l.length) (ho : l[i]? = some o) : (insL l k)[idxK k i]? = some o := by
  have hl : (l.take k).length = k := by rw [List.length_take, Nat.min_eq_left hk]
  unfold insL idxK
  by_cases h : i < k
  · rw [if_pos h, List.getElem?_append_left (by omega), List.getElem?_take, if_pos h, ho]
  · rw [if_neg h, List.getElem?_append_right (by omega), hl, show i + 1 - k = (i - k) + 1 by omega, List.getElem?_cons_succ, List.getElem?_drop, show k + (i - k) = i by omega, ho]
theorem insL_mid {l : List OpV} {k : Nat} (hk : k ≤ l.length) : (insL l k)[k]? = some collOp := by
  have hl : (l.take k).length = k := by rw [List.length_take, Nat.min_eq_left hk]
  unfold insL
  rw [List.getElem?_append_right (by omega), hl, Nat.sub_self]
  rfl
theorem insL_wf {l : List OpV} {k : Nat} (hv : ∀ o ∈ l, (Lit.int .u64 o.v).wf = true) : ∀ o ∈ insL l k, (Lit.int .u64 o.v).wf = true := by
  intro o ho
  rcases List.mem_append.1 ho with ho | ho
  · exact hv o (List.mem_of_mem_take ho)
  · rcases List.mem_cons.1 ho with rfl | ho
    · decide
    · exact hv o (List.mem_of_mem_drop ho)
theorem told_idx {S : St} {l : List OpV} {k i : Nat} {u : ToldV} (h : ((playT S (insL l k)).eraseIdx k)[i]? = some u) : (playT S (insL l k))[idxK k i]? = some u := by
  rw [List.getElem?_eraseIdx] at h
  unfold idxK
  split at h
  · rename_i hi; rw [if_pos hi]; exact h
  · rename_i hi; rw [if_neg hi]; exact h
theorem collects_law {S : St} {l : List OpV} {k : Nat} (hS : StGood S) (hv : ∀ o ∈ l, (Lit.int .u64 o.v).wf = true) (hk : k ≤ l.length) :
    ∃ Inv : Nat → Prop, Inv 0 ∧
      (∀ (i : Nat) (o : OpV) (t u : ToldV), Inv i → l[i]? = some o → (playT S l)[i]? = some t → ((playT S (insL l k)).eraseIdx k)[i]? = some u → o.kind ≠ 8 → o.kind ≠ 9 → t.e ≠ 7 → u.e ≠ 7 →
        t.e = u.e ∧ (o.kind ≠ 1 → o.kind ≠ 2 → o.kind ≠ 7 → t.v = u.v) ∧ (¬ (o.kind = 7 ∧ t.e = 0) → Inv (i + 1))) ∧
      (Inv l.length → Alikes (playS S l) (playS S (insL l k))) := by
  have hgx : ∀ i, StGood (playS S (l.take i)) := fun i => playS_good _ hS (fun o ho => hv o (List.mem_of_mem_take ho))
  have hgy : ∀ i, StGood (playS S ((insL l k).take i)) := fun i => playS_good _ hS (fun o ho => insL_wf hv o (List.mem_of_mem_take ho))
  refine ⟨fun i => Alikes (playS S (l.take i)) (playS S ((insL l k).take (idxK k i))), ?_, ?_, ?_⟩
  · show Alikes (playS S (l.take 0)) (playS S ((insL l k).take (idxK k 0)))
    unfold idxK
    by_cases h : 0 < k
    · rw [if_pos h]
      exact Alikes.refl hS.ok
    · rw [if_neg h]
      have h0 : k = 0 := by omega
      subst h0
      have := play_take1 (S := S) (insL_mid (l := l) (k := 0) hk)
      rw [this]
      exact coll_alikes hS
  · intro i o t u hI ho ht hu h8 h9 h7 h7'
    have ht' := told_at l S i o ho
    rw [ht] at ht'
    have ht2 := Option.some.inj ht'
    have hu' := told_at (insL l k) S (idxK k i) o (insL_at hk ho)
    rw [told_idx hu] at hu'
    have hu2 := Option.some.inj hu'
    subst ht2 hu2
    obtain ⟨e1, e2, e3⟩ := do_same hI (hgx i) (hgy _) o h8 h9 h7 h7'
    refine ⟨e1, e2, fun hn => ?_⟩
    have hA := e3 hn
    show Alikes (playS S (l.take (i + 1))) (playS S ((insL l k).take (idxK k (i + 1))))
    have h1 := play_take1 (S := S) ho
    have h2 := play_take1 (S := S) (insL_at (k := k) hk ho)
    rw [← h1, ← h2] at hA
    by_cases hik : i + 1 = k
    · have h3 : idxK k i = i := if_pos (by omega)
      have h4 : idxK k (i + 1) = k + 1 := by unfold idxK; rw [if_neg (by omega), hik]
      rw [h3, hik] at hA
      rw [h4, hik, play_take1 (S := S) (insL_mid hk)]
      exact hA.trans (coll_alikes (hgy k))
    · have h4 : idxK k (i + 1) = idxK k i + 1 := by
        unfold idxK
        by_cases h : i < k
        · rw [if_pos h, if_pos (by omega)]
        · rw [if_neg h, if_neg (by omega)]
      rw [h4]
      exact hA
  · intro h
    have h1 : idxK k l.length = l.length + 1 := if_neg (by omega)
    have h2 : Alikes (playS S (l.take l.length)) (playS S ((insL l k).take (idxK k l.length))) := h
    rw [h1, List.take_length, List.take_of_length_le (by rw [insL_length hk]; exact Nat.le_refl _)] at h2
    exact h2
end Go.Proofs.YtccmichgbkmdpaaGreatDoor

namespace Go.Proofs.YtccmichgbkmdpaaGreatDoor
open Go.RowKit
set_option maxRecDepth 100000 in
set_option maxHeartbeats 1000000 in
theorem insert_end_op (base : Nat) (A : Option Addr) (n c : Nat) (xs : List Value) (gv : Nat) (vs : List Value) (w : World)
    (hown : w.ownsRow base 41 5 (.slice A n c) n xs) (hbase : base ≤ w.heap.size) (hn : n ≤ 1000)
    (hv : Blk w gv 41 vs.toArray) (o2 : ∀ u ∈ vs, u.oneCell' = true) (hvl : vs.length = 5) :
    Calls Tryz.prog 14 #[.slice A n c, .int .i64 n, .slice (some ⟨gv, 0, none⟩) 1 1] w fun e w' => ∃ A' c', e = .returned (.slice A' (n + 1) c') ∧ w'.ownsRow base 41 5 (.slice A' (n + 1) c') (n + 1) (xs ++ vs) ∧ Below base w w' ∧ ∀ b, b < w.heap.size → (Value.slice A n c).ownBlock ≠ some b → w'.heap[b]? = w.heap[b]? := by
  obtain ⟨i0, hi, hz0, hz1, hz2⟩ := info_parts info_op
  have hrv : Reads w w.heap.size 5 (some ⟨gv, 0, none⟩) 1 vs := ⟨by omega, fun _ => ⟨_, rfl, hv.lt, fun j u hj => by
    rw [Addr.add_lit, Nat.zero_add, hv.cell]
    simpa using hj⟩⟩
  clear hv
  rcases A with _ | ad
  · have hm : n = 0 := by
      rcases hown.2 with ⟨h2, rfl⟩ | ⟨g, cap, cur, hv, -⟩
      · rfl
      · cases hv
    subst hm
    go_enter Tryz.func14, Tryz.ntmps14
    go_wp2_with (at_builtin; refine wpList_append_any _ rfl (.tmp 23) (.tmp 24) 29 rfl base 41 i0 _ 5 40 Tryz.underlying29 hi hz0 hz1 hz2 rfl (by decide) (.slice none 0 c) 0 xs rfl hown w.heap.size (some ⟨gv, 0, none⟩) 1 1 vs rfl hrv o2 (by simp [maxLen]) (by omega) hbase ?_; rintro v' w2 hown2 hgr hbl2 -; obtain ⟨A2', c2', rfl⟩ := own_slice hown2)
    go_ret
    exact ⟨_, _, rfl, hown2, (Below.refl base w).grown hgr hbase (fun g hg => (hown.lt g hg).1), fun b hb hne => hgr.block b hb (fun e => hne e.symm)⟩
  · obtain ⟨g, rfl⟩ : ∃ g, ad = ⟨g, 0, none⟩ := by
      rcases hown.2 with ⟨h2, -⟩ | ⟨g, cap, cur, hv, -⟩
      · cases h2
      · injection hv with h1 h2 h3; injection h1 with h1; exact ⟨g, h1⟩
    have hnc := own_cap hown
    have wn : IntKind.i64.wrap (n : Int) = n := IntWalk.i64_in _ (by omega)
    go_enter Tryz.func14, Tryz.ntmps14
    go_wp2_with (at_builtin; refine wpList_append_any _ rfl (.tmp 23) (.tmp 24) 29 rfl base 41 i0 _ 5 40 Tryz.underlying29 hi hz0 hz1 hz2 rfl (by decide) (.slice (some ⟨g, 0, none⟩) n c) n xs rfl hown w.heap.size (some ⟨gv, 0, none⟩) 1 1 vs rfl hrv o2 (by simp [maxLen]; omega) (by omega) hbase ?_; rintro v' w2 hown2 hgr hbl2 -; obtain ⟨A2', c2', rfl⟩ := own_slice hown2)
    all_goals
      go_ret
      exact ⟨_, _, rfl, hown2, (Below.refl base w).grown hgr hbase (fun g hg => (hown.lt g hg).1), fun b hb hne => hgr.block b hb (fun e => hne e.symm)⟩
set_option maxRecDepth 100000 in
set_option maxHeartbeats 1000000 in
theorem insert_op_in (base g n c i : Nat) (xs : List Value) (gv : Nat) (vs : List Value) (w : World)
    (hown : w.ownsRow base 41 5 (.slice (some ⟨g, 0, none⟩) n c) n xs) (hi : i < n) (hroom : n + 1 ≤ c) (hn : n ≤ 1000)
    (hv : Blk w gv 41 vs.toArray) (hne : gv ≠ g) (o1 : ∀ u ∈ xs, u.oneCell' = true) (o2 : ∀ u ∈ vs, u.oneCell' = true) (hvl : vs.length = 5) :
    Calls Tryz.prog 14 #[.slice (some ⟨g, 0, none⟩) n c, .int .i64 i, .slice (some ⟨gv, 0, none⟩) 1 1] w fun e w' => ∃ A' c', e = .returned (.slice A' (n + 1) c') ∧ w'.ownsRow base 41 5 (.slice A' (n + 1) c') (n + 1) (xs.take (i * 5) ++ (vs ++ xs.drop (i * 5))) ∧ Below base w w' ∧ ∀ b, b < w.heap.size → (Value.slice (some ⟨g, 0, none⟩) n c).ownBlock ≠ some b → w'.heap[b]? = w.heap[b]? := by
  obtain ⟨cur, hbg, hg, hnc, hcm, hcl, htk⟩ := own_open hown
  have hxl : xs.length = n * 5 := hown.1
  obtain ⟨i1, hi1⟩ : ∃ i1, i1 = i + 1 := ⟨_, rfl⟩
  obtain ⟨n1, hn1⟩ : ∃ n1, n1 = n + 1 := ⟨_, rfl⟩
  obtain ⟨T, hT⟩ : ∃ T, T = xs.drop (i * 5) := ⟨_, rfl⟩
  have hTl : T.length = (n - i) * 5 := by rw [hT, List.length_drop, hxl]; omega
  have oT : ∀ u ∈ T, u.oneCell' = true := fun u hu => o1 u (by rw [hT] at hu; exact List.mem_of_mem_drop hu)
  have hTc : ∀ j v, T[j]? = some v → cur[i * 5 + j]? = some v := by
    intro j v hj
    rw [hT, List.getElem?_drop, ← htk, List.getElem?_take] at hj
    split at hj
    · exact hj
    · cases hj
  obtain ⟨Y1, hY1⟩ : ∃ Y1, Y1 = splice cur (i * 5 + 5) T := ⟨_, rfl⟩
  obtain ⟨Y2, hY2⟩ : ∃ Y2, Y2 = splice Y1 (i * 5) vs := ⟨_, rfl⟩
  have hY1l : Y1.length = c * 5 := by rw [hY1, splice_lenK _ _ _ (by omega), hcl]
  have hY2l : Y2.length = c * 5 := by rw [hY2, splice_lenK _ _ _ (by omega), hY1l]
  have hfin : Y2.take ((n + 1) * 5) = xs.take (i * 5) ++ (vs ++ T) := by
    have := spliceBK cur (i * 5) vs T (by omega)
    rw [hvl, hTl, show i * 5 + 5 + (n - i) * 5 = (n + 1) * 5 by omega, ← hY1, ← hY2] at this
    rw [this, ← htk, List.take_take, Nat.min_eq_left (by omega)]
  rw [← hT, ← hfin]
  obtain ⟨W1, hW1⟩ : ∃ W1, W1 = w.drew.setRow g Y1.toArray := ⟨_, rfl⟩
  have hg1 : W1.heap[g]? = some (.cells Y1.toArray 41 (0, 0)) := by rw [hW1]; exact setRow_heap w.drew g _ _ _ _ hg
  have hcp1 : ∀ ty dc sc, (Builtin.copy_ #[29, 29] ty #[.slice (some ⟨g, i1 * 5, none⟩) (n1 - i1) dc, .slice (some ⟨g, i * 5, none⟩) (n1 - i) sc]).run Tryz.prog w.drew = .ok (goInt (n - i : Nat)) W1 := fun ty dc sc => by
    rw [hW1, hY1]
    have := run_copyK (P := Tryz.prog) w.drew 29 29 ty 41 5 g (i * 5 + 5) (n1 - i1) dc ⟨g, i * 5, none⟩ (n1 - i) sc (n - i) cur 41 T Tryz.underlying29 k_size_op hg (by simp only [Nat.min_def]; split <;> omega) hTl
      (fun j v hj => by rw [Addr.add_lit, cell_of_row w.drew _ _ _ _ _ hg]; simpa using hTc j v hj) (by omega) oT
    rw [show i1 * 5 = i * 5 + 5 by omega]
    exact this
  obtain ⟨W2, hW2⟩ : ∃ W2, W2 = W1.setRow g Y2.toArray := ⟨_, rfl⟩
  have hg2 : W2.heap[g]? = some (.cells Y2.toArray 41 (0, 0)) := by rw [hW2]; exact setRow_heap W1 g _ _ _ _ hg1
  have hcp2 : ∀ ty dc, (Builtin.copy_ #[29, 29] ty #[.slice (some ⟨g, i * 5, none⟩) (n1 - i) dc, .slice (some ⟨gv, 0, none⟩) 1 1]).run Tryz.prog W1 = .ok (goInt (1 : Nat)) W2 := fun ty dc => by
    rw [hW2, hY2]
    refine run_copyK (P := Tryz.prog) W1 29 29 ty 41 5 g (i * 5) (n1 - i) dc ⟨gv, 0, none⟩ 1 1 1 Y1 41 vs Tryz.underlying29 k_size_op hg1 (by simp only [Nat.min_def]; split <;> omega) (by omega) (fun j v hj => ?_) (by omega) o2
    rw [Addr.add_lit, Nat.zero_add, hW1, cell_setRow_other _ _ _ _ (by exact hne)]
    have := hv.cell j
    rw [List.getElem?_toArray] at this
    exact this.trans hj
  have hb2 : Below base w W2 := by
    rw [hW2, hW1]
    exact below_setRow (below_setRow (Below.refl base w).drew hbg _) hbg _
  have HR9 : Hid (∀ b, b < w.heap.size → (Value.slice (some ⟨g, 0, none⟩) n c).ownBlock ≠ some b → W2.heap[b]? = w.heap[b]?) := by
    intro b hb hne
    have hgb : b ≠ g := fun e => hne (by rw [e]; rfl)
    rw [hW2, setRow_other _ _ _ _ hgb, hW1, setRow_other _ _ _ _ hgb]
    rfl
  have hown2 : W2.ownsRow base 41 5 (.slice (some ⟨g, 0, none⟩) (n + 1) c) (n + 1) (Y2.take ((n + 1) * 5)) := own_close Y2 hbg hg2 hroom hcm hY2l
  have hgl : g < w.heap.size := (Array.getElem?_eq_some_iff.1 hg).1
  have hov : ∀ o la lb cb, (callFunc 29 #[.slice (some ⟨gv, 0, none⟩) 1 la, .slice (some ⟨g, o, none⟩) lb cb]).run Tryz.prog w = .ok (.value (.bool false)) w := fun o la lb cb => by
    have hsa : w.shape? gv = some (41, vs.length) := by
      have : w.heap[gv]? = some (.cells vs.toArray 41 (0, 0)) := hv
      simp [World.shape?, this]
    have hsb : w.shape? g = some (41, cur.length) := by simp [World.shape?, hg]
    rw [run_callFunc_extern Tryz.func29 (by kernel_rfl) (by kernel_rfl) (by kernel_rfl) (e := Extern.SlicesOverlaps.overlaps #[29, 29] #[4]) (by kernel_rfl),
      Lib.run_overlaps_apart w 29 4 41 Tryz.underlying29 5 (fun w => by
        obtain ⟨i0, hi, hz0, hz1, hz2⟩ := info_parts info_op
        simp [sizeOf, typeInfo, hi, hz1]) ⟨gv, 0, none⟩ ⟨g, o, none⟩ 1 la lb cb hne _ _ _ _ hsa hsb (by omega) (hv.frozen 0) (hv.frozen _)]
    rfl
  have wi : IntKind.i64.wrap ((i : Int) + 1) = (i1 : Int) := by rw [IntWalk.i64_in _ (by omega)]; omega
  have wn : IntKind.i64.wrap ((n : Int) + 1) = (n1 : Int) := by rw [IntWalk.i64_in _ (by omega)]; omega
  have q1 : ¬ (i : Int) = n := by omega
  have q2 : i ≤ n := by omega
  have q3 : ¬ c = i := by omega
  have q4 : i1 ≤ n1 := by omega
  have q5 : ¬ c = i1 := by omega
  have q6 : n1 ≤ c := by omega
  have q7 : i ≤ n1 := by omega
  have q8 : decide ((c : Int) < n1) = false := decide_eq_false (by omega)
  have q9 : decide (c < n1) = false := decide_eq_false (by omega)
  have q10 : ((i : Int) == n) = false := by simp; omega
  have q11 : (i == n) = false := by simp; omega
  rw [← hn1] at hown2
  rw [← hn1]
  have HO := Lib.hid hown2
  have HB := Lib.hid hb2
  have HC1 := Lib.hid hcp1
  have HC2 := Lib.hid hcp2
  clear hi1 hn1 hown2 hb2 hcp1 hcp2 hfin hY2 hY1 hTc hTl hT htk hg1 hg2 hW1 hW2
  go_enter Tryz.func14, Tryz.ntmps14
  go_wp2_with (simp only [hov])
  go_region_law (refine step_copy_run rfl (.tmp 73) (.tmp 76) 29 29 rfl (.slice (some ⟨g, i1 * 5, none⟩) (n1 - i1) (c - i1)) (.slice (some ⟨g, i * 5, none⟩) (n1 - i) (c - i)) (by simp [Act.eval, Act.put]) (by simp [Act.eval, Act.put]) (HC1.out _ _ _) ?_)
  all_goals
    go_wp2_with (refine wpList_copy_run _ rfl (.tmp 80) (.tmp 81) 29 29 rfl (.slice (some ⟨g, i * 5, none⟩) (n1 - i) (c - i)) (.slice (some ⟨gv, 0, none⟩) 1 1) rfl rfl (HC2.out _ _) ?_)
    go_ret
    exact ⟨_, _, rfl, HO.out, HB.out, HR9.out⟩
set_option maxRecDepth 100000 in
set_option maxHeartbeats 1000000 in
theorem insert_op_grow (base g n c i : Nat) (xs : List Value) (gv : Nat) (vs : List Value) (w : World)
    (hown : w.ownsRow base 41 5 (.slice (some ⟨g, 0, none⟩) n c) n xs) (hbase : base ≤ w.heap.size) (hi : i < n) (hroom : c < n + 1) (hn : n ≤ 1000)
    (hv : Blk w gv 41 vs.toArray) (o1 : ∀ u ∈ xs, u.oneCell' = true) (o2 : ∀ u ∈ vs, u.oneCell' = true) (hvl : vs.length = 5) :
    Calls Tryz.prog 14 #[.slice (some ⟨g, 0, none⟩) n c, .int .i64 i, .slice (some ⟨gv, 0, none⟩) 1 1] w fun e w' => ∃ A' c', e = .returned (.slice A' (n + 1) c') ∧ w'.ownsRow base 41 5 (.slice A' (n + 1) c') (n + 1) (xs.take (i * 5) ++ (vs ++ xs.drop (i * 5))) ∧ Below base w w' ∧ ∀ b, b < w.heap.size → (Value.slice (some ⟨g, 0, none⟩) n c).ownBlock ≠ some b → w'.heap[b]? = w.heap[b]? := by
  obtain ⟨cur, hbg, hg, hnc, hcm, hcl, htk⟩ := own_open hown
  obtain rfl : c = n := by omega
  obtain ⟨i0, hi0, hz0, hz1, hz2⟩ := info_parts info_op
  have hxl : xs.length = c * 5 := hown.1
  obtain rfl : cur = xs := by rw [← htk, List.take_of_length_le (by omega)]
  obtain ⟨i1, hi1⟩ : ∃ i1, i1 = i + 1 := ⟨_, rfl⟩
  obtain ⟨n1, hn1⟩ : ∃ n1, n1 = c + 1 := ⟨_, rfl⟩
  obtain ⟨k, hk⟩ : ∃ k, k = n1 - i := ⟨_, rfl⟩
  obtain ⟨T, hT⟩ : ∃ T, T = cur.drop (i * 5) := ⟨_, rfl⟩
  have hTl : T.length = (c - i) * 5 := by rw [hT, List.length_drop, hxl]; omega
  have oT : ∀ u ∈ T, u.oneCell' = true := fun u hu => o1 u (by rw [hT] at hu; exact List.mem_of_mem_drop hu)
  have hTc : ∀ j v, T[j]? = some v → cur[i * 5 + j]? = some v := by
    intro j v hj
    rw [hT, List.getElem?_drop] at hj
    exact hj
  obtain ⟨O, hO⟩ : ∃ O, O = cur.take (i * 5) := ⟨_, rfl⟩
  have hOl : O.length = i * 5 := by rw [hO, List.length_take]; omega
  have hold : (Builtin.firstCells i0.size i (.slice (some ⟨g, 0, none⟩) i c)).run Tryz.prog w.drew = .ok O.toArray w.drew := by
    rw [hz1]
    refine run_firstK w.drew 5 i ⟨g, 0, none⟩ i c O hOl (fun j v hj => ?_)
    rw [Addr.add_lit, Nat.zero_add, cell_of_row w.drew _ _ _ _ _ hg, List.getElem?_toArray]
    rw [hO, List.getElem?_take] at hj
    split at hj
    · exact hj
    · cases hj
  have hik : i + k = n1 := by omega
  have hgr := fun ty => Lib.run_append_grow_zeros (P := Tryz.prog) w 29 3 ty 41 i0 _ .i64 .i64 Tryz.underlying29 Tryz.underlying3 hi0 hz0 (some ⟨g, 0, none⟩) i c O hold k (by omega) (by rw [hz1]; decide) (by omega) (by omega) (by rw [hz2]; omega)
    (by rw [hz2]; exact growslice_fits (by omega) (by omega))
  rw [hik] at hgr
  obtain ⟨cap, hcap, hc1, hc2⟩ : ∃ cap, cap = grownCap w n1 c 41 ∧ n1 ≤ cap ∧ cap ≤ maxLen := ⟨_, rfl, grownCap_ge .., grownCap_le_maxLen _ _ _ _ (by unfold maxLen; omega)⟩
  rw [← hcap] at hgr
  obtain ⟨Z, hZ⟩ : ∃ Z : Array Value, Z = O.toArray ++ Builtin.zeroCells (Value.agg #[.int .i64 0, .int .i64 0, .int .i64 0, .int .i64 0, .int .u64 0]).cells k ++ Builtin.zeroCells (Value.agg #[.int .i64 0, .int .i64 0, .int .i64 0, .int .i64 0, .int .u64 0]).cells (cap - n1) := ⟨_, rfl⟩
  have hZs : Z.size = cap * 5 := by
    rw [hZ, Array.size_append, Array.size_append, size_zeroCells, size_zeroCells]
    have : (Value.agg #[.int .i64 0, .int .i64 0, .int .i64 0, .int .i64 0, .int .u64 0]).cells.size = 5 := rfl
    rw [this, List.size_toArray, hOl]; omega
  rw [← hZ] at hgr
  have hZO : Z.toList.take (i * 5) = O := by
    rw [hZ, Array.append_assoc, Array.toList_append, List.take_append_of_le_length (by simp; omega), List.take_of_length_le (by simp; omega)]
  obtain ⟨gN, hgN⟩ : ∃ gN, gN = w.heap.size := ⟨_, rfl⟩
  rw [← hgN] at hgr
  obtain ⟨W0, hW0⟩ : ∃ W0, W0 = w.drew.alloc (.cells Z 41) := ⟨_, rfl⟩
  have hg0 : W0.heap[gN]? = some (.cells Z.toList.toArray 41 (0, 0)) := by rw [hW0, hgN, Array.toArray_toList]; exact heap_alloc_new w.drew _
  have hb0 : Below base w W0 := by rw [hW0]; exact (Below.refl base w).drew.alloc hbase _
  have hgl : g < w.heap.size := (Array.getElem?_eq_some_iff.1 hg).1
  have hgo : W0.heap[g]? = some (.cells cur.toArray 41 (0, 0)) := by rw [hW0]; exact (Below.heap_alloc w.drew _ g hgl).trans hg
  have hvo : W0.heap[gv]? = some (.cells vs.toArray 41 (0, 0)) := by rw [hW0]; exact (Below.heap_alloc w.drew _ gv hv.lt).trans hv
  have hvl0 := hv.lt
  rw [← hW0] at hgr
  obtain ⟨Y1, hY1⟩ : ∃ Y1, Y1 = splice Z.toList (i * 5) vs := ⟨_, rfl⟩
  obtain ⟨Y2, hY2⟩ : ∃ Y2, Y2 = splice Y1 (i * 5 + 5) T := ⟨_, rfl⟩
  have hZl : Z.toList.length = cap * 5 := by simpa using hZs
  have hY1l : Y1.length = cap * 5 := by rw [hY1, splice_lenK _ _ _ (by omega), hZl]
  have hY2l : Y2.length = cap * 5 := by rw [hY2, splice_lenK _ _ _ (by omega), hY1l]
  have hfin : Y2.take (n1 * 5) = cur.take (i * 5) ++ (vs ++ T) := by
    have := spliceAK Z.toList (i * 5) vs T (by omega)
    rw [hvl, hTl, show i * 5 + 5 + (c - i) * 5 = n1 * 5 by omega, ← hY1, ← hY2, hZO, hO] at this
    exact this
  rw [← hT, ← hfin]
  obtain ⟨W1, hW1⟩ : ∃ W1, W1 = W0.setRow gN Y1.toArray := ⟨_, rfl⟩
  have hg1 : W1.heap[gN]? = some (.cells Y1.toArray 41 (0, 0)) := by rw [hW1]; exact setRow_heap W0 gN _ _ _ _ hg0
  have hcp1 : ∀ ty dc, (Builtin.copy_ #[29, 29] ty #[.slice (some ⟨gN, i * 5, none⟩) (n1 - i) dc, .slice (some ⟨gv, 0, none⟩) 1 1]).run Tryz.prog W0 = .ok (goInt (1 : Nat)) W1 := fun ty dc => by
    rw [hW1, hY1]
    refine run_copyK (P := Tryz.prog) W0 29 29 ty 41 5 gN (i * 5) (n1 - i) dc ⟨gv, 0, none⟩ 1 1 1 Z.toList 41 vs Tryz.underlying29 k_size_op hg0 (by simp only [Nat.min_def]; split <;> omega) (by omega) (fun j v hj => ?_) (by omega) o2
    rw [Addr.add_lit, Nat.zero_add, cell_of_row W0 _ _ _ _ _ hvo]
    simpa using hj
  obtain ⟨W2, hW2⟩ : ∃ W2, W2 = W1.drew.setRow gN Y2.toArray := ⟨_, rfl⟩
  have hg2 : W2.heap[gN]? = some (.cells Y2.toArray 41 (0, 0)) := by rw [hW2]; exact setRow_heap W1.drew gN _ _ _ _ hg1
  have hgo1 : W1.heap[g]? = some (.cells cur.toArray 41 (0, 0)) := by rw [hW1, setRow_other _ _ _ _ (by omega)]; exact hgo
  have hcp2 : ∀ ty dc sc, (Builtin.copy_ #[29, 29] ty #[.slice (some ⟨gN, i1 * 5, none⟩) (n1 - i1) dc, .slice (some ⟨g, i * 5, none⟩) (c - i) sc]).run Tryz.prog W1.drew = .ok (goInt (c - i : Nat)) W2 := fun ty dc sc => by
    rw [hW2, hY2]
    have := run_copyK (P := Tryz.prog) W1.drew 29 29 ty 41 5 gN (i * 5 + 5) (n1 - i1) dc ⟨g, i * 5, none⟩ (c - i) sc (c - i) Y1 41 T Tryz.underlying29 k_size_op hg1 (by simp only [Nat.min_def]; split <;> omega) hTl
      (fun j v hj => by rw [Addr.add_lit, cell_of_row W1.drew _ _ _ _ _ hgo1]; simpa using hTc j v hj) (by omega) oT
    rw [show i1 * 5 = i * 5 + 5 by omega]
    exact this
  have hbgN : base ≤ gN := by omega
  have hb2 : Below base w W2 := by
    rw [hW2, hW1]
    exact below_setRow (below_setRow hb0 hbgN _).drew hbgN _
  have HR9 : Hid (∀ b, b < w.heap.size → (Value.slice (some ⟨g, 0, none⟩) c c).ownBlock ≠ some b → W2.heap[b]? = w.heap[b]?) := by
    intro b hb _
    have hgb : b ≠ gN := by omega
    rw [hW2, setRow_other _ _ _ _ hgb]
    show W1.heap[b]? = _
    rw [hW1, setRow_other _ _ _ _ hgb, hW0]
    exact Below.heap_alloc w.drew _ b hb
  have hown2 : W2.ownsRow base 41 5 (.slice (some ⟨gN, 0, none⟩) n1 cap) n1 (Y2.take (n1 * 5)) := own_close Y2 hbgN hg2 hc1 hc2 hY2l
  have wi : IntKind.i64.wrap ((i : Int) + 1) = (i1 : Int) := by rw [IntWalk.i64_in _ (by omega)]; omega
  have wn : IntKind.i64.wrap ((c : Int) + 1) = (n1 : Int) := by rw [IntWalk.i64_in _ (by omega)]; omega
  have wk : IntKind.i64.wrap ((n1 : Int) - i) = (k : Int) := by rw [IntWalk.i64_in _ (by omega)]; omega
  have q1 : ¬ (i : Int) = c := by omega
  have q2 : i ≤ c := by omega
  have q3 : ¬ c = i := by omega
  have q4 : i1 ≤ n1 := by omega
  have q5 : ¬ cap = i1 := by omega
  have q7 : i ≤ n1 := by omega
  have q12 : ¬ cap = i := by omega
  have q8 : decide ((c : Int) < n1) = true := decide_eq_true (by omega)
  have q9 : decide (c < n1) = true := decide_eq_true (by omega)
  have q10 : ((i : Int) == c) = false := by simp; omega
  have q11 : (i == c) = false := by simp; omega
  rw [← hn1]
  have HO := Lib.hid hown2
  have HB := Lib.hid hb2
  have HC1 := Lib.hid hcp1
  have HC2 := Lib.hid hcp2
  have HG := Lib.hid hgr
  clear hi1 hn1 hown2 hb2 hcp1 hcp2 hgr hfin hY2 hY1 hTc hTl hT hg1 hg2 hW1 hW2 hW0 hZl hZs hZO hZ hO hold hk hik hcap hgN hgo hgo1 hvo hown htk hg hg0
  go_enter Tryz.func14, Tryz.ntmps14
  go_wp2_with (first | (at_builtin; refine Lib.wpList_append_run _ rfl (.tmp 34) (.tmp 39) 29 3 rfl (.slice (some ⟨g, 0, none⟩) i c) (.int .i64 k) rfl rfl _ _ (HG.out _) ?_) | (refine wpList_copy_run _ rfl (.tmp 43) (.tmp 44) 29 29 rfl (.slice (some ⟨gN, i * 5, none⟩) (n1 - i) (cap - i)) (.slice (some ⟨gv, 0, none⟩) 1 1) rfl rfl (HC1.out _ _) ?_))
  go_region_law (refine step_copy_run rfl (.tmp 50) (.tmp 53) 29 29 rfl (.slice (some ⟨gN, i1 * 5, none⟩) (n1 - i1) (cap - i1)) (.slice (some ⟨g, i * 5, none⟩) (c - i) (c - i)) (by simp [Act.eval, Act.put]) (by simp [Act.eval, Act.put]) (HC2.out _ _ _) ?_)
  all_goals
    go_wp2
    go_ret
    exact ⟨_, _, rfl, HO.out, HB.out, HR9.out⟩
theorem insert_op (base : Nat) (A : Option Addr) (n c i : Nat) (xs : List Value) (gv : Nat) (vs : List Value) (w : World)
    (hown : w.ownsRow base 41 5 (.slice A n c) n xs) (hbase : base ≤ w.heap.size) (hi : i ≤ n) (hn : n ≤ 1000)
    (hv : Blk w gv 41 vs.toArray) (hne : (Value.slice A n c).ownBlock ≠ some gv) (o1 : ∀ u ∈ xs, u.oneCell' = true) (o2 : ∀ u ∈ vs, u.oneCell' = true) (hvl : vs.length = 5) :
    Calls Tryz.prog 14 #[.slice A n c, .int .i64 i, .slice (some ⟨gv, 0, none⟩) 1 1] w fun e w' => ∃ A' c', e = .returned (.slice A' (n + 1) c') ∧ w'.ownsRow base 41 5 (.slice A' (n + 1) c') (n + 1) (xs.take (i * 5) ++ (vs ++ xs.drop (i * 5))) ∧ Below base w w' ∧ ∀ b, b < w.heap.size → (Value.slice A n c).ownBlock ≠ some b → w'.heap[b]? = w.heap[b]? := by
  have hxl : xs.length = n * 5 := hown.1
  by_cases hin : i = n
  · subst hin
    rw [List.take_of_length_le (by omega), List.drop_of_length_le (by omega), List.append_nil]
    exact insert_end_op base A i c xs gv vs w hown hbase hn hv o2 hvl
  · obtain ⟨g, rfl⟩ : ∃ g, A = some ⟨g, 0, none⟩ := by
      rcases hown.2 with ⟨h2, h3⟩ | ⟨g, cap, cur, hv, -⟩
      · omega
      · injection hv with h1 h2 h3; exact ⟨g, h1⟩
    by_cases hr : n + 1 ≤ c
    · exact insert_op_in base g n c i xs gv vs w hown (by omega) hr hn hv (fun h => hne (by rw [h]; rfl)) o1 o2 hvl
    · exact insert_op_grow base g n c i xs gv vs w hown hbase (by omega) (by omega) hn hv o1 o2 hvl
end Go.Proofs.YtccmichgbkmdpaaGreatDoor
