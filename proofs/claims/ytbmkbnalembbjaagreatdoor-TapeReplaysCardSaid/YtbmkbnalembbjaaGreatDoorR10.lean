/-
  Texts joined: CleanTwice StLaw StMem StoreColl TurnsLaw SetPay TakeLaw.
-/
import Derived.Test.YtbmkbnalembbjaaGreatDoorR5
import Derived.Test.YtbmkbnalembbjaaGreatDoorR6
import Derived.Test.YtbmkbnalembbjaaGreatDoorR7
import Derived.Test.YtbmkbnalembbjaaGreatDoorR9
namespace Go.Proofs.YtbmkbnalembbjaaGreatDoor
open Go.RowKit
theorem slid_pairwise {N : Int} (pinned : List Int) : ∀ (keep L : List Int) (e : Int), Kept N keep L → (∀ x, keep[0]? = some x → e ≤ x) → (slidGo pinned e keep L).Pairwise (· < ·) := by
  intro keep
  induction keep with
  | nil => intro L e _ _; simp [slidGo]
  | cons x ks ih =>
    intro L e hK he
    cases L with
    | nil => simp [slidGo]
    | cons n ls =>
      obtain ⟨x0, n1, n2, hxn⟩ := hK.at_ 0 x n rfl rfl
      have hex := he x rfl
      obtain ⟨z, hz⟩ : ∃ z, z = (if x ∈ pinned then x else e) := ⟨_, rfl⟩
      have hz1 : e ≤ z ∧ z ≤ x := by rw [hz]; split <;> omega
      have hh : ∀ y, ks[0]? = some y → z + n ≤ y := fun y hy => by have := hK.next 0 x n y rfl rfl (by simpa using hy); omega
      have hS := slid_of N pinned ks ls (z + n) hK.tail hh
      have hY : slidGo pinned e (x :: ks) (n :: ls) = z :: slidGo pinned (z + n) ks ls := by simp only [slidGo]; rw [← hz]
      rw [hY]
      refine List.pairwise_cons.2 ⟨fun y hy => ?_, ih ls (z + n) hK.tail hh⟩
      obtain ⟨j, hj⟩ := List.mem_iff_getElem?.1 hy
      have := hS.low j y hj
      omega
theorem slid_slid (pinned : List Int) : ∀ (keep L : List Int) (e : Int), slidGo pinned e (slidGo pinned e keep L) L = slidGo pinned e keep L := by
  intro keep
  induction keep with
  | nil => intro L e; simp [slidGo]
  | cons x ks ih =>
    intro L e
    cases L with
    | nil => simp [slidGo]
    | cons n ls =>
      obtain ⟨z, hz⟩ : ∃ z, z = (if x ∈ pinned then x else e) := ⟨_, rfl⟩
      have hzz : (if z ∈ pinned then z else e) = z := by
        by_cases h : z ∈ pinned
        · rw [if_pos h]
        · rw [if_neg h]
          by_cases hx : x ∈ pinned
          · rw [if_pos hx] at hz; rw [hz] at h; exact absurd hx h
          · rw [if_neg hx] at hz; exact hz.symm
      have hY : slidGo pinned e (x :: ks) (n :: ls) = z :: slidGo pinned (z + n) ks ls := by simp only [slidGo]; rw [← hz]
      rw [hY]
      simp only [slidGo]
      rw [hzz, ih]
theorem Cleaned.again {a f p L Y b now : List Int} (h : Cleaned a f p L Y b now) (hI : CleanIs a f p L Y b now) : CleanOk b now p ∧ ∀ L' Y' b' now', CleanIs b now p L' Y' b' now' → L' = Y ∧ Y' = Y ∧ b' = b ∧ now' = now := by
  refine ⟨⟨h.laid.check, h.alive, hI.rises⟩, fun L' Y' b' now' hI' => ?_⟩
  have hP := h.plan
  obtain ⟨hK, -⟩ := kept_of hI.longs
  have hYs : Y.Pairwise (· < ·) := by
    rw [hI.y]
    exact slid_pairwise p L _ 0 hK (fun x hx => hP.nn2 x (List.mem_of_getElem? hx))
  have hmap : L.map (posL L Y) = Y := posL_map hP.nodup hP.len
  have hR := reached_iso h.laid.iso hP.nn2 hI.reached (by rw [hmap]; exact hYs.imp (fun h => by omega))
  rw [← h.map, hmap] at hR
  obtain rfl : L' = Y := Reached.unique hI'.reached hR
  have hYn : L'.Nodup := by
    rw [List.nodup_iff_pairwise_ne]
    exact hYs.imp (fun h => by omega)
  have hP' := planned_of hI'.longs
  rw [← hI'.y] at hP'
  have hat : ∀ (j : Nat) (x y : Int), L[j]? = some x → L'[j]? = some y → ∃ s s', spotAt (spotsL a) x = some s ∧ spotAt (spotsL b) y = some s' ∧ s'.r = s.r ∧ s'.b = s.b ∧ s'.t = s.t ∧ bodyOf b s' = bodyOf a s ∧ refsOf b s' = (refsOf a s).map (refT (posL L L')) := by
    intro j x y hx hy
    have hxL := List.mem_of_getElem? hx
    obtain ⟨s, hs⟩ := begsL_iff.1 (h.closed.begs x hxL)
    obtain ⟨s', hs', e⟩ := h.laid.iso.at_ x hxL s hs
    rw [posL_at hP.nodup hx hy] at hs'
    exact ⟨s, s', hs, hs', e⟩
  have hlen : (longsV b L' p) = longsV a L p := by
    refine List.ext_getElem? (fun j => ?_)
    by_cases hj : j < L.length
    · have hx : L[j]? = some L[j] := List.getElem?_eq_getElem hj
      have hy : L'[j]? = some (L'[j]'(by rw [hP.len]; exact hj)) := List.getElem?_eq_getElem _
      have hy' : Y'[j]? = some (Y'[j]'(by rw [hP'.len, hP.len]; exact hj)) := List.getElem?_eq_getElem _
      obtain ⟨s, i, e1, -, -, -, -, e6, -⟩ := hP.at_ j _ _ hx hy
      obtain ⟨s2, i2, f1, -, -, -, -, f6, -⟩ := hP'.at_ j _ _ hy hy'
      obtain ⟨t, t', g1, g2, g3, g4, -⟩ := hat j _ _ hx hy
      obtain rfl := Option.some.inj (e1.symm.trans g1)
      obtain rfl := Option.some.inj (f1.symm.trans g2)
      rw [e6, f6]
      unfold Spot.long
      rw [g3, g4]
    · rw [List.getElem?_eq_none (by rw [hP'.lenL, hP.len]; omega), List.getElem?_eq_none (by rw [hP.lenL]; omega)]
  have hY' : Y' = L' := by
    rw [hI'.y, hlen]
    conv => lhs; rw [hI.y]
    rw [slid_slid]
    exact hI.y.symm
  subst hY'
  have hid : ∀ y ∈ Y', posL Y' Y' y = y := fun y hy => by
    obtain ⟨j, z, h1, h2, h3⟩ := posL_ex hYn rfl hy
    rw [h1] at h2
    rw [h3]
    exact (Option.some.inj h2).symm
  refine ⟨rfl, rfl, ?_, ?_⟩
  · have e1 := hI'.b
    unfold slidW at e1
    rw [← hI'.y, h.laid.len] at e1
    have e2 := hI.b
    unfold slidW at e2
    rw [← hI.y] at e2
    rw [e1]
    refine Eq.trans ?_ e2.symm
    congr 2
    refine List.ext_getElem? (fun j => ?_)
    by_cases hj : j < L.length
    · have hx : L[j]? = some L[j] := List.getElem?_eq_getElem hj
      have hy : Y'[j]? = some (Y'[j]'(by rw [hP.len]; exact hj)) := List.getElem?_eq_getElem _
      rw [rowsOf_at hy hy, rowsOf_at hx hy]
      obtain ⟨s, s', g1, g2, g3, g4, g5, g6, g7⟩ := hat j _ _ hx hy
      rw [rowAt_some g1, rowAt_some g2]
      congr 2
      unfold kC
      rw [g3, g4, g5, g6, g7, List.map_map]
      congr 2
      refine List.map_congr_left (fun v hv => ?_)
      show refT _ (refT _ v) = refT _ v
      by_cases h0 : v = 0
      · subst h0; rfl
      · have hk := Iso.link_of h.closed (List.mem_of_getElem? hx) g1 v hv h0
        have hn := h.laid.iso.nn _ hk
        have e : refT (posL L Y') v = posL L Y' (v - 1) + 1 := by unfold refT; rw [if_neg h0]
        rw [e]
        unfold refT
        rw [if_neg (by omega), show posL L Y' (v - 1) + 1 - 1 = posL L Y' (v - 1) by omega, hid]
        obtain ⟨i, u, -, hu, e2⟩ := posL_ex hP.nodup hP.len hk
        rw [e2]
        exact List.mem_of_getElem? hu
    · rw [List.getElem?_eq_none (by rw [rowsOf_length rfl, hP.len]; omega), List.getElem?_eq_none (by rw [rowsOf_length hP.len]; omega)]
  · rw [hI'.now]
    conv => rhs; rw [← List.map_id now]
    refine List.map_congr_left (fun x hx => hid x ?_)
    rw [hI.now] at hx
    obtain ⟨z, hz, rfl⟩ := List.mem_map.1 hx
    obtain ⟨i, u, -, hu, e2⟩ := posL_ex hP.nodup hP.len (h.sub z (List.mem_append_left _ hz))
    rw [e2]
    exact List.mem_of_getElem? hu
end Go.Proofs.YtbmkbnalembbjaaGreatDoor

namespace Go.Proofs.YtbmkbnalembbjaaGreatDoor
open Go.RowKit
theorem compact_strict {l : List Int} (h : l.Pairwise (fun x y => x ≤ y)) : (Lib.compact l).Pairwise (fun x y => x < y) := by
  unfold Lib.compact Lib.compactUpTo
  rw [List.pairwise_map]
  have h1 : ((List.range l.length).filter (Lib.keeps l.toArray)).Pairwise (fun i j => i < j) := List.pairwise_lt_range.sublist List.filter_sublist
  refine List.Pairwise.imp_of_mem ?_ h1
  intro i j hi hj hij
  obtain ⟨hi1, -⟩ := List.mem_filter.1 hi
  obtain ⟨hj1, hj2⟩ := List.mem_filter.1 hj
  have hi1 := List.mem_range.1 hi1
  have hj1 := List.mem_range.1 hj1
  have h2 : l.toArray[j]! ≠ l.toArray[j - 1]! := by
    simp only [Lib.keeps, decide_eq_true_eq] at hj2
    exact hj2.resolve_left (by omega)
  rw [getElem!_pos l.toArray i (by simpa using hi1), getElem!_pos l.toArray j (by simpa using hj1)]
  rw [getElem!_pos l.toArray j (by simpa using hj1), getElem!_pos l.toArray (j - 1) (by simp; omega)] at h2
  simp only [List.getElem_toArray] at h2 ⊢
  have h3 : ∀ (p q : Nat) (hp : p < l.length) (hq : q < l.length), p ≤ q → l[p] ≤ l[q] := by
    intro p q hp hq hpq
    rcases Nat.eq_or_lt_of_le hpq with rfl | hlt
    · exact Int.le_refl _
    · exact List.pairwise_iff_getElem.1 h p q hp hq hlt
  have h4 := h3 i (j - 1) hi1 (by omega) (by omega)
  have h5 := h3 (j - 1) j (by omega) hj1 (by omega)
  omega
theorem fromL_strict (r : List Int) (l : List Slot) (p : List Rn) : (fromL r l p).Pairwise (fun x y => x < y) := compact_strict (sortL_sorted _)
theorem fromL_nodup (r : List Int) (l : List Slot) (p : List Rn) : (fromL r l p).Nodup := by
  rw [List.nodup_iff_pairwise_ne]
  exact (fromL_strict r l p).imp (fun h => by omega)
structure St where
  a : List Int
  r : List Int
  p : List Rn
  l : List Slot
def St.begs (S : St) : List Int := fromL S.r S.l S.p
def StOk (S : St) : Prop := StoreOk S.a S.r S.l S.p
def rootedL (S : St) : List Int := S.r.filter (fun v => decide (0 ≤ v)) ++ openL S.l ++ pinsL S.p
theorem rooted_begs {S : St} {x : Int} : x ∈ S.begs ↔ x ∈ rootedL S := by
  unfold St.begs rootedL fromL
  rw [compact_mem, sortL_mem]
  simp only [List.mem_append, namedL_mem, List.mem_filter, decide_eq_true_eq]
theorem open_at {S : St} {s : Slot} (h : s ∈ S.l) (ho : s.opn = true) : s.loc ∈ S.begs := rooted_begs.2 (List.mem_append_left _ (List.mem_append_right _ (List.mem_map.2 ⟨s, List.mem_filter.2 ⟨h, ho⟩, rfl⟩)))
theorem root_at {S : St} {v : Int} (h : v ∈ S.r) (h0 : 0 ≤ v) : v ∈ S.begs := rooted_begs.2 (List.mem_append_left _ (List.mem_append_left _ (List.mem_filter.2 ⟨h, by simpa using h0⟩)))
theorem pin_at {S : St} {y : Rn} (h : y ∈ S.p) : y.loc ∈ S.begs := rooted_begs.2 (List.mem_append_right _ (List.mem_map.2 ⟨y, h, rfl⟩))
def phiV (φ : Int → Int) (v : Int) : Int := if 0 ≤ v then φ v else v
def phiS (φ : Int → Int) (s : Slot) : Slot := if s.opn = true then ⟨s.gen, true, φ s.loc⟩ else s
structure Coll (S S' : St) (fr : Int) (L Y now : List Int) : Prop where
  is : CleanIs S.a S.begs (pinsL S.p) L Y S'.a now
  r : S'.r = S.r.map (swapV (putsL (List.replicate S.a.length 0) S.begs now))
  p : S'.p = S.p
  l : S'.l = S.l.map (swapS (putsL (List.replicate 256 0) S.begs now))
  fr : fr = freeL S'.a
section
variable {S S' S2 : St} {fr fr2 : Int} {L Y now L2 Y2 now2 : List Int}
theorem Coll.put (h : Coll S S' fr L Y now) (hS : StOk S) {k : Nat} (hk : S.a.length ≤ k) {x : Int} (hx : x ∈ S.begs) : 0 ≤ x ∧ x < S.a.length ∧ (putsL (List.replicate k 0) S.begs now).getD x.toNat 0 = posL L Y x := by
  have h1 : ∀ x ∈ S.begs, 0 ≤ x ∧ x < S.a.length := fun x hx => begs_lt hS.arena (hS.live x hx)
  obtain ⟨i, hi⟩ := List.mem_iff_getElem?.1 hx
  have hy : now[i]? = some (posL L Y x) := by rw [h.is.now, List.getElem?_map, hi]; rfl
  have h2 := putsL_at (show S.begs.Nodup from fromL_nodup S.r S.l S.p) (fun x hx => (h1 x hx).1) hi hy (List.replicate k 0) (by rw [List.length_replicate]; have := h1 x hx; omega)
  refine ⟨(h1 x hx).1, (h1 x hx).2, ?_⟩
  rw [List.getD_eq_getElem?_getD, h2]
  rfl
theorem Coll.r' (h : Coll S S' fr L Y now) (hS : StOk S) : S'.r = S.r.map (phiV (posL L Y)) := by
  rw [h.r]
  refine List.map_congr_left (fun v hv => ?_)
  unfold swapV phiV
  by_cases h0 : 0 ≤ v
  · rw [if_pos h0, if_pos h0, (h.put hS (Nat.le_refl _) (root_at hv h0)).2.2]
  · rw [if_neg h0, if_neg h0]
theorem Coll.l' (h : Coll S S' fr L Y now) (hS : StOk S) : S'.l = S.l.map (phiS (posL L Y)) := by
  rw [h.l]
  refine List.map_congr_left (fun s hs => ?_)
  unfold swapS phiS
  by_cases h0 : s.opn = true
  · rw [if_pos h0, if_pos h0, (h.put hS (cleaned_of h.is).len256 (open_at hs h0)).2.2]
  · rw [if_neg h0, if_neg h0]
theorem Coll.pos (h : Coll S S' fr L Y now) {x : Int} (hx : x ∈ S.begs) : 0 ≤ posL L Y x ∧ posL L Y x < S.a.length ∧ posL L Y x ∈ begsL (spotsL S'.a) := by
  have hC := cleaned_of h.is
  have h1 : posL L Y x ∈ now := by rw [h.is.now]; exact List.mem_map.2 ⟨x, hx, rfl⟩
  have h2 := hC.alive _ (List.mem_append_left _ h1)
  have h3 := begs_lt hC.laid.check h2
  have h4 := hC.laid.len
  exact ⟨h3.1, by omega, h2⟩
theorem Coll.pinned (h : Coll S S' fr L Y now) {y : Rn} (hy : y ∈ S.p) : posL L Y y.loc = y.loc := (cleaned_of h.is).pin _ (List.mem_map.2 ⟨y, hy, rfl⟩)
theorem filter_phi {φ : Int → Int} : ∀ {r : List Int}, (∀ v ∈ r, 0 ≤ v → 0 ≤ φ v) → (r.map (phiV φ)).filter (fun v => decide (0 ≤ v)) = (r.filter (fun v => decide (0 ≤ v))).map φ
  | [], _ => rfl
  | v :: r, h => by
    have ih := filter_phi (φ := φ) (r := r) (fun v hv => h v (List.mem_cons_of_mem _ hv))
    by_cases h0 : 0 ≤ v
    · have h1 := h v List.mem_cons_self h0
      rw [List.map_cons, show phiV φ v = φ v from if_pos h0, List.filter_cons_of_pos (by simpa using h1), List.filter_cons_of_pos (by simpa using h0), List.map_cons, ih]
    · rw [List.map_cons, show phiV φ v = v from if_neg h0, List.filter_cons_of_neg (by simpa using h0), List.filter_cons_of_neg (by simpa using h0), ih]
theorem phiS_opn (φ : Int → Int) (s : Slot) : (phiS φ s).opn = s.opn := by
  unfold phiS
  by_cases h : s.opn = true
  · rw [if_pos h]; exact h.symm
  · rw [if_neg h]
theorem open_phi {φ : Int → Int} : ∀ (l : List Slot), openL (l.map (phiS φ)) = (openL l).map φ
  | [] => rfl
  | s :: l => by
    have ih := open_phi (φ := φ) l
    unfold openL at ih ⊢
    by_cases h : s.opn = true
    · rw [List.map_cons, List.filter_cons_of_pos (by rw [phiS_opn]; exact h), List.filter_cons_of_pos h, List.map_cons, List.map_cons, List.map_cons, ih]
      rw [show (phiS φ s).loc = φ s.loc by unfold phiS; rw [if_pos h]]
    · rw [List.map_cons, List.filter_cons_of_neg (by rw [phiS_opn]; exact h), List.filter_cons_of_neg h, ih]
theorem Coll.rooted (h : Coll S S' fr L Y now) (hS : StOk S) : rootedL S' = (rootedL S).map (posL L Y) := by
  unfold rootedL
  rw [h.r' hS, h.l' hS, h.p, List.map_append (f := posL L Y), List.map_append (f := posL L Y), filter_phi (fun v hv h0 => (h.pos (root_at hv h0)).1), open_phi]
  congr 1
  conv => lhs; rw [← List.map_id (pinsL S.p)]
  exact List.map_congr_left (fun x hx => ((cleaned_of h.is).pin x hx).symm)
theorem Coll.begs' (h : Coll S S' fr L Y now) (hS : StOk S) {x : Int} : x ∈ S'.begs ↔ x ∈ now := by
  rw [rooted_begs, h.rooted hS, h.is.now, List.mem_map, List.mem_map]
  simp only [rooted_begs]
theorem slotE_loc {s : Slot} {x : Int} (h : slotE s = 0) (ho : s.opn = true) (hx : 0 ≤ x ∧ x < 256) : slotE ⟨s.gen, true, x⟩ = 0 := by
  obtain ⟨g, o, y⟩ := s
  subst ho
  unfold slotE at h ⊢
  simp only at h ⊢
  split at h
  · cases h
  · rename_i h1
    rw [if_neg (by omega)]
    split at h
    · cases h
    · rename_i h2
      rw [if_neg (by simp at h2 ⊢; omega)]
theorem Coll.ok (h : Coll S S' fr L Y now) (hS : StOk S) : StOk S' := by
  have hC := cleaned_of h.is
  have hlen := hC.laid.len
  have h256 := hC.len256
  refine ⟨hC.laid.check, ?_, ?_, ?_, ?_⟩
  · obtain ⟨e1, e2, e3, e4⟩ := rootE_ok hS.roots
    refine rootE_of (by omega) (by omega) (by rw [h.r, List.length_map]; exact e3) ?_
    intro v hv
    rw [h.r' hS] at hv
    obtain ⟨u, hu, rfl⟩ := List.mem_map.1 hv
    have h1 := e4 u hu
    unfold phiV
    by_cases h0 : 0 ≤ u
    · rw [if_pos h0]
      have := h.pos (root_at hu h0)
      omega
    · rw [if_neg h0]
      omega
  · rw [h.p]; exact hS.pins
  · obtain ⟨e1, e2⟩ := handE_ok.1 hS.hands
    refine handE_ok.2 ⟨by rw [h.l, List.length_map]; exact e1, ?_⟩
    intro s hs
    rw [h.l' hS] at hs
    obtain ⟨u, hu, rfl⟩ := List.mem_map.1 hs
    have h1 := e2 u hu
    unfold phiS
    by_cases h0 : u.opn = true
    · rw [if_pos h0]
      have := h.pos (open_at hu h0)
      exact slotE_loc h1 h0 (by omega)
    · rw [if_neg h0]
      exact h1
  · intro x hx
    have h1 : x ∈ now := (h.begs' hS).1 hx
    exact hC.alive x (List.mem_append_left _ h1)
theorem Coll.unique (h : Coll S S' fr L Y now) (h2 : Coll S S2 fr2 L2 Y2 now2) : S2 = S' ∧ fr2 = fr := by
  have hL : L2 = L := Reached.unique h2.is.reached h.is.reached
  subst hL
  have hY : Y2 = Y := by rw [h2.is.y, h.is.y]
  subst hY
  have hn : now2 = now := by rw [h2.is.now, h.is.now]
  subst hn
  have hb : S2.a = S'.a := by rw [h2.is.b, h.is.b]
  obtain ⟨a, r, p, l⟩ := S'
  obtain ⟨a2, r2, p2, l2⟩ := S2
  have e1 := h.r; have e2 := h2.r; have e3 := h.p; have e4 := h2.p; have e5 := h.l; have e6 := h2.l; have e7 := h.fr; have e8 := h2.fr
  simp only at hb e1 e2 e3 e4 e5 e6 e7 e8
  subst hb e3 e4 e7 e8
  rw [e1, e2, e5, e6]
  exact ⟨rfl, rfl⟩
theorem Coll.again (h : Coll S S' fr L Y now) (hS : StOk S) (h2 : Coll S' S2 fr2 L2 Y2 now2) : S2 = S' ∧ fr2 = fr := by
  have hC := cleaned_of h.is
  have hb : S'.begs = now := by
    have hn : now.Pairwise (fun x y => x < y) := by
      obtain ⟨hK, -⟩ := kept_of h.is.longs
      have hP := hC.plan
      have hYs : Y.Pairwise (· < ·) := by
        rw [h.is.y]
        exact slid_pairwise _ L _ 0 hK (fun x hx => hP.nn2 x (List.mem_of_getElem? hx))
      rw [h.is.now, List.pairwise_map]
      refine List.Pairwise.imp_of_mem ?_ (fromL_strict S.r S.l S.p)
      intro x x' hx hx' hlt
      obtain ⟨j, y, hj, hy, e⟩ := posL_ex hP.nodup hP.len (h.is.reached.roots x (List.mem_append_left _ hx))
      obtain ⟨j', y', hj', hy', e'⟩ := posL_ex hP.nodup hP.len (h.is.reached.roots x' (List.mem_append_left _ hx'))
      rw [e, e']
      obtain ⟨q1, rfl⟩ := List.getElem?_eq_some_iff.1 hj
      obtain ⟨q2, rfl⟩ := List.getElem?_eq_some_iff.1 hj'
      obtain ⟨q3, rfl⟩ := List.getElem?_eq_some_iff.1 hy
      obtain ⟨q4, rfl⟩ := List.getElem?_eq_some_iff.1 hy'
      refine List.pairwise_iff_getElem.1 hYs j j' q3 q4 ?_
      rcases Nat.lt_trichotomy j j' with g | g | g
      · exact g
      · subst g; omega
      · have := List.pairwise_iff_getElem.1 h.is.reached.sorted j' j q2 q1 g
        omega
    refine sorted_unique ((fromL_strict _ _ _).imp (fun h => by omega)) (fromL_nodup _ _ _) (hn.imp (fun h => by omega)) ?_ (fun x => h.begs' hS)
    rw [List.nodup_iff_pairwise_ne]
    exact hn.imp (fun h => by omega)
  have hI := h2.is
  rw [hb, h.p] at hI
  obtain ⟨-, hag⟩ := hC.again h.is
  obtain ⟨e1, e2, e3, e4⟩ := hag _ _ _ _ hI
  have hS' := h.ok hS
  have hid : ∀ x ∈ S'.begs, posL L2 Y2 x = x := by
    intro x hx
    have h1 := hI.reached.roots x (List.mem_append_left _ (by rw [← hb]; exact hx))
    obtain ⟨j, y, hj, hy, e⟩ := posL_ex (planned_of hI.longs).nodup (show Y2.length = L2.length by rw [e1, e2]) h1
    rw [e1] at hj
    rw [e2] at hy
    rw [e]
    exact Option.some.inj (hy.symm.trans hj)
  obtain ⟨a2, r2, p2, l2⟩ := S2
  obtain ⟨a1, r1, p1, l1⟩ := S'
  have g1 := h2.r' hS'
  have g2 := h2.l' hS'
  have g3 := h2.p
  have g4 := h2.fr
  have g5 := h.fr
  simp only at e3 g1 g2 g3 g4 g5
  subst e3 g3
  have f1 : r2 = r1 := by
    rw [g1]
    conv => rhs; rw [← List.map_id r1]
    refine List.map_congr_left (fun v hv => ?_)
    unfold phiV
    by_cases h0 : 0 ≤ v
    · rw [if_pos h0, hid v (root_at hv h0)]; rfl
    · rw [if_neg h0]; rfl
  have f2 : l2 = l1 := by
    rw [g2]
    conv => rhs; rw [← List.map_id l1]
    refine List.map_congr_left (fun s hs => ?_)
    unfold phiS
    by_cases h0 : s.opn = true
    · rw [if_pos h0, hid _ (open_at hs h0)]
      obtain ⟨g, o, y⟩ := s
      simp only at h0
      subst h0
      rfl
    · rw [if_neg h0]; rfl
  subst f1 f2
  exact ⟨rfl, by rw [g4, g5]⟩
theorem Coll.alike (h : Coll S S' fr L Y now) (hS : StOk S) {os os' : List Ob} {fo fo' : List Int} (h1 : FormIs S.a (rootedL S) os fo) (h2 : FormIs S'.a (rootedL S') os' fo') : os = os' ∧ fo = fo' := by
  have hC := cleaned_of h.is
  rw [h.rooted hS] at h2
  exact form_iso hC.laid.iso hC.closed (fun x hx => h.is.reached.roots x (List.mem_append_left _ (rooted_begs.2 hx))) h1 h2
end
end Go.Proofs.YtbmkbnalembbjaaGreatDoor

namespace Go.Proofs.YtbmkbnalembbjaaGreatDoor
open Go.RowKit
structure StR (w : World) (B : Nat) (A : Option Addr) (n : Nat) (RA : Option Addr) (rn : Nat) (PA : Option Addr) (pn : Nat) (HA : Option Addr) (hn : Nat) (S : St) : Prop where
  a : Reads w B 1 A n (S.a.map (.int .u64))
  r : Reads w B 1 RA rn (S.r.map (.int .i64))
  p : Reads w B 2 PA pn (runsC S.p)
  l : Reads w B 3 HA hn (slotsC S.l)
structure StK (n c rn pn hn : Nat) (S : St) : Prop where
  cap : n ≤ c
  max : c ≤ maxLen
  wf : ∀ x ∈ S.a, (Lit.int .u64 x).wf = true
  rn : rn ≤ 9223372036854775807
  pn : pn ≤ 9223372036854775807
  hn : hn ≤ 9223372036854775807
structure StO (w : World) (base : Nat) (A : Option Addr) (n c : Nat) (RA : Option Addr) (rn rc : Nat) (PA : Option Addr) (pn pc : Nat) (HA : Option Addr) (hn hc : Nat) (S : St) : Prop where
  a : w.ownsRow base 45 1 (.slice A n c) n (S.a.map (.int .u64))
  r : w.ownsRow base 3 1 (.slice RA rn rc) rn (S.r.map (.int .i64))
  p : w.ownsRow base 57 2 (.slice PA pn pc) pn (runsC S.p)
  l : w.ownsRow base 60 3 (.slice HA hn hc) hn (slotsC S.l)
section
variable {w w' : World} {B n c rn rc pn pc hn hc : Nat} {A RA PA HA : Option Addr} {S : St}
theorem StR.below (h : StR w B A n RA rn PA pn HA hn S) (hb : Below B w w') : StR w' B A n RA rn PA pn HA hn S := ⟨h.a.below hb, h.r.below hb, h.p.below hb, h.l.below hb⟩
theorem StR.more {B' : Nat} (h : StR w B A n RA rn PA pn HA hn S) (hB : B ≤ B') : StR w B' A n RA rn PA pn HA hn S := ⟨h.a.more hB, h.r.more hB, h.p.more hB, h.l.more hB⟩
theorem StR.drew (h : StR w B A n RA rn PA pn HA hn S) : StR w.drew B A n RA rn PA pn HA hn S := ⟨h.a.drew, h.r.drew, h.p.drew, h.l.drew⟩
theorem StR.lens (h : StR w B A n RA rn PA pn HA hn S) : S.a.length = n ∧ S.r.length = rn ∧ S.p.length = pn ∧ S.l.length = hn := by
  refine ⟨by have := h.a.1; simpa using this, by have := h.r.1; simpa using this, ?_, ?_⟩
  · have := h.p.1; rw [runsC_length] at this; omega
  · have := h.l.1; rw [slotsC_length] at this; omega
theorem StO.reads {base : Nat} (h : StO w base A n c RA rn rc PA pn pc HA hn hc S) : StR w w.heap.size A n RA rn PA pn HA hn S := ⟨Reads.of_own h.a, Reads.of_own h.r, Reads.of_own h.p, Reads.of_own h.l⟩
theorem StO.below {base : Nat} (h : StO w base A n c RA rn rc PA pn pc HA hn hc S) (hb : Below w.heap.size w w') : StO w' base A n c RA rn rc PA pn pc HA hn hc S := ⟨own_below h.a hb, own_below h.r hb, own_below h.p hb, own_below h.l hb⟩
theorem StO.mono {base base' : Nat} (h : StO w base' A n c RA rn rc PA pn pc HA hn hc S) (hb : base ≤ base') : StO w base A n c RA rn rc PA pn pc HA hn hc S := ⟨own_mono h.a hb, own_mono h.r hb, own_mono h.p hb, own_mono h.l hb⟩
theorem StO.drew {base : Nat} (h : StO w base A n c RA rn rc PA pn pc HA hn hc S) : StO w.drew base A n c RA rn rc PA pn pc HA hn hc S := ⟨h.a.drew, h.r.drew, h.p.drew, h.l.drew⟩
theorem own_max {base size k d : Nat} {e : TypeId} {xs : List Value} (h : w.ownsRow base e size (.slice A k d) k xs) : d ≤ maxLen := by
  rcases h.2 with ⟨h, _⟩ | ⟨g, cap, cur, h, _, _, _, h4, _⟩
  · injection h with _ _ h3
    subst h3
    exact Nat.zero_le _
  · injection h with _ _ h3
    subst h3
    exact h4
theorem StO.known {base : Nat} (h : StO w base A n c RA rn rc PA pn pc HA hn hc S) (hw : ∀ x ∈ S.a, (Lit.int .u64 x).wf = true) : StK n c rn pn hn S := by
  have h1 := own_cap h.r
  have h2 := own_cap h.p
  have h3 := own_cap h.l
  have h4 := own_max h.r
  have h5 := own_max h.p
  have h6 := own_max h.l
  unfold maxLen at h4 h5 h6
  exact ⟨own_cap h.a, own_max h.a, hw, by omega, by omega, by omega⟩
theorem own_block4 {base e size k g : Nat} {v : Value} {xs : List Value} {t : TypeId} {cs : Array Value} (h : w.ownsRow base e size v k xs) (hB : Blk w g t cs) (hne : e ≠ t) (x0 x1 x2 x3 : Value) :
    ((((w.setCell ⟨g, 0, none⟩ x0).setCell ⟨g, 1, none⟩ x1).setCell ⟨g, 2, none⟩ x2).setCell ⟨g, 3, none⟩ x3).ownsRow base e size v k xs := by
  have hn := own_blk h hB hne
  exact own_apart (own_apart (own_apart (own_apart h (p := ⟨g, 0, none⟩) hn _) (p := ⟨g, 1, none⟩) hn _) (p := ⟨g, 2, none⟩) hn _) (p := ⟨g, 3, none⟩) hn _
theorem StO.store {base g : Nat} {cs : Array Value} (h : StO w base A n c RA rn rc PA pn pc HA hn hc S) (hB : Blk w g 28 cs) (x0 x1 x2 x3 : Value) :
    StO ((((w.setCell ⟨g, 0, none⟩ x0).setCell ⟨g, 1, none⟩ x1).setCell ⟨g, 2, none⟩ x2).setCell ⟨g, 3, none⟩ x3) base A n c RA rn rc PA pn pc HA hn hc S :=
  ⟨own_block4 h.a hB (by decide) _ _ _ _, own_block4 h.r hB (by decide) _ _ _ _, own_block4 h.p hB (by decide) _ _ _ _, own_block4 h.l hB (by decide) _ _ _ _⟩
theorem below_block4 {base g : Nat} {w0 : World} (h : Below base w0 w) (hg : base ≤ g) (x0 x1 x2 x3 : Value) :
    Below base w0 ((((w.setCell ⟨g, 0, none⟩ x0).setCell ⟨g, 1, none⟩ x1).setCell ⟨g, 2, none⟩ x2).setCell ⟨g, 3, none⟩ x3) :=
  (((h.setCell (p := ⟨g, 0, none⟩) hg _).setCell (p := ⟨g, 1, none⟩) hg _).setCell (p := ⟨g, 2, none⟩) hg _).setCell (p := ⟨g, 3, none⟩) hg _
end
end Go.Proofs.YtbmkbnalembbjaaGreatDoor

namespace Go.Proofs.YtbmkbnalembbjaaGreatDoor
open Go.RowKit
def stE (S : St) : Int := storeE S.a S.r S.l S.p
theorem stE_ok {S : St} : stE S = 0 ↔ StOk S := storeE_ok
theorem Coll.wf {S S' : St} {fr : Int} {L Y now : List Int} (h : Coll S S' fr L Y now) (ha : ∀ x ∈ S.a, (Lit.int .u64 x).wf = true) : ∀ x ∈ S'.a, (Lit.int .u64 x).wf = true := ((cleaned_of h.is).wf h.is ha).1
theorem stcheck_any (A : Option Addr) (n c : Nat) (RA : Option Addr) (rn rc : Nat) (PA : Option Addr) (pn pc : Nat) (HA : Option Addr) (hn hc : Nat) (S : St) (w : World)
    (hR : StR w w.heap.size A n RA rn PA pn HA hn S) (hK : StK n c rn pn hn S) :
    Calls Tryz.prog 23 #[.agg #[.slice A n c, .slice RA rn rc, .slice PA pn pc, .slice HA hn hc]] w fun e w' => e = .returned (.int .i64 (stE S)) ∧ Below w.heap.size w w' :=
  storeCheck_any A n c RA rn rc PA pn pc HA hn hc S.a S.r S.p S.l w hR.a hK.cap hK.wf hR.r hR.p hR.l hK.rn hK.pn
theorem coll_any (A : Option Addr) (n c : Nat) (RA : Option Addr) (rn rc : Nat) (PA : Option Addr) (pn pc : Nat) (HA : Option Addr) (hn hc : Nat) (S : St) (w : World)
    (hR : StR w w.heap.size A n RA rn PA pn HA hn S) (hK : StK n c rn pn hn S) (hOK : StOk S) :
    Calls Tryz.prog 37 #[.agg #[.slice A n c, .slice RA rn rc, .slice PA pn pc, .slice HA hn hc]] w fun e w' => Below w.heap.size w w' ∧ ∃ (S' : St) (fr : Int) (L Y now : List Int) (A1 : Option Addr) (c1 : Nat) (A2 : Option Addr) (c2 : Nat) (A3 : Option Addr) (c3 : Nat) (A4 : Option Addr) (c4 : Nat),
      Coll S S' fr L Y now ∧ e = .returned (.tuple #[.agg #[.slice A1 n c1, .slice A2 rn c2, .slice A3 pn c3, .slice A4 hn c4], .int .i64 fr]) ∧
      StO w' w.heap.size A1 n c1 A2 rn c2 A3 pn c3 A4 hn c4 S' := by
  refine (collect_ok A n c RA rn rc PA pn pc HA hn hc S.a S.r S.p S.l w hR.a hK.cap hK.max hK.wf hR.r hR.p hR.l hOK).mono ?_
  rintro e w' ⟨hb, L, Y, b, now, A1, c1, A2, c2, A3, c3, A4, c4, hI, rfl, o1, o2, o3, o4⟩
  refine ⟨hb, ⟨b, _, _, _⟩, _, L, Y, now, A1, c1, A2, c2, A3, c3, A4, c4, ⟨hI, ?_, rfl, rfl, rfl⟩, rfl, ⟨o1, o2, o3, o4⟩⟩
  rw [hR.lens.1]
  rfl
set_option maxRecDepth 100000 in
set_option maxHeartbeats 2000000 in
theorem collectFn_any (A : Option Addr) (n c : Nat) (RA : Option Addr) (rn rc : Nat) (PA : Option Addr) (pn pc : Nat) (HA : Option Addr) (hn hc : Nat) (S : St) (w : World)
    (hR : StR w w.heap.size A n RA rn PA pn HA hn S) (hK : StK n c rn pn hn S) :
    Calls Tryz.prog 20 #[.agg #[.slice A n c, .slice RA rn rc, .slice PA pn pc, .slice HA hn hc]] w fun e w' => Below w.heap.size w w' ∧
      ((StOk S ∧ ∃ (S' : St) (fr : Int) (L Y now : List Int) (A1 : Option Addr) (c1 : Nat) (A2 : Option Addr) (c2 : Nat) (A3 : Option Addr) (c3 : Nat) (A4 : Option Addr) (c4 : Nat),
        Coll S S' fr L Y now ∧ e = .returned (.tuple #[.agg #[.slice A1 n c1, .slice A2 rn c2, .slice A3 pn c3, .slice A4 hn c4], .int .i64 fr, .int .i64 0]) ∧
        StO w' w.heap.size A1 n c1 A2 rn c2 A3 pn c3 A4 hn c4 S') ∨
       (stE S ≠ 0 ∧ e = .returned (.tuple #[.agg #[.slice none 0 0, .slice none 0 0, .slice none 0 0, .slice none 0 0], .int .i64 0, .int .i64 (stE S)]))) := by
  have HCk := Lib.hid (fun w hR => stcheck_any A n c RA rn rc PA pn pc HA hn hc S w hR hK)
  have HCo := Lib.hid (fun w hR hOK => coll_any A n c RA rn rc PA pn pc HA hn hc S w hR hK hOK)
  have HE := Lib.hid (@stE_ok S)
  generalize stE S = E at *
  have hb0 := below_new w (.cells #[.slice A n c, .slice RA rn rc, .slice PA pn pc, .slice HA hn hc] 28)
  have hb1 := hb0.alloc hb0.size (.cells #[.slice none 0 0, .slice none 0 0, .slice none 0 0, .slice none 0 0] 28)
  have DS := (Blk.new w 28 #[.slice A n c, .slice RA rn rc, .slice PA pn pc, .slice HA hn hc]).alloc (.cells #[.slice none 0 0, .slice none 0 0, .slice none 0 0, .slice none 0 0] 28)
  have DR := Blk.new (w.alloc (.cells #[.slice A n c, .slice RA rn rc, .slice PA pn pc, .slice HA hn hc] 28)) 28 #[.slice none 0 0, .slice none 0 0, .slice none 0 0, .slice none 0 0]
  rw [World.size_alloc] at DR
  obtain ⟨s0, s1, s2, s3⟩ := DS.four
  clear hb0
  go_enter Tryz.func20, Tryz.ntmps20
  go_wp2_with fail
  refine (HCk.out _ ((hR.below hb1).more hb1.size)).mono ?_
  rintro e w2 ⟨rfl, hb2⟩
  have DS := DS.below hb2 DS.lt
  have DR := DR.below hb2 DR.lt
  have hb02 := below_step hb1 hb2
  obtain ⟨s0, s1, s2, s3⟩ := DS.four
  obtain ⟨r0, r1, r2, r3⟩ := DR.four
  have f0 := DR.frozen 0
  have f1 := DR.frozen 1
  have f2 := DR.frozen 2
  have f3 := DR.frozen 3
  clear hb1 hb2
  by_cases h0 : E = 0
  · subst h0
    have hOK := HE.out.1 rfl
    go_wp2_with fail
    refine (HCo.out _ ((hR.below hb02).more hb02.size) hOK).mono ?_
    rintro e w3 ⟨hb3, S', fr, L, Y, now, A1, c1, A2, c2, A3, c3, A4, c4, hC, rfl, hO⟩
    have hb03 := (below_step hb02 hb3)
    have hb04 := hb03.alloc hb03.size (.cells #[.slice A1 n c1, .slice A2 rn c2, .slice A3 pn c3, .slice A4 hn c4] 28)
    have DG := Blk.new w3 28 #[.slice A1 n c1, .slice A2 rn c2, .slice A3 pn c3, .slice A4 hn c4]
    have DR := (DR.below hb3 DR.lt).alloc (.cells #[.slice A1 n c1, .slice A2 rn c2, .slice A3 pn c3, .slice A4 hn c4] 28)
    obtain ⟨r0, r1, r2, r3⟩ := DR.four
    obtain ⟨o0, o1, o2, o3⟩ := DG.four
    have f0 := DR.frozen 0
    have f1 := DR.frozen 1
    have f2 := DR.frozen 2
    have f3 := DR.frozen 3
    have HO := Lib.hid (((hO.mono hb02.size).below (below_new w3 (.cells #[.slice A1 n c1, .slice A2 rn c2, .slice A3 pn c3, .slice A4 hn c4] 28))).store DR)
    have HC := Lib.hid hC
    clear s0 s1 s2 s3 hO hC
    go_wp2_with fail
    have z4 := (((DR.set_ 0 (.slice A1 n c1)).set_ 1 (.slice A2 rn c2)).set_ 2 (.slice A3 pn c3)).set_ 3 (.slice A4 hn c4)
    refine bodyPost_ret (v := .tuple #[.agg #[.slice A1 n c1, .slice A2 rn c2, .slice A3 pn c3, .slice A4 hn c4], .int .i64 fr, .int .i64 0]) ?_ rfl ⟨?_, .inl ⟨hOK, S', fr, L, Y, now, A1, c1, A2, c2, A3, c3, A4, c4, HC.out, rfl, HO.out _ _ _ _⟩⟩
    · obtain ⟨z0, z1, z2, z3⟩ := z4.four
      simp only [results, Tryz.results20]
      go_simp
    · exact (((hb04.setCell (p := ⟨w.heap.size + 1, 0, none⟩) (Nat.le_succ _) _).setCell (p := ⟨w.heap.size + 1, 1, none⟩) (Nat.le_succ _) _).setCell (p := ⟨w.heap.size + 1, 2, none⟩) (Nat.le_succ _) _).setCell (p := ⟨w.heap.size + 1, 3, none⟩) (Nat.le_succ _) _
  · have g1 : (E != 0) = true := by simpa using h0
    go_wp2_with fail
    have z4 := (((DR.set_ 0 (.slice none 0 0)).set_ 1 (.slice none 0 0)).set_ 2 (.slice none 0 0)).set_ 3 (.slice none 0 0)
    refine bodyPost_ret (v := .tuple #[.agg #[.slice none 0 0, .slice none 0 0, .slice none 0 0, .slice none 0 0], .int .i64 0, .int .i64 E]) ?_ rfl ⟨?_, .inr ⟨h0, rfl⟩⟩
    · obtain ⟨z0, z1, z2, z3⟩ := z4.four
      simp only [results, Tryz.results20]
      go_simp
    · exact (((hb02.setCell (p := ⟨w.heap.size + 1, 0, none⟩) (Nat.le_succ _) _).setCell (p := ⟨w.heap.size + 1, 1, none⟩) (Nat.le_succ _) _).setCell (p := ⟨w.heap.size + 1, 2, none⟩) (Nat.le_succ _) _).setCell (p := ⟨w.heap.size + 1, 3, none⟩) (Nat.le_succ _) _
end Go.Proofs.YtbmkbnalembbjaaGreatDoor

namespace Go.Proofs.YtbmkbnalembbjaaGreatDoor
open Go.RowKit
theorem spots_split : ∀ (cs : List Chk) (i0 j : Nat) (s : Spot), (spotsFrom i0 cs)[j]? = some s → ∃ P c Q, cs = P ++ c :: Q ∧ s = c.spot (i0 + (chunksW P).length) ∧ P.length = j := by
  intro cs
  induction cs with
  | nil => intro i0 j s h; simp [spotsFrom] at h
  | cons c cs ih =>
    intro i0 j s h
    cases j with
    | zero =>
      simp only [spotsFrom, List.getElem?_cons_zero, Option.some.injEq] at h
      exact ⟨[], c, cs, rfl, by rw [← h]; rfl, rfl⟩
    | succ j =>
      simp only [spotsFrom, List.getElem?_cons_succ] at h
      obtain ⟨P, d, Q, rfl, rfl, hl⟩ := ih _ _ _ h
      refine ⟨c :: P, d, Q, rfl, ?_, by simp [hl]⟩
      rw [chunksW_cons, List.length_append, chkW_length, Nat.add_assoc]
theorem spotsFrom_append : ∀ (P R : List Chk) (i : Nat), spotsFrom i (P ++ R) = spotsFrom i P ++ spotsFrom (i + (chunksW P).length) R := by
  intro P
  induction P with
  | nil => intro R i; rfl
  | cons c P ih =>
    intro R i
    simp only [List.cons_append, spotsFrom]
    rw [ih, chunksW_cons, List.length_append, chkW_length, Nat.add_assoc]
theorem spotsFrom_length : ∀ (P : List Chk) (i : Nat), (spotsFrom i P).length = P.length := by
  intro P
  induction P with
  | nil => intro i; rfl
  | cons c P ih => intro i; simp only [spotsFrom, List.length_cons, ih]
theorem spots_at (P : List Chk) (c : Chk) (Q : List Chk) : (spotsFrom 0 (P ++ c :: Q))[P.length]? = some (c.spot (chunksW P).length) := by
  rw [spotsFrom_append, List.getElem?_append_right (by rw [spotsFrom_length]; exact Nat.le_refl _), spotsFrom_length, Nat.sub_self, Nat.zero_add]
  rfl
theorem starts_append : ∀ (P R : List Chk) (i : Nat), starts i (P ++ R) = starts i P ++ starts (i + (chunksW P).length) R := by
  intro P
  induction P with
  | nil => intro R i; rfl
  | cons c P ih =>
    intro R i
    simp only [List.cons_append, starts]
    rw [ih, chunksW_cons, List.length_append, chkW_length, Nat.add_assoc, List.append_assoc]
theorem starts_flush (i p : Nat) (R : List Chk) : starts i (flushC p ++ R) = starts (i + p) R := by
  unfold flushC
  by_cases h0 : p = 0
  · rw [if_pos h0, h0]; rfl
  · rw [if_neg h0]
    simp only [List.cons_append, List.nil_append, starts]
    rw [freeC_len h0]
    rfl
theorem starts_bounds : ∀ (cs : List Chk) (i : Nat) (v : Int), v ∈ starts i cs → (i : Int) + 1 ≤ v ∧ v ≤ i + (chunksW cs).length := by
  intro cs
  induction cs with
  | nil => intro i v h; cases h
  | cons c cs ih =>
    intro i v h
    have hp : 1 ≤ c.len := by unfold Chk.len; omega
    rw [chunksW_cons, List.length_append, chkW_length]
    simp only [starts] at h
    rcases List.mem_append.1 h with h | h
    · split at h
      · cases h
      · obtain rfl := List.mem_singleton.1 h
        omega
    · have := ih _ _ h
      omega
theorem spot_chunk : ∀ (cs : List Chk) (pre : List Int), (∀ c ∈ cs, c.ok) → ∀ t ∈ spotsFrom pre.length cs, ∃ c ∈ cs, refsOf (pre ++ chunksW cs) t = c.pay.take c.r.toNat := by
  intro cs
  induction cs with
  | nil => intro pre _ t ht; cases ht
  | cons c cs ih =>
    intro pre hok t ht
    have hc := hok c List.mem_cons_self
    have hE := headE_ok.1 hc.1
    have hp := hc.2
    simp only [spotsFrom, List.mem_cons] at ht
    rcases ht with rfl | ht
    · refine ⟨c, List.mem_cons_self, ?_⟩
      simp only [refsOf, Chk.spot, Int.toNat_natCast]
      rw [chunksW_cons, chkW, List.drop_append, List.drop_of_length_le (by omega), List.nil_append, show pre.length + 1 - pre.length = 1 by omega, List.cons_append, List.drop_succ_cons, List.drop_zero, List.take_append_of_le_length (by omega)]
    · have h2 := ih (pre ++ chkW c) (fun d hd => hok d (List.mem_cons_of_mem _ hd)) t (by rw [List.length_append, chkW_length]; exact ht)
      rw [List.append_assoc, ← chunksW_cons] at h2
      obtain ⟨d, hd, he⟩ := h2
      exact ⟨d, List.mem_cons_of_mem _ hd, he⟩
theorem gapsP_append : ∀ (P R R' : List Chk), (∀ i p, gapsP i p R = gapsP i p R') → ∀ i p, gapsP i p (P ++ R) = gapsP i p (P ++ R') := by
  intro P
  induction P with
  | nil => intro R R' h i p; exact h i p
  | cons c P ih =>
    intro R R' h i p
    simp only [List.cons_append, gapsP]
    split
    · exact ih R R' h _ _
    · rw [ih R R' h]
theorem joinP_append : ∀ (P R R' : List Chk), (∀ p, joinP p R = joinP p R') → ∀ p, joinP p (P ++ R) = joinP p (P ++ R') := by
  intro P
  induction P with
  | nil => intro R R' h p; exact h p
  | cons c P ih =>
    intro R R' h p
    simp only [List.cons_append, joinP]
    split
    · exact ih R R' h _
    · rw [ih R R' h]
theorem gapsP_flush (i p q : Nat) (R : List Chk) : gapsP i p (flushC q ++ R) = gapsP (i + q) (p + q) R := by
  unfold flushC
  by_cases h0 : q = 0
  · rw [if_pos h0, h0]; rfl
  · rw [if_neg h0]
    simp only [List.cons_append, List.nil_append, gapsP]
    rw [if_pos (freeC_f q), freeC_len h0]
theorem joinP_flush (p q : Nat) (R : List Chk) : joinP p (flushC q ++ R) = joinP (p + q) R := by
  unfold flushC
  by_cases h0 : q = 0
  · rw [if_pos h0, h0]; rfl
  · rw [if_neg h0]
    simp only [List.cons_append, List.nil_append, joinP]
    rw [if_pos (freeC_f q), freeC_len h0]
theorem flushC_ok {p : Nat} (h : p ≤ 256) : ∀ d ∈ flushC p, d.ok ∧ d.r = 0 := by
  intro d hd
  unfold flushC at hd
  split at hd
  · cases hd
  · rename_i h0
    obtain rfl := List.mem_singleton.1 hd
    exact ⟨freeC_ok h0 h, rfl⟩
def newC (r b t : Int) : Chk := ⟨r, b, t, false, List.replicate (r + b).toNat 0⟩
theorem newC_ok {r b t : Int} (h : headE r b t false = 0) : (newC r b t).ok := by
  obtain ⟨h1, h2, h3, h4, h5, h6, h7, -⟩ := headE_ok.1 h
  refine ⟨h, ?_⟩
  unfold newC
  dsimp only
  rw [List.length_replicate]
  omega
theorem newC_len {r b t : Int} (h : headE r b t false = 0) : ((newC r b t).len : Int) = 1 + r + b := by
  have := (newC_ok h).2
  unfold Chk.len
  unfold newC at *
  dsimp only at *
  omega
def takeL (a : List Int) (i m k : Nat) (v : Int) : List Int := layL ((fillL a i m 0).set i v) (i + k) (m - k)
structure TakeOk (a b c : List Int) (i : Nat) (r b' t : Int) (k : Nat) : Prop where
  blen : b.length = a.length
  bcheck : checkE b = 0
  spot : ∃ j : Nat, (spotsL b)[j]? = some ⟨i, r, b', t, false⟩
  refs : ∀ s, s = (⟨i, r, b', t, false⟩ : Spot) → (∀ v ∈ refsOf b s, v = 0) ∧ ∀ v ∈ bodyOf b s, v = 0
  free : ∀ s ∈ spotsL b, ((i : Int) + 1) ∉ refsOf b s
  fits : i + k ≤ a.length
  clen : c.length = a.length
  ccheck : checkE c = 0
  cgaps : gapsL (spotsL c) = gapsL (spotsL a)
  cjoin : joinL c (gapsL (spotsL c)) = joinL a (gapsL (spotsL a))
theorem take_ok {a : List Int} (h : checkE a = 0) {j : Nat} {s : Spot} (hs : (spotsL a)[j]? = some s) (hf : s.f = true) {r b t : Int} (hE : headE r b t false = 0) (hk : 1 + r + b ≤ s.long) :
    TakeOk a (takeL a s.loc.toNat s.long.toNat (1 + r + b).toNat (wordOf r b t false)) (layL (takeL a s.loc.toNat s.long.toNat (1 + r + b).toNat (wordOf r b t false)) s.loc.toNat (1 + r + b).toNat) s.loc.toNat r b t (1 + r + b).toNat := by
  obtain ⟨cs, hok, rfl, hsp, hl, hr⟩ := check_chunks h
  rw [hsp] at hs
  obtain ⟨P, c, Q, rfl, rfl, -⟩ := spots_split cs 0 j s hs
  rw [Nat.zero_add] at *
  have hcok := hok c (by simp)
  have hlong := Chk.long hcok (chunksW P).length
  rw [hlong] at hk ⊢
  have hf : c.f = true := hf
  have hcr := (headE_ok.1 hcok.1).2.2.2.2.2.2.2 hf
  have hloc : (c.spot (chunksW P).length).loc = (chunksW P).length := rfl
  rw [hloc]
  simp only [Int.toNat_natCast]
  obtain ⟨h1, h2, h3, h4, h5, h6, h7, -⟩ := headE_ok.1 hE
  obtain ⟨k, hkk⟩ : ∃ k, k = (1 + r + b).toNat := ⟨_, rfl⟩
  rw [← hkk]
  have hk0 : k ≠ 0 := by omega
  have hkm : k ≤ c.len := by omega
  have hnl : (newC r b t).len = k := by have := newC_len hE; omega
  have hpl : (r + b).toNat = k - 1 := by omega
  have hlen : (chunksW (P ++ c :: Q)).length = (chunksW P).length + (c.len + (chunksW Q).length) := by rw [chunksW_append, List.length_append, chunksW_cons, List.length_append, chkW_length]
  rw [hlen] at hl
  -- b
  have hB : takeL (chunksW (P ++ c :: Q)) (chunksW P).length c.len k (wordOf r b t false) = chunksW (P ++ newC r b t :: (flushC (c.len - k) ++ Q)) := by
    unfold takeL fillL
    have e1 : (chunksW (P ++ c :: Q)).take (chunksW P).length = chunksW P := by rw [chunksW_append]; simp
    have e2 : (chunksW (P ++ c :: Q)).drop ((chunksW P).length + c.len) = chunksW Q := by
      rw [chunksW_append, chunksW_cons, ← List.append_assoc, show (chunksW P).length + c.len = (chunksW P ++ chkW c).length by rw [List.length_append, chkW_length], List.drop_left]
    rw [e1, e2, List.append_assoc, List.set_append_right _ _ (Nat.le_refl _), Nat.sub_self]
    obtain ⟨m, hm⟩ : ∃ m, c.len = m + 1 := ⟨c.len - 1, by omega⟩
    have e3 : (List.replicate c.len (0 : Int) ++ chunksW Q).set 0 (wordOf r b t false) = chkW (newC r b t) ++ (List.replicate (c.len - k) 0 ++ chunksW Q) := by
      rw [hm, List.replicate_succ, List.cons_append, List.set_cons_zero]
      unfold chkW newC
      dsimp only
      rw [hpl, List.cons_append, ← List.append_assoc, List.replicate_append_replicate]
      congr 3
      omega
    rw [e3, ← List.append_assoc, ← List.append_assoc]
    have := layL_mid (chunksW P ++ chkW (newC r b t)) (List.replicate (c.len - k) 0) (chunksW Q)
    rw [List.length_append, chkW_length, hnl, List.length_replicate] at this
    rw [this, chunksW_append, chunksW_cons, chunksW_append]
    simp
  have hfl := flushC_ok (p := c.len - k) (by omega)
  have hfl2 := flushC_ok (p := k) (by omega)
  have hokB : ∀ d ∈ P ++ newC r b t :: (flushC (c.len - k) ++ Q), d.ok := by
    intro d hd
    rcases List.mem_append.1 hd with hd | hd
    · exact hok d (by simp [hd])
    · rcases List.mem_cons.1 hd with rfl | hd
      · exact newC_ok hE
      · rcases List.mem_append.1 hd with hd | hd
        · exact (hfl d hd).1
        · exact hok d (by simp [hd])
  have hlB : (chunksW (P ++ newC r b t :: (flushC (c.len - k) ++ Q))).length = (chunksW P).length + (c.len + (chunksW Q).length) := by
    rw [chunksW_append, List.length_append, chunksW_cons, List.length_append, chkW_length, hnl, chunksW_append, List.length_append, flushC_length]
    omega
  have hst : starts 0 (P ++ c :: Q) = starts 0 P ++ starts ((chunksW P).length + c.len) Q := by
    rw [starts_append, Nat.zero_add]
    simp only [starts]
    rw [hf, if_pos rfl, List.nil_append]
  have hstB : starts 0 (P ++ newC r b t :: (flushC (c.len - k) ++ Q)) = starts 0 P ++ (((((chunksW P).length : Nat) : Int) + 1) :: starts ((chunksW P).length + c.len) Q) := by
    rw [starts_append, Nat.zero_add]
    simp only [starts]
    rw [starts_flush, hnl, show (chunksW P).length + k + (c.len - k) = (chunksW P).length + c.len by omega]
    rfl
  have hnotin : (((chunksW P).length : Nat) : Int) + 1 ∉ starts 0 (P ++ c :: Q) := by
    rw [hst]
    intro hm
    rcases List.mem_append.1 hm with hm | hm
    · have := starts_bounds _ _ _ hm; omega
    · have := starts_bounds _ _ _ hm; omega
  have hrefB : ∀ d ∈ P ++ newC r b t :: (flushC (c.len - k) ++ Q), ∀ v ∈ d.pay.take d.r.toNat, v = 0 ∨ v ∈ starts 0 (P ++ c :: Q) := by
    intro d hd v hv
    rcases List.mem_append.1 hd with hd | hd
    · exact hr d (by simp [hd]) v hv
    · rcases List.mem_cons.1 hd with rfl | hd
      · left
        have := List.mem_of_mem_take hv
        unfold newC at this
        exact (List.mem_replicate.1 this).2
      · rcases List.mem_append.1 hd with hd | hd
        · rw [(hfl d hd).2] at hv
          simp at hv
        · exact hr d (by simp [hd]) v hv
  obtain ⟨b1, b2⟩ := chunks_spots hokB (by rw [hlB]; omega)
  have hchB : checkE (chunksW (P ++ newC r b t :: (flushC (c.len - k) ++ Q))) = 0 := by
    rw [checkE_chunks hokB (by rw [hlB]; omega)]
    intro d hd v hv
    rw [hstB]
    rcases hrefB d hd v hv with h | h
    · exact .inl h
    · right
      rw [hst] at h
      rcases List.mem_append.1 h with h | h
      · exact List.mem_append_left _ h
      · exact List.mem_append_right _ (List.mem_cons_of_mem _ h)
  -- c
  have hC : layL (chunksW (P ++ newC r b t :: (flushC (c.len - k) ++ Q))) (chunksW P).length k = chunksW (P ++ (flushC k ++ (flushC (c.len - k) ++ Q))) := by
    rw [chunksW_append, chunksW_cons, ← List.append_assoc]
    have := layL_mid (chunksW P) (chkW (newC r b t)) (chunksW (flushC (c.len - k) ++ Q))
    rw [chkW_length, hnl] at this
    rw [this]
    simp [chunksW_append]
  have hokC : ∀ d ∈ P ++ (flushC k ++ (flushC (c.len - k) ++ Q)), d.ok := by
    intro d hd
    rcases List.mem_append.1 hd with hd | hd
    · exact hok d (by simp [hd])
    · rcases List.mem_append.1 hd with hd | hd
      · exact (hfl2 d hd).1
      · rcases List.mem_append.1 hd with hd | hd
        · exact (hfl d hd).1
        · exact hok d (by simp [hd])
  have hlC : (chunksW (P ++ (flushC k ++ (flushC (c.len - k) ++ Q)))).length = (chunksW P).length + (c.len + (chunksW Q).length) := by
    rw [chunksW_append, List.length_append, chunksW_append, List.length_append, flushC_length, chunksW_append, List.length_append, flushC_length]
    omega
  have hstC : starts 0 (P ++ (flushC k ++ (flushC (c.len - k) ++ Q))) = starts 0 (P ++ c :: Q) := by
    rw [hst, starts_append, Nat.zero_add, starts_flush, starts_flush, show (chunksW P).length + k + (c.len - k) = (chunksW P).length + c.len by omega]
  have hchC : checkE (chunksW (P ++ (flushC k ++ (flushC (c.len - k) ++ Q)))) = 0 := by
    rw [checkE_chunks hokC (by rw [hlC]; omega)]
    intro d hd v hv
    rw [hstC]
    rcases List.mem_append.1 hd with hd | hd
    · exact hr d (by simp [hd]) v hv
    · rcases List.mem_append.1 hd with hd | hd
      · rw [(hfl2 d hd).2] at hv
        simp at hv
      · rcases List.mem_append.1 hd with hd | hd
        · rw [(hfl d hd).2] at hv
          simp at hv
        · exact hr d (by simp [hd]) v hv
  obtain ⟨c1, c2⟩ := chunks_spots hokC (by rw [hlC]; omega)
  have hgC : gapsL (spotsL (chunksW (P ++ (flushC k ++ (flushC (c.len - k) ++ Q))))) = gapsL (spotsL (chunksW (P ++ c :: Q))) := by
    rw [c2, hsp, gapsL_chunks hokC, gapsL_chunks hok]
    refine gapsP_append P _ _ (fun i p => ?_) 0 0
    rw [gapsP_flush, gapsP_flush]
    simp only [gapsP]
    rw [hf, if_pos rfl]
    congr 1 <;> omega
  have hjC : joinL (chunksW (P ++ (flushC k ++ (flushC (c.len - k) ++ Q)))) (gapsL (spotsL (chunksW (P ++ (flushC k ++ (flushC (c.len - k) ++ Q)))))) = joinL (chunksW (P ++ c :: Q)) (gapsL (spotsL (chunksW (P ++ c :: Q)))) := by
    rw [c2, hsp, gapsL_chunks hokC, gapsL_chunks hok]
    have j1 := joinL_chunks (P ++ (flushC k ++ (flushC (c.len - k) ++ Q))) [] []
    have j2 := joinL_chunks (P ++ c :: Q) [] []
    simp only [List.nil_append, List.length_nil, Nat.add_zero] at j1 j2
    rw [j1, j2]
    congr 1
    refine joinP_append P _ _ (fun p => ?_) 0
    rw [joinP_flush, joinP_flush]
    simp only [joinP]
    rw [hf, if_pos rfl]
    congr 1
    omega
  rw [hB, hC]
  refine ⟨by rw [hlB, hlen], hchB, ⟨P.length, ?_⟩, ?_, ?_, by rw [hlen]; omega, by rw [hlC, hlen], hchC, hgC, hjC⟩
  · rw [b2, spots_at]
    rfl
  · rintro s rfl
    have hx : chunksW (P ++ newC r b t :: (flushC (c.len - k) ++ Q)) = chunksW P ++ (wordOf r b t false :: (List.replicate (k - 1) 0 ++ chunksW (flushC (c.len - k) ++ Q))) := by
      rw [chunksW_append, chunksW_cons]
      unfold chkW newC
      dsimp only
      rw [hpl]
      rfl
    have hd1 : ∀ q : Nat, (chunksW (P ++ newC r b t :: (flushC (c.len - k) ++ Q))).drop ((chunksW P).length + 1 + q) = (List.replicate (k - 1) (0 : Int) ++ chunksW (flushC (c.len - k) ++ Q)).drop q := by
      intro q
      rw [hx, List.drop_append, List.drop_of_length_le (by omega), List.nil_append, show (chunksW P).length + 1 + q - (chunksW P).length = q + 1 by omega, List.drop_succ_cons]
    constructor
    · intro v hv
      unfold refsOf at hv
      dsimp only at hv
      have := hd1 0
      rw [Nat.add_zero] at this
      rw [Int.toNat_natCast, this, List.drop_zero, List.take_append_of_le_length (by rw [List.length_replicate]; omega)] at hv
      exact (List.mem_replicate.1 (List.mem_of_mem_take hv)).2
    · intro v hv
      unfold bodyOf at hv
      dsimp only at hv
      rw [Int.toNat_natCast, hd1, List.drop_append_of_le_length (by rw [List.length_replicate]; omega), List.take_append_of_le_length (by rw [List.length_drop, List.length_replicate]; omega)] at hv
      exact (List.mem_replicate.1 (List.mem_of_mem_drop (List.mem_of_mem_take hv))).2
  · intro s hs hm
    rw [b2] at hs
    obtain ⟨d, hd, he⟩ := spot_chunk _ [] hokB s hs
    rw [List.nil_append] at he
    rw [he] at hm
    rcases hrefB d hd _ hm with h | h
    · omega
    · exact hnotin h
end Go.Proofs.YtbmkbnalembbjaaGreatDoor

namespace Go.Proofs.YtbmkbnalembbjaaGreatDoor
open Go.RowKit
theorem spotsF_len : ∀ (cs : List Chk) (i : Nat), (spotsFrom i cs).length = cs.length
  | [], _ => rfl
  | c :: cs, i => by simp only [spotsFrom, List.length_cons, spotsF_len cs]
theorem spotsFrom_ix : ∀ (cs : List Chk) (i0 i : Nat) (c : Chk), cs[i]? = some c → (spotsFrom i0 cs)[i]? = some (c.spot (i0 + (chunksW (cs.take i)).length))
  | [], _, _, _, h => by simp at h
  | d :: cs, i0, 0, c, h => by
    simp only [List.getElem?_cons_zero, Option.some.injEq] at h
    subst h
    simp [spotsFrom, chunksW]
  | d :: cs, i0, i + 1, c, h => by
    simp only [List.getElem?_cons_succ] at h
    have ih := spotsFrom_ix cs (i0 + d.len) i c h
    simp only [spotsFrom, List.getElem?_cons_succ, List.take_succ_cons]
    rw [ih, chunksW_cons, List.length_append, chkW_length]
    congr 2
    omega
theorem spotsFrom_set : ∀ (cs : List Chk) (i0 i : Nat) (c c' : Chk), cs[i]? = some c → c'.r = c.r → c'.b = c.b → c'.t = c.t → c'.f = c.f → c'.pay.length = c.pay.length → spotsFrom i0 (cs.set i c') = spotsFrom i0 cs
  | [], _, _, _, _, _, _, _, _, _, _ => by simp
  | d :: cs, i0, 0, c, c', h, h1, h2, h3, h4, h5 => by
    simp only [List.getElem?_cons_zero, Option.some.injEq] at h
    subst h
    simp only [List.set_cons_zero, spotsFrom, Chk.spot, Chk.len, h1, h2, h3, h4, h5]
  | d :: cs, i0, i + 1, c, c', h, h1, h2, h3, h4, h5 => by
    simp only [List.getElem?_cons_succ] at h
    simp only [List.set_cons_succ, spotsFrom, spotsFrom_set cs (i0 + d.len) i c c' h h1 h2 h3 h4 h5]
theorem chunksW_set : ∀ (cs : List Chk) (i j : Nat) (c : Chk) (v : Int), cs[i]? = some c → j < c.pay.length → chunksW (cs.set i ⟨c.r, c.b, c.t, c.f, c.pay.set j v⟩) = (chunksW cs).set ((chunksW (cs.take i)).length + 1 + j) v
  | [], _, _, _, _, h, _ => by simp at h
  | d :: cs, 0, j, c, v, h, hj => by
    simp only [List.getElem?_cons_zero, Option.some.injEq] at h
    subst h
    simp only [List.set_cons_zero, List.take_zero]
    rw [chunksW_cons, chunksW_cons, List.set_append, if_pos (by rw [chkW_length]; simp [chunksW, Chk.len]; omega)]
    congr 1
    simp only [chkW, chunksW, List.flatMap_nil, List.length_nil]
    rw [show 0 + 1 + j = j + 1 by omega, List.set_cons_succ]
  | d :: cs, i + 1, j, c, v, h, hj => by
    simp only [List.getElem?_cons_succ] at h
    have ih := chunksW_set cs i j c v h hj
    simp only [List.set_cons_succ, List.take_succ_cons]
    rw [chunksW_cons, chunksW_cons, chunksW_cons, ih, List.length_append, List.set_append, if_neg (by omega)]
    congr 2
    omega
theorem chunks_cut {cs : List Chk} {i : Nat} {c : Chk} (h : cs[i]? = some c) : cs = cs.take i ++ c :: cs.drop (i + 1) := by
  obtain ⟨q, rfl⟩ := List.getElem?_eq_some_iff.1 h
  rw [← List.drop_eq_getElem_cons q, List.take_append_drop]
theorem refs_ix {cs : List Chk} {i : Nat} {c : Chk} (hok : ∀ c ∈ cs, c.ok) (h : cs[i]? = some c) :
    refsOf (chunksW cs) (c.spot (chunksW (cs.take i)).length) = c.pay.take c.r.toNat ∧ bodyOf (chunksW cs) (c.spot (chunksW (cs.take i)).length) = c.pay.drop c.r.toNat := by
  have h1 := split_refs (cs.take i) (cs.drop (i + 1)) c (hok c (List.mem_of_getElem? h))
  rw [← chunks_cut h] at h1
  exact h1
theorem take_set_same (i : Nat) (cs : List Chk) (c : Chk) (k : Nat) (c0 : Chk) (h0 : cs[i]? = some c0) (hl : c.len = c0.len) : (chunksW ((cs.set i c).take k)).length = (chunksW (cs.take k)).length := by
  rw [List.take_set]
  by_cases hk : i < k
  · have h1 : (cs.take k)[i]? = some c0 := by rw [List.getElem?_take, if_pos hk, h0]
    generalize cs.take k = ds at *
    have h2 := chunks_cut h1
    have h3 : ds.set i c = ds.take i ++ c :: ds.drop (i + 1) := by
      obtain ⟨q, -⟩ := List.getElem?_eq_some_iff.1 h1
      rw [List.set_eq_take_append_cons_drop, if_pos q]
    rw [h3]
    conv => rhs; rw [h2]
    rw [chunksW_append, chunksW_append, chunksW_cons, chunksW_cons]
    simp only [List.length_append, chkW_length, hl]
  · rw [List.set_eq_of_length_le (by rw [List.length_take]; omega)]
structure PaySet (a a' : List Int) (s : Spot) (j : Nat) (v : Int) : Prop where
  len : a'.length = a.length
  spotsE : spotsE a' = 0
  spots : spotsL a' = spotsL a
  refs : refsOf a' s = if (j : Int) < s.r then (refsOf a s).set j v else refsOf a s
  body : bodyOf a' s = if (j : Int) < s.r then bodyOf a s else (bodyOf a s).set (j - s.r.toNat) v
  other : ∀ s' ∈ spotsL a, s' ≠ s → refsOf a' s' = refsOf a s' ∧ bodyOf a' s' = bodyOf a s'
theorem pay_set {a : List Int} (h : spotsE a = 0) {s : Spot} (hs : s ∈ spotsL a) {j : Nat} (hj : (j : Int) < s.r + s.b) (v : Int) : PaySet a (a.set (s.loc.toNat + 1 + j) v) s j v := by
  obtain ⟨cs, hok, rfl, hS, hlen⟩ := arena_chunks h
  obtain ⟨i, hi⟩ := List.mem_iff_getElem?.1 hs
  rw [hS] at hi
  have hil : i < cs.length := by have := (List.getElem?_eq_some_iff.1 hi).1; rw [spotsF_len] at this; exact this
  have hc : cs[i]? = some cs[i] := List.getElem?_eq_getElem hil
  generalize cs[i] = c at hc
  have hix := spotsFrom_ix cs 0 i c hc
  rw [Nat.zero_add] at hix
  obtain rfl : c.spot (chunksW (cs.take i)).length = s := Option.some.inj (hix.symm.trans hi)
  have hcok := hok c (List.mem_of_getElem? hc)
  have hE := headE_ok.1 hcok.1
  have hjp : j < c.pay.length := by have := hcok.2; simp only [Chk.spot] at hj; omega
  have hset := chunksW_set cs i j c v hc hjp
  have hloc : (c.spot (chunksW (cs.take i)).length).loc.toNat = (chunksW (cs.take i)).length := by simp [Chk.spot]
  rw [hloc, ← hset]
  have hok' : ∀ d ∈ cs.set i ⟨c.r, c.b, c.t, c.f, c.pay.set j v⟩, d.ok := by
    intro d hd
    rcases List.mem_or_eq_of_mem_set hd with hd | rfl
    · exact hok d hd
    · exact ⟨hcok.1, by rw [List.length_set]; exact hcok.2⟩
  have hl' : (chunksW (cs.set i ⟨c.r, c.b, c.t, c.f, c.pay.set j v⟩)).length = (chunksW cs).length := by rw [hset, List.length_set]
  obtain ⟨p1, p2⟩ := chunks_spots hok' (by rw [hl']; exact hlen)
  have hS' := spotsFrom_set cs 0 i c ⟨c.r, c.b, c.t, c.f, c.pay.set j v⟩ hc rfl rfl rfl rfl (List.length_set ..)
  have hc' : (cs.set i ⟨c.r, c.b, c.t, c.f, c.pay.set j v⟩)[i]? = some ⟨c.r, c.b, c.t, c.f, c.pay.set j v⟩ := List.getElem?_set_self hil
  have hpre : ∀ k, (chunksW ((cs.set i ⟨c.r, c.b, c.t, c.f, c.pay.set j v⟩).take k)).length = (chunksW (cs.take k)).length := fun k => take_set_same i cs _ k c hc (by simp [Chk.len])
  obtain ⟨r1, r2⟩ := refs_ix hok hc
  obtain ⟨r3, r4⟩ := refs_ix hok' hc'
  rw [hpre] at r3 r4
  have hsp : Chk.spot (chunksW (cs.take i)).length ⟨c.r, c.b, c.t, c.f, c.pay.set j v⟩ = c.spot (chunksW (cs.take i)).length := rfl
  rw [hsp] at r3 r4
  dsimp only at r3 r4
  refine ⟨hl', p1, by rw [p2, hS', hS], ?_, ?_, ?_⟩
  · rw [r3, r1]
    show List.take c.r.toNat (c.pay.set j v) = if (j : Int) < c.r then (List.take c.r.toNat c.pay).set j v else List.take c.r.toNat c.pay
    split
    · rw [List.take_set]
    · rw [List.take_set, List.set_eq_of_length_le (by rw [List.length_take]; omega)]
  · rw [r4, r2]
    show List.drop c.r.toNat (c.pay.set j v) = if (j : Int) < c.r then List.drop c.r.toNat c.pay else (List.drop c.r.toNat c.pay).set (j - c.r.toNat) v
    split
    · rw [List.drop_set, if_pos (by omega)]
    · rw [List.drop_set, if_neg (by omega)]
  · intro s' hs' hne
    obtain ⟨k, hk⟩ := List.mem_iff_getElem?.1 hs'
    rw [hS] at hk
    have hkl : k < cs.length := by have := (List.getElem?_eq_some_iff.1 hk).1; rw [spotsF_len] at this; exact this
    have hd : cs[k]? = some cs[k] := List.getElem?_eq_getElem hkl
    generalize cs[k] = d at hd
    have hix2 := spotsFrom_ix cs 0 k d hd
    rw [Nat.zero_add] at hix2
    obtain rfl : d.spot (chunksW (cs.take k)).length = s' := Option.some.inj (hix2.symm.trans hk)
    have hki : i ≠ k := by
      intro e
      subst e
      obtain rfl := Option.some.inj (hd.symm.trans hc)
      exact hne rfl
    have hd' : (cs.set i ⟨c.r, c.b, c.t, c.f, c.pay.set j v⟩)[k]? = some d := by rw [List.getElem?_set_ne hki]; exact hd
    obtain ⟨t1, t2⟩ := refs_ix hok hd
    obtain ⟨t3, t4⟩ := refs_ix hok' hd'
    rw [hpre] at t3 t4
    rw [t1, t2, t3, t4]
    exact ⟨rfl, rfl⟩
theorem PaySet.check {a a' : List Int} {s : Spot} {j : Nat} {v : Int} (h : PaySet a a' s j v) (h0 : checkE a = 0) (hs : s ∈ spotsL a) (hv : (j : Int) < s.r → (placeF (spotsL a) v).isSome = true) : checkE a' = 0 := by
  obtain ⟨-, h1⟩ := checkE_ok.1 h0
  refine checkE_ok.2 ⟨h.spotsE, ?_⟩
  rw [h.spots]
  unfold refsOk at h1 ⊢
  refine List.all_eq_true.2 fun s' hs' => List.all_eq_true.2 fun x hx => ?_
  have h2 := List.all_eq_true.1 h1 s' hs'
  by_cases e : s' = s
  · subst e
    rw [h.refs] at hx
    by_cases hj : (j : Int) < s'.r
    · rw [if_pos hj] at hx
      rcases List.mem_or_eq_of_mem_set hx with hx | rfl
      · exact List.all_eq_true.1 h2 x hx
      · exact hv hj
    · rw [if_neg hj] at hx
      exact List.all_eq_true.1 h2 x hx
  · rw [(h.other s' hs' e).1] at hx
    exact List.all_eq_true.1 h2 x hx
end Go.Proofs.YtbmkbnalembbjaaGreatDoor

namespace Go.Proofs.YtbmkbnalembbjaaGreatDoor
open Go.RowKit
theorem flushG_spot {i p : Nat} (R : List Chk) {g : Rn} (hg : g ∈ flushG i p) : ∃ s ∈ spotsFrom i (flushC p ++ R), s.loc = g.loc ∧ s.f = true ∧ s.long = g.len := by
  unfold flushG at hg
  by_cases h : p = 0
  · rw [if_pos h] at hg; cases hg
  · rw [if_neg h] at hg
    obtain rfl := List.mem_singleton.1 hg
    refine ⟨(freeC p).spot i, ?_, rfl, rfl, ?_⟩
    · unfold flushC
      rw [if_neg h]
      exact List.mem_cons_self
    · show (1 : Int) + 0 + ((p : Int) - 1) = p
      omega
theorem join_free : ∀ (cs : List Chk) (i p : Nat), p ≤ i → ∀ g ∈ gapsP i p cs, ∃ s ∈ spotsFrom (i - p) (joinP p cs), s.loc = g.loc ∧ s.f = true ∧ s.long = g.len
  | [], i, p, _, g, hg => by
    have := flushG_spot (i := i - p) (p := p) [] hg
    rwa [List.append_nil] at this
  | c :: cs, i, p, hp, g, hg => by
    by_cases hf : c.f = true
    · simp only [gapsP, joinP, hf, if_true] at hg ⊢
      have := join_free cs (i + c.len) (p + c.len) (by omega) g hg
      rwa [show i + c.len - (p + c.len) = i - p by omega] at this
    · simp only [gapsP, joinP, hf] at hg ⊢
      simp only [if_false, Bool.false_eq_true] at hg ⊢
      rcases List.mem_append.1 hg with hg | hg
      · exact flushG_spot _ hg
      · obtain ⟨s, hs, e⟩ := join_free cs (i + c.len) 0 (by omega) g hg
        refine ⟨s, ?_, e⟩
        rw [spotsFrom_append, flushC_length, show i - p + p = i by omega]
        simp only [spotsFrom]
        exact List.mem_append_right _ (List.mem_cons_of_mem _ hs)
theorem join_spot {a : List Int} (h : checkE a = 0) {g : Rn} (hg : g ∈ gapsL (spotsL a)) : ∃ s ∈ spotsL (joinL a (gapsL (spotsL a))), s.loc = g.loc ∧ s.f = true ∧ s.long = g.len := by
  obtain ⟨cs, hok, rfl, hs, hl, hr⟩ := check_chunks h
  have hg0 : gapsL (spotsL (chunksW cs)) = gapsP 0 0 cs := by rw [hs, gapsL_chunks hok]
  rw [hg0] at hg ⊢
  have hj := joinL_chunks cs [] []
  simp only [List.nil_append, List.length_nil, Nat.add_zero] at hj
  have hok2 := joinP_ok hok hl
  have hlen := joinP_length cs 0
  rw [Nat.zero_add] at hlen
  obtain ⟨hs1, hs2⟩ := chunks_spots hok2 (by omega)
  rw [hj, hs2]
  exact join_free cs 0 0 (Nat.le_refl _) g hg
def KeepsLive (a b : List Int) : Prop := ∀ s ∈ spotsL a, s.f = false → s ∈ spotsL b ∧ refsOf b s = refsOf a s ∧ bodyOf b s = bodyOf a s
theorem KeepsLive.trans {a b c : List Int} (h : KeepsLive a b) (h' : KeepsLive b c) : KeepsLive a c := fun s hs hf => by
  obtain ⟨h1, h2, h3⟩ := h s hs hf
  obtain ⟨h4, h5, h6⟩ := h' s h1 hf
  exact ⟨h4, h5.trans h2, h6.trans h3⟩
theorem keeps_of {cs ds : List Chk} (hok : ∀ c ∈ cs, c.ok) (hok' : ∀ c ∈ ds, c.ok) (hl : (chunksW cs).length ≤ 256) (hl' : (chunksW ds).length ≤ 256)
    (h : ∀ P c Q, cs = P ++ c :: Q → c.f = false → ∃ P' Q', ds = P' ++ c :: Q' ∧ (chunksW P').length = (chunksW P).length) : KeepsLive (chunksW cs) (chunksW ds) := by
  intro s hs hf
  obtain ⟨-, e1⟩ := chunks_spots hok hl
  obtain ⟨-, e2⟩ := chunks_spots hok' hl'
  rw [e1] at hs
  obtain ⟨j, hj⟩ := List.mem_iff_getElem?.1 hs
  obtain ⟨P, c, Q, rfl, rfl, -⟩ := spots_split cs 0 j s hj
  rw [Nat.zero_add] at *
  obtain ⟨P', Q', rfl, hP⟩ := h P c Q rfl hf
  have h1 := split_refs P Q c (hok c (by simp))
  have h2 := split_refs P' Q' c (hok c (by simp))
  rw [hP] at h2
  refine ⟨?_, h2.1.trans h1.1.symm, h2.2.trans h1.2.symm⟩
  rw [e2, ← hP]
  exact List.mem_of_getElem? (spots_at P' c Q')
theorem joinP_split : ∀ (P : List Chk) (c : Chk) (Q : List Chk) (p : Nat), c.f = false → ∃ P' Q', joinP p (P ++ c :: Q) = P' ++ c :: Q' ∧ (chunksW P').length = p + (chunksW P).length
  | [], c, Q, p, hf => by
    refine ⟨flushC p, joinP 0 Q, by simp [joinP, hf], ?_⟩
    rw [flushC_length]
    simp [chunksW]
  | d :: P, c, Q, p, hf => by
    by_cases hd : d.f = true
    · obtain ⟨P', Q', h1, h2⟩ := joinP_split P c Q (p + d.len) hf
      refine ⟨P', Q', ?_, ?_⟩
      · rw [List.cons_append]
        simp only [joinP, hd, if_true]
        exact h1
      · rw [h2, chunksW_cons, List.length_append, chkW_length]
        omega
    · obtain ⟨P', Q', h1, h2⟩ := joinP_split P c Q 0 hf
      refine ⟨flushC p ++ d :: P', Q', ?_, ?_⟩
      · rw [List.cons_append]
        simp only [joinP, hd, Bool.false_eq_true, if_false]
        rw [h1]
        simp
      · rw [chunksW_append, List.length_append, flushC_length, chunksW_cons, List.length_append, chkW_length, h2, chunksW_cons, List.length_append, chkW_length]
        omega
theorem join_keeps {a : List Int} (h : checkE a = 0) : KeepsLive a (joinL a (gapsL (spotsL a))) := by
  obtain ⟨cs, hok, rfl, hs, hl, hr⟩ := check_chunks h
  have hg0 : gapsL (spotsL (chunksW cs)) = gapsP 0 0 cs := by rw [hs, gapsL_chunks hok]
  rw [hg0]
  have hj := joinL_chunks cs [] []
  simp only [List.nil_append, List.length_nil, Nat.add_zero] at hj
  have hlen := joinP_length cs 0
  rw [Nat.zero_add] at hlen
  rw [hj]
  refine keeps_of hok (joinP_ok hok hl) hl (by omega) (fun P c Q e hf => ?_)
  subst e
  obtain ⟨P', Q', h1, h2⟩ := joinP_split P c Q 0 hf
  exact ⟨P', Q', h1, by omega⟩
end Go.Proofs.YtbmkbnalembbjaaGreatDoor
