/-
  Texts joined: CleanTwice StLaw StMem StoreColl HoldFn HoldRoom TwinDefs LawHalves LawPins LawNums.
-/
import Derived.Lib.SmallJoins
import Derived.SizedLaws
import Derived.Test.YtbhbgdlnfobjaaaG1
import Derived.Test.YtbhbgdlnfobjaaaG2
import Derived.Test.YtbhbgdlnfobjaaaG8
/-
  Plain law: an arena that is cleaned twice. No program stands here.
-/
namespace Go.Proofs.Ytbhbgdlnfobjaaa
open Go.RowKit

theorem slid_pairwise {N : Int} (pinned : List Int) : ∀ (keep L : List Int) (e : Int), Kept N keep L → (∀ x, keep[0]? = some x → e ≤ x) → (slidGo pinned e keep L).Pairwise (· < ·) := by
  intro keep
  induction keep with
  | nil => intro L e _ _; simp [slidGo]
  | cons x ks ih =>
    intro L e hK he
    cases L with
    | nil => simp [slidGo]
    | cons n ls =>
      obtain ⟨x0, n1, n2, hxn⟩ := hK.at_ 0 x n rfl rfl
      have hex := he x rfl
      obtain ⟨z, hz⟩ : ∃ z, z = (if x ∈ pinned then x else e) := ⟨_, rfl⟩
      have hz1 : e ≤ z ∧ z ≤ x := by rw [hz]; split <;> omega
      have hh : ∀ y, ks[0]? = some y → z + n ≤ y := fun y hy => by have := hK.next 0 x n y rfl rfl (by simpa using hy); omega
      have hS := slid_of N pinned ks ls (z + n) hK.tail hh
      have hY : slidGo pinned e (x :: ks) (n :: ls) = z :: slidGo pinned (z + n) ks ls := by simp only [slidGo]; rw [← hz]
      rw [hY]
      refine List.pairwise_cons.2 ⟨fun y hy => ?_, ih ls (z + n) hK.tail hh⟩
      obtain ⟨j, hj⟩ := List.mem_iff_getElem?.1 hy
      have := hS.low j y hj
      omega
theorem slid_slid (pinned : List Int) : ∀ (keep L : List Int) (e : Int), slidGo pinned e (slidGo pinned e keep L) L = slidGo pinned e keep L := by
  intro keep
  induction keep with
  | nil => intro L e; simp [slidGo]
  | cons x ks ih =>
    intro L e
    cases L with
    | nil => simp [slidGo]
    | cons n ls =>
      obtain ⟨z, hz⟩ : ∃ z, z = (if x ∈ pinned then x else e) := ⟨_, rfl⟩
      have hzz : (if z ∈ pinned then z else e) = z := by
        by_cases h : z ∈ pinned
        · rw [if_pos h]
        · rw [if_neg h]
          by_cases hx : x ∈ pinned
          · rw [if_pos hx] at hz; rw [hz] at h; exact absurd hx h
          · rw [if_neg hx] at hz; exact hz.symm
      have hY : slidGo pinned e (x :: ks) (n :: ls) = z :: slidGo pinned (z + n) ks ls := by simp only [slidGo]; rw [← hz]
      rw [hY]
      simp only [slidGo]
      rw [hzz, ih]

theorem Cleaned.again {a f p L Y b now : List Int} (h : Cleaned a f p L Y b now) (hI : CleanIs a f p L Y b now) : CleanOk b now p ∧ ∀ L' Y' b' now', CleanIs b now p L' Y' b' now' → L' = Y ∧ Y' = Y ∧ b' = b ∧ now' = now := by
  refine ⟨⟨h.laid.check, h.alive, hI.rises⟩, fun L' Y' b' now' hI' => ?_⟩
  have hP := h.plan
  obtain ⟨hK, -⟩ := kept_of hI.longs
  have hYs : Y.Pairwise (· < ·) := by
    rw [hI.y]
    exact slid_pairwise p L _ 0 hK (fun x hx => hP.nn2 x (List.mem_of_getElem? hx))
  have hmap : L.map (posL L Y) = Y := posL_map hP.nodup hP.len
  have hR := reached_iso h.laid.iso hP.nn2 hI.reached (by rw [hmap]; exact hYs.imp (fun h => by omega))
  rw [← h.map, hmap] at hR
  obtain rfl : L' = Y := Reached.unique hI'.reached hR
  have hYn : L'.Nodup := by
    rw [List.nodup_iff_pairwise_ne]
    exact hYs.imp (fun h => by omega)
  have hP' := planned_of hI'.longs
  rw [← hI'.y] at hP'
  have hat : ∀ (j : Nat) (x y : Int), L[j]? = some x → L'[j]? = some y → ∃ s s', spotAt (spotsL a) x = some s ∧ spotAt (spotsL b) y = some s' ∧ s'.r = s.r ∧ s'.b = s.b ∧ s'.t = s.t ∧ bodyOf b s' = bodyOf a s ∧ refsOf b s' = (refsOf a s).map (refT (posL L L')) := by
    intro j x y hx hy
    have hxL := List.mem_of_getElem? hx
    obtain ⟨s, hs⟩ := begsL_iff.1 (h.closed.begs x hxL)
    obtain ⟨s', hs', e⟩ := h.laid.iso.at_ x hxL s hs
    rw [posL_at hP.nodup hx hy] at hs'
    exact ⟨s, s', hs, hs', e⟩
  have hlen : (longsV b L' p) = longsV a L p := by
    refine List.ext_getElem? (fun j => ?_)
    by_cases hj : j < L.length
    · have hx : L[j]? = some L[j] := List.getElem?_eq_getElem hj
      have hy : L'[j]? = some (L'[j]'(by rw [hP.len]; exact hj)) := List.getElem?_eq_getElem _
      have hy' : Y'[j]? = some (Y'[j]'(by rw [hP'.len, hP.len]; exact hj)) := List.getElem?_eq_getElem _
      obtain ⟨s, i, e1, -, -, -, -, e6, -⟩ := hP.at_ j _ _ hx hy
      obtain ⟨s2, i2, f1, -, -, -, -, f6, -⟩ := hP'.at_ j _ _ hy hy'
      obtain ⟨t, t', g1, g2, g3, g4, -⟩ := hat j _ _ hx hy
      obtain rfl := Option.some.inj (e1.symm.trans g1)
      obtain rfl := Option.some.inj (f1.symm.trans g2)
      rw [e6, f6]
      unfold Spot.long
      rw [g3, g4]
    · rw [List.getElem?_eq_none (by rw [hP'.lenL, hP.len]; omega), List.getElem?_eq_none (by rw [hP.lenL]; omega)]
  have hY' : Y' = L' := by
    rw [hI'.y, hlen]
    conv => lhs; rw [hI.y]
    rw [slid_slid]
    exact hI.y.symm
  subst hY'
  have hid : ∀ y ∈ Y', posL Y' Y' y = y := fun y hy => by
    obtain ⟨j, z, h1, h2, h3⟩ := posL_ex hYn rfl hy
    rw [h1] at h2
    rw [h3]
    exact (Option.some.inj h2).symm
  refine ⟨rfl, rfl, ?_, ?_⟩
  · have e1 := hI'.b
    unfold slidW at e1
    rw [← hI'.y, h.laid.len] at e1
    have e2 := hI.b
    unfold slidW at e2
    rw [← hI.y] at e2
    rw [e1]
    refine Eq.trans ?_ e2.symm
    congr 2
    refine List.ext_getElem? (fun j => ?_)
    by_cases hj : j < L.length
    · have hx : L[j]? = some L[j] := List.getElem?_eq_getElem hj
      have hy : Y'[j]? = some (Y'[j]'(by rw [hP.len]; exact hj)) := List.getElem?_eq_getElem _
      rw [rowsOf_at hy hy, rowsOf_at hx hy]
      obtain ⟨s, s', g1, g2, g3, g4, g5, g6, g7⟩ := hat j _ _ hx hy
      rw [rowAt_some g1, rowAt_some g2]
      congr 2
      unfold kC
      rw [g3, g4, g5, g6, g7, List.map_map]
      congr 2
      refine List.map_congr_left (fun v hv => ?_)
      show refT _ (refT _ v) = refT _ v
      by_cases h0 : v = 0
      · subst h0; rfl
      · have hk := Iso.link_of h.closed (List.mem_of_getElem? hx) g1 v hv h0
        have hn := h.laid.iso.nn _ hk
        have e : refT (posL L Y') v = posL L Y' (v - 1) + 1 := by unfold refT; rw [if_neg h0]
        rw [e]
        unfold refT
        rw [if_neg (by omega), show posL L Y' (v - 1) + 1 - 1 = posL L Y' (v - 1) by omega, hid]
        obtain ⟨i, u, -, hu, e2⟩ := posL_ex hP.nodup hP.len hk
        rw [e2]
        exact List.mem_of_getElem? hu
    · rw [List.getElem?_eq_none (by rw [rowsOf_length rfl, hP.len]; omega), List.getElem?_eq_none (by rw [rowsOf_length hP.len]; omega)]
  · rw [hI'.now]
    conv => rhs; rw [← List.map_id now]
    refine List.map_congr_left (fun x hx => hid x ?_)
    rw [hI.now] at hx
    obtain ⟨z, hz, rfl⟩ := List.mem_map.1 hx
    obtain ⟨i, u, -, hu, e2⟩ := posL_ex hP.nodup hP.len (h.sub z (List.mem_append_left _ hz))
    rw [e2]
    exact List.mem_of_getElem? hu
end Go.Proofs.Ytbhbgdlnfobjaaa

/-
  Plain law: what collecting a right store gives. No program stands here.
-/
namespace Go.Proofs.Ytbhbgdlnfobjaaa
open Go.RowKit

theorem compact_strict {l : List Int} (h : l.Pairwise (fun x y => x ≤ y)) : (Lib.compact l).Pairwise (fun x y => x < y) := by
  unfold Lib.compact Lib.compactUpTo
  rw [List.pairwise_map]
  have h1 : ((List.range l.length).filter (Lib.keeps l.toArray)).Pairwise (fun i j => i < j) := List.pairwise_lt_range.sublist List.filter_sublist
  refine List.Pairwise.imp_of_mem ?_ h1
  intro i j hi hj hij
  obtain ⟨hi1, -⟩ := List.mem_filter.1 hi
  obtain ⟨hj1, hj2⟩ := List.mem_filter.1 hj
  have hi1 := List.mem_range.1 hi1
  have hj1 := List.mem_range.1 hj1
  have h2 : l.toArray[j]! ≠ l.toArray[j - 1]! := by
    simp only [Lib.keeps, decide_eq_true_eq] at hj2
    exact hj2.resolve_left (by omega)
  rw [getElem!_pos l.toArray i (by simpa using hi1), getElem!_pos l.toArray j (by simpa using hj1)]
  rw [getElem!_pos l.toArray j (by simpa using hj1), getElem!_pos l.toArray (j - 1) (by simp; omega)] at h2
  simp only [List.getElem_toArray] at h2 ⊢
  have h3 : ∀ (p q : Nat) (hp : p < l.length) (hq : q < l.length), p ≤ q → l[p] ≤ l[q] := by
    intro p q hp hq hpq
    rcases Nat.eq_or_lt_of_le hpq with rfl | hlt
    · exact Int.le_refl _
    · exact List.pairwise_iff_getElem.1 h p q hp hq hlt
  have h4 := h3 i (j - 1) hi1 (by omega) (by omega)
  have h5 := h3 (j - 1) j (by omega) hj1 (by omega)
  omega
theorem fromL_strict (r : List Int) (l : List Slot) (p : List Rn) : (fromL r l p).Pairwise (fun x y => x < y) := compact_strict (sortL_sorted _)
theorem fromL_nodup (r : List Int) (l : List Slot) (p : List Rn) : (fromL r l p).Nodup := by
  rw [List.nodup_iff_pairwise_ne]
  exact (fromL_strict r l p).imp (fun h => by omega)

/-- What is in a store. -/
structure St where
  a : List Int
  r : List Int
  p : List Rn
  l : List Slot
def St.begs (S : St) : List Int := fromL S.r S.l S.p
def StOk (S : St) : Prop := StoreOk S.a S.r S.l S.p
/-- The words at which a store's roots, hands and pins are, in their order. -/
def rootedL (S : St) : List Int := S.r.filter (fun v => decide (0 ≤ v)) ++ openL S.l ++ pinsL S.p
theorem rooted_begs {S : St} {x : Int} : x ∈ S.begs ↔ x ∈ rootedL S := by
  unfold St.begs rootedL fromL
  rw [compact_mem, sortL_mem]
  simp only [List.mem_append, namedL_mem, List.mem_filter, decide_eq_true_eq]
theorem open_at {S : St} {s : Slot} (h : s ∈ S.l) (ho : s.opn = true) : s.loc ∈ S.begs := rooted_begs.2 (List.mem_append_left _ (List.mem_append_right _ (List.mem_map.2 ⟨s, List.mem_filter.2 ⟨h, ho⟩, rfl⟩)))
theorem root_at {S : St} {v : Int} (h : v ∈ S.r) (h0 : 0 ≤ v) : v ∈ S.begs := rooted_begs.2 (List.mem_append_left _ (List.mem_append_left _ (List.mem_filter.2 ⟨h, by simpa using h0⟩)))
theorem pin_at {S : St} {y : Rn} (h : y ∈ S.p) : y.loc ∈ S.begs := rooted_begs.2 (List.mem_append_right _ (List.mem_map.2 ⟨y, h, rfl⟩))

def phiV (φ : Int → Int) (v : Int) : Int := if 0 ≤ v then φ v else v
def phiS (φ : Int → Int) (s : Slot) : Slot := if s.opn = true then ⟨s.gen, true, φ s.loc⟩ else s
/-- What collect makes of a right store. -/
structure Coll (S S' : St) (fr : Int) (L Y now : List Int) : Prop where
  is : CleanIs S.a S.begs (pinsL S.p) L Y S'.a now
  r : S'.r = S.r.map (swapV (putsL (List.replicate S.a.length 0) S.begs now))
  p : S'.p = S.p
  l : S'.l = S.l.map (swapS (putsL (List.replicate 256 0) S.begs now))
  fr : fr = freeL S'.a
section
variable {S S' S2 : St} {fr fr2 : Int} {L Y now L2 Y2 now2 : List Int}
theorem Coll.put (h : Coll S S' fr L Y now) (hS : StOk S) {k : Nat} (hk : S.a.length ≤ k) {x : Int} (hx : x ∈ S.begs) : 0 ≤ x ∧ x < S.a.length ∧ (putsL (List.replicate k 0) S.begs now).getD x.toNat 0 = posL L Y x := by
  have h1 : ∀ x ∈ S.begs, 0 ≤ x ∧ x < S.a.length := fun x hx => begs_lt hS.arena (hS.live x hx)
  obtain ⟨i, hi⟩ := List.mem_iff_getElem?.1 hx
  have hy : now[i]? = some (posL L Y x) := by rw [h.is.now, List.getElem?_map, hi]; rfl
  have h2 := putsL_at (show S.begs.Nodup from fromL_nodup S.r S.l S.p) (fun x hx => (h1 x hx).1) hi hy (List.replicate k 0) (by rw [List.length_replicate]; have := h1 x hx; omega)
  refine ⟨(h1 x hx).1, (h1 x hx).2, ?_⟩
  rw [List.getD_eq_getElem?_getD, h2]
  rfl
theorem Coll.r' (h : Coll S S' fr L Y now) (hS : StOk S) : S'.r = S.r.map (phiV (posL L Y)) := by
  rw [h.r]
  refine List.map_congr_left (fun v hv => ?_)
  unfold swapV phiV
  by_cases h0 : 0 ≤ v
  · rw [if_pos h0, if_pos h0, (h.put hS (Nat.le_refl _) (root_at hv h0)).2.2]
  · rw [if_neg h0, if_neg h0]
theorem Coll.l' (h : Coll S S' fr L Y now) (hS : StOk S) : S'.l = S.l.map (phiS (posL L Y)) := by
  rw [h.l]
  refine List.map_congr_left (fun s hs => ?_)
  unfold swapS phiS
  by_cases h0 : s.opn = true
  · rw [if_pos h0, if_pos h0, (h.put hS (cleaned_of h.is).len256 (open_at hs h0)).2.2]
  · rw [if_neg h0, if_neg h0]
theorem Coll.pos (h : Coll S S' fr L Y now) {x : Int} (hx : x ∈ S.begs) : 0 ≤ posL L Y x ∧ posL L Y x < S.a.length ∧ posL L Y x ∈ begsL (spotsL S'.a) := by
  have hC := cleaned_of h.is
  have h1 : posL L Y x ∈ now := by rw [h.is.now]; exact List.mem_map.2 ⟨x, hx, rfl⟩
  have h2 := hC.alive _ (List.mem_append_left _ h1)
  have h3 := begs_lt hC.laid.check h2
  have h4 := hC.laid.len
  exact ⟨h3.1, by omega, h2⟩
theorem Coll.pinned (h : Coll S S' fr L Y now) {y : Rn} (hy : y ∈ S.p) : posL L Y y.loc = y.loc := (cleaned_of h.is).pin _ (List.mem_map.2 ⟨y, hy, rfl⟩)
theorem filter_phi {φ : Int → Int} : ∀ {r : List Int}, (∀ v ∈ r, 0 ≤ v → 0 ≤ φ v) → (r.map (phiV φ)).filter (fun v => decide (0 ≤ v)) = (r.filter (fun v => decide (0 ≤ v))).map φ
  | [], _ => rfl
  | v :: r, h => by
    have ih := filter_phi (φ := φ) (r := r) (fun v hv => h v (List.mem_cons_of_mem _ hv))
    by_cases h0 : 0 ≤ v
    · have h1 := h v List.mem_cons_self h0
      rw [List.map_cons, show phiV φ v = φ v from if_pos h0, List.filter_cons_of_pos (by simpa using h1), List.filter_cons_of_pos (by simpa using h0), List.map_cons, ih]
    · rw [List.map_cons, show phiV φ v = v from if_neg h0, List.filter_cons_of_neg (by simpa using h0), List.filter_cons_of_neg (by simpa using h0), ih]
theorem phiS_opn (φ : Int → Int) (s : Slot) : (phiS φ s).opn = s.opn := by
  unfold phiS
  by_cases h : s.opn = true
  · rw [if_pos h]; exact h.symm
  · rw [if_neg h]
theorem open_phi {φ : Int → Int} : ∀ (l : List Slot), openL (l.map (phiS φ)) = (openL l).map φ
  | [] => rfl
  | s :: l => by
    have ih := open_phi (φ := φ) l
    unfold openL at ih ⊢
    by_cases h : s.opn = true
    · rw [List.map_cons, List.filter_cons_of_pos (by rw [phiS_opn]; exact h), List.filter_cons_of_pos h, List.map_cons, List.map_cons, List.map_cons, ih]
      rw [show (phiS φ s).loc = φ s.loc by unfold phiS; rw [if_pos h]]
    · rw [List.map_cons, List.filter_cons_of_neg (by rw [phiS_opn]; exact h), List.filter_cons_of_neg h, ih]
theorem Coll.rooted (h : Coll S S' fr L Y now) (hS : StOk S) : rootedL S' = (rootedL S).map (posL L Y) := by
  unfold rootedL
  rw [h.r' hS, h.l' hS, h.p, List.map_append (f := posL L Y), List.map_append (f := posL L Y), filter_phi (fun v hv h0 => (h.pos (root_at hv h0)).1), open_phi]
  congr 1
  conv => lhs; rw [← List.map_id (pinsL S.p)]
  exact List.map_congr_left (fun x hx => ((cleaned_of h.is).pin x hx).symm)
theorem Coll.begs' (h : Coll S S' fr L Y now) (hS : StOk S) {x : Int} : x ∈ S'.begs ↔ x ∈ now := by
  rw [rooted_begs, h.rooted hS, h.is.now, List.mem_map, List.mem_map]
  simp only [rooted_begs]
theorem slotE_loc {s : Slot} {x : Int} (h : slotE s = 0) (ho : s.opn = true) (hx : 0 ≤ x ∧ x < 256) : slotE ⟨s.gen, true, x⟩ = 0 := by
  obtain ⟨g, o, y⟩ := s
  subst ho
  unfold slotE at h ⊢
  simp only at h ⊢
  split at h
  · cases h
  · rename_i h1
    rw [if_neg (by omega)]
    split at h
    · cases h
    · rename_i h2
      rw [if_neg (by simp at h2 ⊢; omega)]
theorem Coll.ok (h : Coll S S' fr L Y now) (hS : StOk S) : StOk S' := by
  have hC := cleaned_of h.is
  have hlen := hC.laid.len
  have h256 := hC.len256
  refine ⟨hC.laid.check, ?_, ?_, ?_, ?_⟩
  · obtain ⟨e1, e2, e3, e4⟩ := rootE_ok hS.roots
    refine rootE_of (by omega) (by omega) (by rw [h.r, List.length_map]; exact e3) ?_
    intro v hv
    rw [h.r' hS] at hv
    obtain ⟨u, hu, rfl⟩ := List.mem_map.1 hv
    have h1 := e4 u hu
    unfold phiV
    by_cases h0 : 0 ≤ u
    · rw [if_pos h0]
      have := h.pos (root_at hu h0)
      omega
    · rw [if_neg h0]
      omega
  · rw [h.p]; exact hS.pins
  · obtain ⟨e1, e2⟩ := handE_ok.1 hS.hands
    refine handE_ok.2 ⟨by rw [h.l, List.length_map]; exact e1, ?_⟩
    intro s hs
    rw [h.l' hS] at hs
    obtain ⟨u, hu, rfl⟩ := List.mem_map.1 hs
    have h1 := e2 u hu
    unfold phiS
    by_cases h0 : u.opn = true
    · rw [if_pos h0]
      have := h.pos (open_at hu h0)
      exact slotE_loc h1 h0 (by omega)
    · rw [if_neg h0]
      exact h1
  · intro x hx
    have h1 : x ∈ now := (h.begs' hS).1 hx
    exact hC.alive x (List.mem_append_left _ h1)
theorem Coll.unique (h : Coll S S' fr L Y now) (h2 : Coll S S2 fr2 L2 Y2 now2) : S2 = S' ∧ fr2 = fr := by
  have hL : L2 = L := Reached.unique h2.is.reached h.is.reached
  subst hL
  have hY : Y2 = Y := by rw [h2.is.y, h.is.y]
  subst hY
  have hn : now2 = now := by rw [h2.is.now, h.is.now]
  subst hn
  have hb : S2.a = S'.a := by rw [h2.is.b, h.is.b]
  obtain ⟨a, r, p, l⟩ := S'
  obtain ⟨a2, r2, p2, l2⟩ := S2
  have e1 := h.r; have e2 := h2.r; have e3 := h.p; have e4 := h2.p; have e5 := h.l; have e6 := h2.l; have e7 := h.fr; have e8 := h2.fr
  simp only at hb e1 e2 e3 e4 e5 e6 e7 e8
  subst hb e3 e4 e7 e8
  rw [e1, e2, e5, e6]
  exact ⟨rfl, rfl⟩
theorem Coll.again (h : Coll S S' fr L Y now) (hS : StOk S) (h2 : Coll S' S2 fr2 L2 Y2 now2) : S2 = S' ∧ fr2 = fr := by
  have hC := cleaned_of h.is
  have hb : S'.begs = now := by
    have hn : now.Pairwise (fun x y => x < y) := by
      obtain ⟨hK, -⟩ := kept_of h.is.longs
      have hP := hC.plan
      have hYs : Y.Pairwise (· < ·) := by
        rw [h.is.y]
        exact slid_pairwise _ L _ 0 hK (fun x hx => hP.nn2 x (List.mem_of_getElem? hx))
      rw [h.is.now, List.pairwise_map]
      refine List.Pairwise.imp_of_mem ?_ (fromL_strict S.r S.l S.p)
      intro x x' hx hx' hlt
      obtain ⟨j, y, hj, hy, e⟩ := posL_ex hP.nodup hP.len (h.is.reached.roots x (List.mem_append_left _ hx))
      obtain ⟨j', y', hj', hy', e'⟩ := posL_ex hP.nodup hP.len (h.is.reached.roots x' (List.mem_append_left _ hx'))
      rw [e, e']
      obtain ⟨q1, rfl⟩ := List.getElem?_eq_some_iff.1 hj
      obtain ⟨q2, rfl⟩ := List.getElem?_eq_some_iff.1 hj'
      obtain ⟨q3, rfl⟩ := List.getElem?_eq_some_iff.1 hy
      obtain ⟨q4, rfl⟩ := List.getElem?_eq_some_iff.1 hy'
      refine List.pairwise_iff_getElem.1 hYs j j' q3 q4 ?_
      rcases Nat.lt_trichotomy j j' with g | g | g
      · exact g
      · subst g; omega
      · have := List.pairwise_iff_getElem.1 h.is.reached.sorted j' j q2 q1 g
        omega
    refine sorted_unique ((fromL_strict _ _ _).imp (fun h => by omega)) (fromL_nodup _ _ _) (hn.imp (fun h => by omega)) ?_ (fun x => h.begs' hS)
    rw [List.nodup_iff_pairwise_ne]
    exact hn.imp (fun h => by omega)
  have hI := h2.is
  rw [hb, h.p] at hI
  obtain ⟨-, hag⟩ := hC.again h.is
  obtain ⟨e1, e2, e3, e4⟩ := hag _ _ _ _ hI
  have hS' := h.ok hS
  have hid : ∀ x ∈ S'.begs, posL L2 Y2 x = x := by
    intro x hx
    have h1 := hI.reached.roots x (List.mem_append_left _ (by rw [← hb]; exact hx))
    obtain ⟨j, y, hj, hy, e⟩ := posL_ex (planned_of hI.longs).nodup (show Y2.length = L2.length by rw [e1, e2]) h1
    rw [e1] at hj
    rw [e2] at hy
    rw [e]
    exact Option.some.inj (hy.symm.trans hj)
  obtain ⟨a2, r2, p2, l2⟩ := S2
  obtain ⟨a1, r1, p1, l1⟩ := S'
  have g1 := h2.r' hS'
  have g2 := h2.l' hS'
  have g3 := h2.p
  have g4 := h2.fr
  have g5 := h.fr
  simp only at e3 g1 g2 g3 g4 g5
  subst e3 g3
  have f1 : r2 = r1 := by
    rw [g1]
    conv => rhs; rw [← List.map_id r1]
    refine List.map_congr_left (fun v hv => ?_)
    unfold phiV
    by_cases h0 : 0 ≤ v
    · rw [if_pos h0, hid v (root_at hv h0)]; rfl
    · rw [if_neg h0]; rfl
  have f2 : l2 = l1 := by
    rw [g2]
    conv => rhs; rw [← List.map_id l1]
    refine List.map_congr_left (fun s hs => ?_)
    unfold phiS
    by_cases h0 : s.opn = true
    · rw [if_pos h0, hid _ (open_at hs h0)]
      obtain ⟨g, o, y⟩ := s
      simp only at h0
      subst h0
      rfl
    · rw [if_neg h0]; rfl
  subst f1 f2
  exact ⟨rfl, by rw [g4, g5]⟩
theorem Coll.alike (h : Coll S S' fr L Y now) (hS : StOk S) {os os' : List Ob} {fo fo' : List Int} (h1 : FormIs S.a (rootedL S) os fo) (h2 : FormIs S'.a (rootedL S') os' fo') : os = os' ∧ fo = fo' := by
  have hC := cleaned_of h.is
  rw [h.rooted hS] at h2
  exact form_iso hC.laid.iso hC.closed (fun x hx => h.is.reached.roots x (List.mem_append_left _ (rooted_begs.2 hx))) h1 h2
end
end Go.Proofs.Ytbhbgdlnfobjaaa

/-
  A store in memory: four slices, read or owned.
-/
namespace Go.Proofs.Ytbhbgdlnfobjaaa
open Go.RowKit

structure StR (w : World) (B : Nat) (A : Option Addr) (n : Nat) (RA : Option Addr) (rn : Nat) (PA : Option Addr) (pn : Nat) (HA : Option Addr) (hn : Nat) (S : St) : Prop where
  a : Reads w B 1 A n (S.a.map (.int .u64))
  r : Reads w B 1 RA rn (S.r.map (.int .i64))
  p : Reads w B 2 PA pn (runsC S.p)
  l : Reads w B 3 HA hn (slotsC S.l)
/-- What is known of a store that came in. -/
structure StK (n c rn pn hn : Nat) (S : St) : Prop where
  cap : n ≤ c
  max : c ≤ maxLen
  wf : ∀ x ∈ S.a, (Lit.int .u64 x).wf = true
  rn : rn ≤ 9223372036854775807
  pn : pn ≤ 9223372036854775807
  hn : hn ≤ 9223372036854775807
structure StO (w : World) (base : Nat) (A : Option Addr) (n c : Nat) (RA : Option Addr) (rn rc : Nat) (PA : Option Addr) (pn pc : Nat) (HA : Option Addr) (hn hc : Nat) (S : St) : Prop where
  a : w.ownsRow base 44 1 (.slice A n c) n (S.a.map (.int .u64))
  r : w.ownsRow base 3 1 (.slice RA rn rc) rn (S.r.map (.int .i64))
  p : w.ownsRow base 71 2 (.slice PA pn pc) pn (runsC S.p)
  l : w.ownsRow base 74 3 (.slice HA hn hc) hn (slotsC S.l)
section
variable {w w' : World} {B n c rn rc pn pc hn hc : Nat} {A RA PA HA : Option Addr} {S : St}
theorem StR.below (h : StR w B A n RA rn PA pn HA hn S) (hb : Below B w w') : StR w' B A n RA rn PA pn HA hn S := ⟨h.a.below hb, h.r.below hb, h.p.below hb, h.l.below hb⟩
theorem StR.more {B' : Nat} (h : StR w B A n RA rn PA pn HA hn S) (hB : B ≤ B') : StR w B' A n RA rn PA pn HA hn S := ⟨h.a.more hB, h.r.more hB, h.p.more hB, h.l.more hB⟩
theorem StR.drew (h : StR w B A n RA rn PA pn HA hn S) : StR w.drew B A n RA rn PA pn HA hn S := ⟨h.a.drew, h.r.drew, h.p.drew, h.l.drew⟩
theorem StR.lens (h : StR w B A n RA rn PA pn HA hn S) : S.a.length = n ∧ S.r.length = rn ∧ S.p.length = pn ∧ S.l.length = hn := by
  refine ⟨by have := h.a.1; simpa using this, by have := h.r.1; simpa using this, ?_, ?_⟩
  · have := h.p.1; rw [runsC_length] at this; omega
  · have := h.l.1; rw [slotsC_length] at this; omega
theorem StO.reads {base : Nat} (h : StO w base A n c RA rn rc PA pn pc HA hn hc S) : StR w w.heap.size A n RA rn PA pn HA hn S := ⟨Reads.of_own h.a, Reads.of_own h.r, Reads.of_own h.p, Reads.of_own h.l⟩
theorem StO.below {base : Nat} (h : StO w base A n c RA rn rc PA pn pc HA hn hc S) (hb : Below w.heap.size w w') : StO w' base A n c RA rn rc PA pn pc HA hn hc S := ⟨own_below h.a hb, own_below h.r hb, own_below h.p hb, own_below h.l hb⟩
theorem StO.mono {base base' : Nat} (h : StO w base' A n c RA rn rc PA pn pc HA hn hc S) (hb : base ≤ base') : StO w base A n c RA rn rc PA pn pc HA hn hc S := ⟨own_mono h.a hb, own_mono h.r hb, own_mono h.p hb, own_mono h.l hb⟩
theorem StO.drew {base : Nat} (h : StO w base A n c RA rn rc PA pn pc HA hn hc S) : StO w.drew base A n c RA rn rc PA pn pc HA hn hc S := ⟨h.a.drew, h.r.drew, h.p.drew, h.l.drew⟩
theorem own_max {base size k d : Nat} {e : TypeId} {xs : List Value} (h : w.ownsRow base e size (.slice A k d) k xs) : d ≤ maxLen := by
  rcases h.2 with ⟨h, _⟩ | ⟨g, cap, cur, h, _, _, _, h4, _⟩
  · injection h with _ _ h3
    subst h3
    exact Nat.zero_le _
  · injection h with _ _ h3
    subst h3
    exact h4
theorem StO.known {base : Nat} (h : StO w base A n c RA rn rc PA pn pc HA hn hc S) (hw : ∀ x ∈ S.a, (Lit.int .u64 x).wf = true) : StK n c rn pn hn S := by
  have h1 := own_cap h.r
  have h2 := own_cap h.p
  have h3 := own_cap h.l
  have h4 := own_max h.r
  have h5 := own_max h.p
  have h6 := own_max h.l
  unfold maxLen at h4 h5 h6
  exact ⟨own_cap h.a, own_max h.a, hw, by omega, by omega, by omega⟩
/-- Four words of a block of its own type that are stored leave what is owned as it is. -/
theorem own_block4 {base e size k g : Nat} {v : Value} {xs : List Value} {t : TypeId} {cs : Array Value} (h : w.ownsRow base e size v k xs) (hB : Blk w g t cs) (hne : e ≠ t) (x0 x1 x2 x3 : Value) :
    ((((w.setCell ⟨g, 0, none⟩ x0).setCell ⟨g, 1, none⟩ x1).setCell ⟨g, 2, none⟩ x2).setCell ⟨g, 3, none⟩ x3).ownsRow base e size v k xs := by
  have hn := own_blk h hB hne
  exact own_apart (own_apart (own_apart (own_apart h (p := ⟨g, 0, none⟩) hn _) (p := ⟨g, 1, none⟩) hn _) (p := ⟨g, 2, none⟩) hn _) (p := ⟨g, 3, none⟩) hn _
theorem StO.store {base g : Nat} {cs : Array Value} (h : StO w base A n c RA rn rc PA pn pc HA hn hc S) (hB : Blk w g 28 cs) (x0 x1 x2 x3 : Value) :
    StO ((((w.setCell ⟨g, 0, none⟩ x0).setCell ⟨g, 1, none⟩ x1).setCell ⟨g, 2, none⟩ x2).setCell ⟨g, 3, none⟩ x3) base A n c RA rn rc PA pn pc HA hn hc S :=
  ⟨own_block4 h.a hB (by decide) _ _ _ _, own_block4 h.r hB (by decide) _ _ _ _, own_block4 h.p hB (by decide) _ _ _ _, own_block4 h.l hB (by decide) _ _ _ _⟩
/-- What stands when four words of a block have been stored. -/
theorem below_block4 {base g : Nat} {w0 : World} (h : Below base w0 w) (hg : base ≤ g) (x0 x1 x2 x3 : Value) :
    Below base w0 ((((w.setCell ⟨g, 0, none⟩ x0).setCell ⟨g, 1, none⟩ x1).setCell ⟨g, 2, none⟩ x2).setCell ⟨g, 3, none⟩ x3) :=
  (((h.setCell (p := ⟨g, 0, none⟩) hg _).setCell (p := ⟨g, 1, none⟩) hg _).setCell (p := ⟨g, 2, none⟩) hg _).setCell (p := ⟨g, 3, none⟩) hg _
end
end Go.Proofs.Ytbhbgdlnfobjaaa

/-
  package store: collect and Collect, over a store's lists.
-/
namespace Go.Proofs.Ytbhbgdlnfobjaaa
open Go.RowKit

def stE (S : St) : Int := storeE S.a S.r S.l S.p
theorem stE_ok {S : St} : stE S = 0 ↔ StOk S := storeE_ok
theorem Coll.wf {S S' : St} {fr : Int} {L Y now : List Int} (h : Coll S S' fr L Y now) (ha : ∀ x ∈ S.a, (Lit.int .u64 x).wf = true) : ∀ x ∈ S'.a, (Lit.int .u64 x).wf = true := ((cleaned_of h.is).wf h.is ha).1

theorem stcheck_any (A : Option Addr) (n c : Nat) (RA : Option Addr) (rn rc : Nat) (PA : Option Addr) (pn pc : Nat) (HA : Option Addr) (hn hc : Nat) (S : St) (w : World)
    (hR : StR w w.heap.size A n RA rn PA pn HA hn S) (hK : StK n c rn pn hn S) :
    Calls Try.prog 25 #[.agg #[.slice A n c, .slice RA rn rc, .slice PA pn pc, .slice HA hn hc]] w fun e w' => e = .returned (.int .i64 (stE S)) ∧ Below w.heap.size w w' :=
  storeCheck_any A n c RA rn rc PA pn pc HA hn hc S.a S.r S.p S.l w hR.a hK.cap hK.wf hR.r hR.p hR.l hK.rn hK.pn

theorem coll_any (A : Option Addr) (n c : Nat) (RA : Option Addr) (rn rc : Nat) (PA : Option Addr) (pn pc : Nat) (HA : Option Addr) (hn hc : Nat) (S : St) (w : World)
    (hR : StR w w.heap.size A n RA rn PA pn HA hn S) (hK : StK n c rn pn hn S) (hOK : StOk S) :
    Calls Try.prog 26 #[.agg #[.slice A n c, .slice RA rn rc, .slice PA pn pc, .slice HA hn hc]] w fun e w' => Below w.heap.size w w' ∧ ∃ (S' : St) (fr : Int) (L Y now : List Int) (A1 : Option Addr) (c1 : Nat) (A2 : Option Addr) (c2 : Nat) (A3 : Option Addr) (c3 : Nat) (A4 : Option Addr) (c4 : Nat),
      Coll S S' fr L Y now ∧ e = .returned (.tuple #[.agg #[.slice A1 n c1, .slice A2 rn c2, .slice A3 pn c3, .slice A4 hn c4], .int .i64 fr]) ∧
      StO w' w.heap.size A1 n c1 A2 rn c2 A3 pn c3 A4 hn c4 S' := by
  refine (collect_ok A n c RA rn rc PA pn pc HA hn hc S.a S.r S.p S.l w hR.a hK.cap hK.max hK.wf hR.r hR.p hR.l hOK).mono ?_
  rintro e w' ⟨hb, L, Y, b, now, A1, c1, A2, c2, A3, c3, A4, c4, hI, rfl, o1, o2, o3, o4⟩
  refine ⟨hb, ⟨b, _, _, _⟩, _, L, Y, now, A1, c1, A2, c2, A3, c3, A4, c4, ⟨hI, ?_, rfl, rfl, rfl⟩, rfl, ⟨o1, o2, o3, o4⟩⟩
  rw [hR.lens.1]
  rfl

set_option maxRecDepth 100000 in
set_option maxHeartbeats 2000000 in
theorem collectFn_any (A : Option Addr) (n c : Nat) (RA : Option Addr) (rn rc : Nat) (PA : Option Addr) (pn pc : Nat) (HA : Option Addr) (hn hc : Nat) (S : St) (w : World)
    (hR : StR w w.heap.size A n RA rn PA pn HA hn S) (hK : StK n c rn pn hn S) :
    Calls Try.prog 13 #[.agg #[.slice A n c, .slice RA rn rc, .slice PA pn pc, .slice HA hn hc]] w fun e w' => Below w.heap.size w w' ∧
      ((StOk S ∧ ∃ (S' : St) (fr : Int) (L Y now : List Int) (A1 : Option Addr) (c1 : Nat) (A2 : Option Addr) (c2 : Nat) (A3 : Option Addr) (c3 : Nat) (A4 : Option Addr) (c4 : Nat),
        Coll S S' fr L Y now ∧ e = .returned (.tuple #[.agg #[.slice A1 n c1, .slice A2 rn c2, .slice A3 pn c3, .slice A4 hn c4], .int .i64 fr, .int .i64 0]) ∧
        StO w' w.heap.size A1 n c1 A2 rn c2 A3 pn c3 A4 hn c4 S') ∨
       (stE S ≠ 0 ∧ e = .returned (.tuple #[.agg #[.slice none 0 0, .slice none 0 0, .slice none 0 0, .slice none 0 0], .int .i64 0, .int .i64 (stE S)]))) := by
  have HCk := Lib.hid (fun w hR => stcheck_any A n c RA rn rc PA pn pc HA hn hc S w hR hK)
  have HCo := Lib.hid (fun w hR hOK => coll_any A n c RA rn rc PA pn pc HA hn hc S w hR hK hOK)
  have HE := Lib.hid (@stE_ok S)
  generalize stE S = E at *
  have hb0 := below_new w (.cells #[.slice A n c, .slice RA rn rc, .slice PA pn pc, .slice HA hn hc] 28)
  have hb1 := hb0.alloc hb0.size (.cells #[.slice none 0 0, .slice none 0 0, .slice none 0 0, .slice none 0 0] 28)
  have DS := (Blk.new w 28 #[.slice A n c, .slice RA rn rc, .slice PA pn pc, .slice HA hn hc]).alloc (.cells #[.slice none 0 0, .slice none 0 0, .slice none 0 0, .slice none 0 0] 28)
  have DR := Blk.new (w.alloc (.cells #[.slice A n c, .slice RA rn rc, .slice PA pn pc, .slice HA hn hc] 28)) 28 #[.slice none 0 0, .slice none 0 0, .slice none 0 0, .slice none 0 0]
  rw [World.size_alloc] at DR
  obtain ⟨s0, s1, s2, s3⟩ := DS.four
  clear hb0
  go_enter Try.func13, Try.ntmps13
  go_wp2_with fail
  refine (HCk.out _ ((hR.below hb1).more hb1.size)).mono ?_
  rintro e w2 ⟨rfl, hb2⟩
  have DS := DS.below hb2 DS.lt
  have DR := DR.below hb2 DR.lt
  have hb02 := below_step hb1 hb2
  obtain ⟨s0, s1, s2, s3⟩ := DS.four
  obtain ⟨r0, r1, r2, r3⟩ := DR.four
  have f0 := DR.frozen 0
  have f1 := DR.frozen 1
  have f2 := DR.frozen 2
  have f3 := DR.frozen 3
  clear hb1 hb2
  by_cases h0 : E = 0
  · subst h0
    have hOK := HE.out.1 rfl
    go_wp2_with fail
    refine (HCo.out _ ((hR.below hb02).more hb02.size) hOK).mono ?_
    rintro e w3 ⟨hb3, S', fr, L, Y, now, A1, c1, A2, c2, A3, c3, A4, c4, hC, rfl, hO⟩
    have hb03 := (below_step hb02 hb3)
    have hb04 := hb03.alloc hb03.size (.cells #[.slice A1 n c1, .slice A2 rn c2, .slice A3 pn c3, .slice A4 hn c4] 28)
    have DG := Blk.new w3 28 #[.slice A1 n c1, .slice A2 rn c2, .slice A3 pn c3, .slice A4 hn c4]
    have DR := (DR.below hb3 DR.lt).alloc (.cells #[.slice A1 n c1, .slice A2 rn c2, .slice A3 pn c3, .slice A4 hn c4] 28)
    obtain ⟨r0, r1, r2, r3⟩ := DR.four
    obtain ⟨o0, o1, o2, o3⟩ := DG.four
    have f0 := DR.frozen 0
    have f1 := DR.frozen 1
    have f2 := DR.frozen 2
    have f3 := DR.frozen 3
    have HO := Lib.hid (((hO.mono hb02.size).below (below_new w3 (.cells #[.slice A1 n c1, .slice A2 rn c2, .slice A3 pn c3, .slice A4 hn c4] 28))).store DR)
    have HC := Lib.hid hC
    clear s0 s1 s2 s3 hO hC
    go_wp2_with fail
    have z4 := (((DR.set_ 0 (.slice A1 n c1)).set_ 1 (.slice A2 rn c2)).set_ 2 (.slice A3 pn c3)).set_ 3 (.slice A4 hn c4)
    refine bodyPost_ret (v := .tuple #[.agg #[.slice A1 n c1, .slice A2 rn c2, .slice A3 pn c3, .slice A4 hn c4], .int .i64 fr, .int .i64 0]) ?_ rfl ⟨?_, .inl ⟨hOK, S', fr, L, Y, now, A1, c1, A2, c2, A3, c3, A4, c4, HC.out, rfl, HO.out _ _ _ _⟩⟩
    · obtain ⟨z0, z1, z2, z3⟩ := z4.four
      simp only [results, Try.results13]
      go_simp
    · exact (((hb04.setCell (p := ⟨w.heap.size + 1, 0, none⟩) (Nat.le_succ _) _).setCell (p := ⟨w.heap.size + 1, 1, none⟩) (Nat.le_succ _) _).setCell (p := ⟨w.heap.size + 1, 2, none⟩) (Nat.le_succ _) _).setCell (p := ⟨w.heap.size + 1, 3, none⟩) (Nat.le_succ _) _
  · have g1 : (E != 0) = true := by simpa using h0
    go_wp2_with fail
    have z4 := (((DR.set_ 0 (.slice none 0 0)).set_ 1 (.slice none 0 0)).set_ 2 (.slice none 0 0)).set_ 3 (.slice none 0 0)
    refine bodyPost_ret (v := .tuple #[.agg #[.slice none 0 0, .slice none 0 0, .slice none 0 0, .slice none 0 0], .int .i64 0, .int .i64 E]) ?_ rfl ⟨?_, .inr ⟨h0, rfl⟩⟩
    · obtain ⟨z0, z1, z2, z3⟩ := z4.four
      simp only [results, Try.results13]
      go_simp
    · exact (((hb02.setCell (p := ⟨w.heap.size + 1, 0, none⟩) (Nat.le_succ _) _).setCell (p := ⟨w.heap.size + 1, 1, none⟩) (Nat.le_succ _) _).setCell (p := ⟨w.heap.size + 1, 2, none⟩) (Nat.le_succ _) _).setCell (p := ⟨w.heap.size + 1, 3, none⟩) (Nat.le_succ _) _
end Go.Proofs.Ytbhbgdlnfobjaaa

/-
  package hold: free, asked, Live, Sure, Never, Widest.
-/
namespace Go.Proofs.Ytbhbgdlnfobjaaa
open Go.RowKit

theorem longW_nn {a : List Int} (h : checkE a = 0) {x : Int} (hx : x ∈ begsL (spotsL a)) : 0 ≤ longW (spotsL a) x := by
  obtain ⟨s, hs⟩ := begsL_iff.1 hx
  have h1 := ((parse_mem (parse_ok (checkE_ok.1 h).1).2) s (spotAt_some hs).1).1
  unfold longW
  rw [hs]
  have := h1.r0
  have := h1.b0
  simp only [Spot.long]
  omega
theorem longs_nn {S : List Spot} {l : List Int} (h : ∀ x ∈ l, 0 ≤ longW S x) : 0 ≤ longsL S l := by
  induction l with
  | nil => simp [longsL]
  | cons x l ih =>
    have h1 := h x List.mem_cons_self
    have h2 := ih (fun y hy => h y (List.mem_cons_of_mem _ hy))
    simp only [longsL]
    omega
theorem Coll.free {S S' : St} {fr : Int} {L Y now : List Int} (h : Coll S S' fr L Y now) : 0 ≤ fr ∧ fr ≤ S.a.length ∧ S.a.length ≤ 256 ∧ fr + longsL (spotsL S.a) L = S.a.length ∧ fr = rsum (ggL S'.a) ∧ (∀ r ∈ ggL S'.a, 0 ≤ r.len ∧ r.len ≤ 256) ∧ (ggL S'.a).length ≤ S.p.length + 1 ∧ (ggL S'.a).length ≤ 257 := by
  obtain ⟨g1, g2, g3, g4, g5⟩ := (cleaned_of h.is).gaps h.is
  have h1 := longs_nn (S := spotsL S.a) (l := L) (fun x hx => longW_nn h.is.check (h.is.reached.begs x hx))
  have h2 := rsum_takeG g3 (ggL S'.a).length (Nat.le_refl _)
  rw [List.take_length] at h2
  have h3 := h.fr
  unfold freeL at h3
  unfold pinsL at g4
  rw [List.length_map] at g4
  exact ⟨by omega, by omega, (cleaned_of h.is).len256, by omega, h3, g3, g4, g5⟩

set_option maxRecDepth 100000 in
set_option maxHeartbeats 2000000 in
theorem hfree_any (A : Option Addr) (n c : Nat) (RA : Option Addr) (rn rc : Nat) (PA : Option Addr) (pn pc : Nat) (HA : Option Addr) (hn hc : Nat) (S : St) (w : World) (hR : StR w w.heap.size A n RA rn PA pn HA hn S) (hK : StK n c rn pn hn S) :
    Calls Try.prog 24 #[.agg #[.slice A n c, .slice RA rn rc, .slice PA pn pc, .slice HA hn hc]] w fun e w' => Below w.heap.size w w' ∧
      ((StOk S ∧ ∃ (S' : St) (fr : Int) (L Y now : List Int) (A1 : Option Addr) (c1 : Nat), Coll S S' fr L Y now ∧ e = .returned (.tuple #[.int .i64 fr, .slice A1 (ggL S'.a).length c1, .int .i64 0]) ∧
        w'.ownsRow w.heap.size 58 2 (.slice A1 (ggL S'.a).length c1) (ggL S'.a).length (runsC (ggL S'.a))) ∨
       (stE S ≠ 0 ∧ e = .returned (.tuple #[.int .i64 0, .slice none 0 0, .int .i64 (stE S)]))) := by
  have HCo := Lib.hid (fun w hR => collectFn_any A n c RA rn rc PA pn pc HA hn hc S w hR hK)
  have HE := Lib.hid (@stE_ok S)
  generalize stE S = E at *
  have hb1 := below_new w (.cells #[.slice A n c, .slice RA rn rc, .slice PA pn pc, .slice HA hn hc] 28)
  have DS := Blk.new w 28 #[.slice A n c, .slice RA rn rc, .slice PA pn pc, .slice HA hn hc]
  obtain ⟨s0, s1, s2, s3⟩ := DS.four
  go_enter Try.func24, Try.ntmps24
  go_wp2_with fail
  refine (HCo.out _ ((hR.below hb1).more hb1.size)).mono ?_
  rintro e w2 ⟨hb2, ⟨hOK, S', fr, L, Y, now, A1, c1, A2, c2, A3, c3, A4, c4, hC, rfl, hO⟩ | ⟨h0, rfl⟩⟩
  · have hb02 := below_step hb1 hb2
    have hb03 := hb02.alloc hb02.size (.cells #[.slice A1 n c1, .slice A2 rn c2, .slice A3 pn c3, .slice A4 hn c4] 28)
    have DG := Blk.new w2 28 #[.slice A1 n c1, .slice A2 rn c2, .slice A3 pn c3, .slice A4 hn c4]
    obtain ⟨o0, o1, o2, o3⟩ := DG.four
    have HGp := Lib.hid (fun w hr => ggapsE_any A1 n c1 S'.a w hr (own_cap hO.a) (hC.wf hK.wf))
    have hrB := Reads.of_own (own_below hO.a (below_new w2 (.cells #[.slice A1 n c1, .slice A2 rn c2, .slice A3 pn c3, .slice A4 hn c4] 28)))
    obtain ⟨G, hG⟩ : ∃ G, G = ggL S'.a := ⟨_, rfl⟩
    have HG := Lib.hid hG
    rw [← hG] at HGp
    have HC := Lib.hid hC
    clear s0 s1 s2 s3 hO hC hG
    go_wp2_with fail
    refine (HGp.out _ hrB).mono ?_
    rintro e w4 ⟨hb4, A5, c5, rfl, hown⟩
    have hb04 := below_step hb03 hb4
    have HOW := Lib.hid (own_mono hown hb03.size)
    clear hown
    obtain ⟨g, hg⟩ : ∃ g, g = G.length := ⟨_, rfl⟩
    rw [← hg] at HOW
    have HGL := Lib.hid hg
    rw [← hg]
    clear hg
    go_wp2_with fail
    go_ret3
    refine ⟨hb04, .inl ⟨hOK, S', fr, L, Y, now, A5, c5, HC.out, ?_, ?_⟩⟩
    · rw [← HG.out, ← HGL.out]; rfl
    · rw [← HG.out, ← HGL.out]
      exact HOW.out
  · have g1 : (E != 0) = true := by simpa using h0
    have hb02 := (below_step hb1 hb2)
    have hb03 := hb02.alloc hb02.size (.cells #[.slice none 0 0, .slice none 0 0, .slice none 0 0, .slice none 0 0] 28)
    go_wp2_with fail
    go_ret3
    exact ⟨hb03, .inr ⟨h0, rfl⟩⟩

def argE (N : Int) : Int := if N < 1 ∨ 256 < N then 1 else 0
set_option maxRecDepth 100000 in
set_option maxHeartbeats 2000000 in
theorem asked_any (A : Option Addr) (n c : Nat) (RA : Option Addr) (rn rc : Nat) (PA : Option Addr) (pn pc : Nat) (HA : Option Addr) (hn hc : Nat) (S : St) (N : Int) (w : World) (hR : StR w w.heap.size A n RA rn PA pn HA hn S) (hK : StK n c rn pn hn S) :
    Calls Try.prog 21 #[.agg #[.slice A n c, .slice RA rn rc, .slice PA pn pc, .slice HA hn hc], .int .i64 N] w fun e w' => Below w.heap.size w w' ∧
      ((StOk S ∧ ∃ (S' : St) (fr : Int) (L Y now : List Int), Coll S S' fr L Y now ∧ e = .returned (.tuple #[.int .i64 fr, .int .i64 (argE N)])) ∨
       (stE S ≠ 0 ∧ e = .returned (.tuple #[.int .i64 0, .int .i64 (stE S)]))) := by
  have HF := Lib.hid (fun w hR => hfree_any A n c RA rn rc PA pn pc HA hn hc S w hR hK)
  generalize stE S = E at *
  have hb1 := below_new w (.cells #[.slice A n c, .slice RA rn rc, .slice PA pn pc, .slice HA hn hc] 28)
  have DS := Blk.new w 28 #[.slice A n c, .slice RA rn rc, .slice PA pn pc, .slice HA hn hc]
  obtain ⟨s0, s1, s2, s3⟩ := DS.four
  go_enter Try.func21, Try.ntmps21
  go_wp2_with fail
  refine (HF.out _ ((hR.below hb1).more hb1.size)).mono ?_
  rintro e w2 ⟨hb2, ⟨hOK, S', fr, L, Y, now, A1, c1, hC, rfl, hO⟩ | ⟨h0, rfl⟩⟩
  · have hb02 := below_step hb1 hb2
    have HC := Lib.hid hC
    generalize (ggL S'.a).length = g at *
    clear s0 s1 s2 s3 hC hO
    by_cases h1 : N < 1
    · have g1 : decide (N < 1) = true := decide_eq_true h1
      have HAr : Hid (argE N = 1) := by show _ = _; unfold argE; rw [if_pos (.inl h1)]
      clear h1
      go_wp2_with fail
      go_ret2
      exact ⟨hb02, .inl ⟨hOK, S', fr, L, Y, now, HC.out, by rw [HAr.out]; rfl⟩⟩
    · have g1 : decide (N < 1) = false := decide_eq_false h1
      by_cases h2 : 256 < N
      · have g2 : decide (256 < N) = true := decide_eq_true h2
        have HAr : Hid (argE N = 1) := by show _ = _; unfold argE; rw [if_pos (.inr h2)]
        clear h1 h2
        go_wp2_with fail
        go_ret2
        exact ⟨hb02, .inl ⟨hOK, S', fr, L, Y, now, HC.out, by rw [HAr.out]; rfl⟩⟩
      · have g2 : decide (256 < N) = false := decide_eq_false h2
        have HAr : Hid (argE N = 0) := by show _ = _; unfold argE; rw [if_neg (by omega)]
        clear h1 h2
        go_wp2_with fail
        go_ret2
        exact ⟨hb02, .inl ⟨hOK, S', fr, L, Y, now, HC.out, by rw [HAr.out]; rfl⟩⟩
  · have g1 : (E == 0) = false := by simpa using h0
    have hb02 := (below_step hb1 hb2)
    clear s0 s1 s2 s3
    go_wp2_with fail
    go_ret2
    exact ⟨hb02, .inr ⟨h0, rfl⟩⟩

def NeverRet (S : St) (N : Int) (e : Ending) : Prop := ∃ (S' : St) (fr : Int) (L Y now : List Int), Coll S S' fr L Y now ∧ e = .returned (.tuple #[.bool (decide (argE N = 0) && decide (fr < N)), .int .i64 (argE N)])
def SureRet (S : St) (pn : Nat) (N : Int) (e : Ending) : Prop := ∃ (S' : St) (fr : Int) (L Y now : List Int), Coll S S' fr L Y now ∧ e = .returned (.tuple #[.bool (decide (argE N = 0) && decide ((pn + 1) * N ≤ fr)), .int .i64 (argE N)])
set_option maxRecDepth 100000 in
set_option maxHeartbeats 2000000 in
theorem never_any (A : Option Addr) (n c : Nat) (RA : Option Addr) (rn rc : Nat) (PA : Option Addr) (pn pc : Nat) (HA : Option Addr) (hn hc : Nat) (S : St) (N : Int) (w : World) (hR : StR w w.heap.size A n RA rn PA pn HA hn S) (hK : StK n c rn pn hn S) :
    Calls Try.prog 9 #[.agg #[.slice A n c, .slice RA rn rc, .slice PA pn pc, .slice HA hn hc], .int .i64 N] w fun e w' => Below w.heap.size w w' ∧
      ((StOk S ∧ NeverRet S N e) ∨
       (stE S ≠ 0 ∧ e = .returned (.tuple #[.bool false, .int .i64 (stE S)]))) := by
  have HF := Lib.hid (fun w hR => asked_any A n c RA rn rc PA pn pc HA hn hc S N w hR hK)
  generalize stE S = E at *
  obtain ⟨F, hF⟩ : ∃ F, F = argE N := ⟨_, rfl⟩
  rw [← hF] at HF
  have HFF := Lib.hid hF
  clear hF
  have hb1 := below_new w (.cells #[.slice A n c, .slice RA rn rc, .slice PA pn pc, .slice HA hn hc] 28)
  have DS := Blk.new w 28 #[.slice A n c, .slice RA rn rc, .slice PA pn pc, .slice HA hn hc]
  obtain ⟨s0, s1, s2, s3⟩ := DS.four
  go_enter Try.func9, Try.ntmps9
  go_wp2_with fail
  refine (HF.out _ ((hR.below hb1).more hb1.size)).mono ?_
  rintro e w2 ⟨hb2, ⟨hOK, S', fr, L, Y, now, hC, rfl⟩ | ⟨h0, rfl⟩⟩
  · have hb02 := below_step hb1 hb2
    have HC := Lib.hid hC
    have HOK := Lib.hid hOK
    clear s0 s1 s2 s3 hC hOK
    by_cases h1 : F = 0
    · subst h1
      go_wp2_with fail
      go_ret2
      exact ⟨hb02, .inl ⟨HOK.out, S', fr, L, Y, now, HC.out, by rw [← HFF.out]; simp⟩⟩
    · have g1 : (F == 0) = false := by simpa using h1
      have HN : Hid (decide (F = 0) = false) := decide_eq_false h1
      clear h1
      go_wp2_with fail
      go_ret2
      exact ⟨hb02, .inl ⟨HOK.out, S', fr, L, Y, now, HC.out, by rw [← HFF.out, HN.out]; rfl⟩⟩
  · have g1 : (E == 0) = false := by simpa using h0
    have hb02 := (below_step hb1 hb2)
    clear s0 s1 s2 s3
    go_wp2_with fail
    go_ret2
    exact ⟨hb02, .inr ⟨h0, rfl⟩⟩

set_option maxRecDepth 100000 in
set_option maxHeartbeats 2000000 in
theorem sure_any (A : Option Addr) (n c : Nat) (RA : Option Addr) (rn rc : Nat) (PA : Option Addr) (pn pc : Nat) (HA : Option Addr) (hn hc : Nat) (S : St) (N : Int) (w : World) (hR : StR w w.heap.size A n RA rn PA pn HA hn S) (hK : StK n c rn pn hn S) :
    Calls Try.prog 8 #[.agg #[.slice A n c, .slice RA rn rc, .slice PA pn pc, .slice HA hn hc], .int .i64 N] w fun e w' => Below w.heap.size w w' ∧
      ((StOk S ∧ SureRet S pn N e) ∨
       (stE S ≠ 0 ∧ e = .returned (.tuple #[.bool false, .int .i64 (stE S)]))) := by
  have HF := Lib.hid (fun w hR => asked_any A n c RA rn rc PA pn pc HA hn hc S N w hR hK)
  have HPn : Hid (StOk S → pn ≤ 16) := fun h => by have := h.pins.len; have := hR.lens.2.2.1; omega
  generalize stE S = E at *
  obtain ⟨F, hF⟩ : ∃ F, F = argE N := ⟨_, rfl⟩
  rw [← hF] at HF
  have HFF := Lib.hid hF
  clear hF
  have hb1 := below_new w (.cells #[.slice A n c, .slice RA rn rc, .slice PA pn pc, .slice HA hn hc] 28)
  have DS := Blk.new w 28 #[.slice A n c, .slice RA rn rc, .slice PA pn pc, .slice HA hn hc]
  obtain ⟨s0, s1, s2, s3⟩ := DS.four
  go_enter Try.func8, Try.ntmps8
  go_wp2_with fail
  refine (HF.out _ ((hR.below hb1).more hb1.size)).mono ?_
  rintro e w2 ⟨hb2, ⟨hOK, S', fr, L, Y, now, hC, rfl⟩ | ⟨h0, rfl⟩⟩
  · have hb02 := below_step hb1 hb2
    have DS := DS.below hb2 DS.lt
    obtain ⟨s0, s1, s2, s3⟩ := DS.four
    have HC := Lib.hid hC
    have HOK := Lib.hid hOK
    have hp := HPn.out hOK
    clear hC hOK
    by_cases h1 : F = 0
    · subst h1
      have hN : 1 ≤ N ∧ N ≤ 256 := by
        have := HFF.out
        unfold argE at this
        split at this <;> omega
      obtain ⟨k, rfl⟩ : ∃ k : Nat, N = k := ⟨N.toNat, by omega⟩
      obtain ⟨q, hq⟩ : ∃ q : Nat, q = pn + 1 := ⟨_, rfl⟩
      obtain ⟨z, hz⟩ : ∃ z : Nat, z = q * k := ⟨_, rfl⟩
      have hz1 : z ≤ 17 * 256 := by rw [hz]; exact Nat.mul_le_mul (by omega) (by omega)
      have hw1 : IntKind.i64.wrap ((pn : Int) + 1) = q := IntWalk.i64_in _ (by omega) |>.trans (by omega)
      have hw2 : IntKind.i64.wrap ((q : Int) * k) = z := (by rw [hz]; exact_mod_cast IntWalk.i64_in _ (by omega))
      have HZ : Hid (((pn : Int) + 1) * k = z) := by show _ = _; rw [hz, hq]; simp
      clear hq hz
      go_wp2_with fail
      go_ret2
      refine ⟨hb02, .inl ⟨HOK.out, S', fr, L, Y, now, HC.out, ?_⟩⟩
      rw [← HFF.out, HZ.out]
      simp
    · have g1 : (F == 0) = false := by simpa using h1
      have HN : Hid (decide (F = 0) = false) := decide_eq_false h1
      clear h1
      go_wp2_with fail
      go_ret2
      exact ⟨hb02, .inl ⟨HOK.out, S', fr, L, Y, now, HC.out, by rw [← HFF.out, HN.out]; rfl⟩⟩
  · have g1 : (E == 0) = false := by simpa using h0
    have hb02 := (below_step hb1 hb2)
    clear s0 s1 s2 s3
    go_wp2_with fail
    go_ret2
    exact ⟨hb02, .inr ⟨h0, rfl⟩⟩

set_option maxRecDepth 100000 in
set_option maxHeartbeats 2000000 in
theorem live_any (A : Option Addr) (n c : Nat) (RA : Option Addr) (rn rc : Nat) (PA : Option Addr) (pn pc : Nat) (HA : Option Addr) (hn hc : Nat) (S : St) (w : World) (hR : StR w w.heap.size A n RA rn PA pn HA hn S) (hK : StK n c rn pn hn S) :
    Calls Try.prog 11 #[.agg #[.slice A n c, .slice RA rn rc, .slice PA pn pc, .slice HA hn hc]] w fun e w' => Below w.heap.size w w' ∧
      ((StOk S ∧ ∃ (S' : St) (fr : Int) (L Y now : List Int), Coll S S' fr L Y now ∧ e = .returned (.tuple #[.int .i64 (n - fr), .int .i64 0])) ∨
       (stE S ≠ 0 ∧ e = .returned (.tuple #[.int .i64 0, .int .i64 (stE S)]))) := by
  have HF := Lib.hid (fun w hR => hfree_any A n c RA rn rc PA pn pc HA hn hc S w hR hK)
  have HL := Lib.hid hR.lens.1
  generalize stE S = E at *
  have hb1 := below_new w (.cells #[.slice A n c, .slice RA rn rc, .slice PA pn pc, .slice HA hn hc] 28)
  have DS := Blk.new w 28 #[.slice A n c, .slice RA rn rc, .slice PA pn pc, .slice HA hn hc]
  obtain ⟨s0, s1, s2, s3⟩ := DS.four
  go_enter Try.func11, Try.ntmps11
  go_wp2_with fail
  refine (HF.out _ ((hR.below hb1).more hb1.size)).mono ?_
  rintro e w2 ⟨hb2, ⟨hOK, S', fr, L, Y, now, A1, c1, hC, rfl, hO⟩ | ⟨h0, rfl⟩⟩
  · have hb02 := below_step hb1 hb2
    have DS := DS.below hb2 DS.lt
    obtain ⟨s0, s1, s2, s3⟩ := DS.four
    obtain ⟨f0, f1, f2, -⟩ := hC.free
    have HC := Lib.hid hC
    rw [HL.out] at f1 f2
    have hw : IntKind.i64.wrap ((n : Int) - fr) = n - fr := IntWalk.i64_in _ (by omega)
    generalize (ggL S'.a).length = g at *
    clear hC hO
    go_wp2_with fail
    go_ret2
    exact ⟨hb02, .inl ⟨hOK, S', fr, L, Y, now, HC.out, rfl⟩⟩
  · have g1 : (E != 0) = true := by simpa using h0
    have hb02 := (below_step hb1 hb2)
    clear s0 s1 s2 s3
    go_wp2_with fail
    go_ret2
    exact ⟨hb02, .inr ⟨h0, rfl⟩⟩

def mostL : Int → List Rn → Int
  | m, [] => m
  | m, r :: l => mostL (max m r.len) l
theorem mostL_snoc (l : List Rn) (r : Rn) : ∀ m, mostL m (l ++ [r]) = max (mostL m l) r.len := by
  induction l with
  | nil => intro m; rfl
  | cons x l ih => intro m; exact ih _
set_option maxRecDepth 100000 in
set_option maxHeartbeats 2000000 in
theorem widest_any (A : Option Addr) (n c : Nat) (RA : Option Addr) (rn rc : Nat) (PA : Option Addr) (pn pc : Nat) (HA : Option Addr) (hn hc : Nat) (S : St) (w : World) (hR : StR w w.heap.size A n RA rn PA pn HA hn S) (hK : StK n c rn pn hn S) :
    Calls Try.prog 12 #[.agg #[.slice A n c, .slice RA rn rc, .slice PA pn pc, .slice HA hn hc]] w fun e w' => Below w.heap.size w w' ∧
      ((StOk S ∧ ∃ (S' : St) (fr : Int) (L Y now : List Int), Coll S S' fr L Y now ∧ e = .returned (.tuple #[.int .i64 (mostL 0 (ggL S'.a)), .int .i64 0])) ∨
       (stE S ≠ 0 ∧ e = .returned (.tuple #[.int .i64 0, .int .i64 (stE S)]))) := by
  have HF := Lib.hid (fun w hR => hfree_any A n c RA rn rc PA pn pc HA hn hc S w hR hK)
  generalize stE S = E at *
  have hb1 := below_new w (.cells #[.slice A n c, .slice RA rn rc, .slice PA pn pc, .slice HA hn hc] 28)
  have DS := Blk.new w 28 #[.slice A n c, .slice RA rn rc, .slice PA pn pc, .slice HA hn hc]
  obtain ⟨s0, s1, s2, s3⟩ := DS.four
  go_enter Try.func12, Try.ntmps12
  go_wp2_with fail
  refine (HF.out _ ((hR.below hb1).more hb1.size)).mono ?_
  rintro e w2 ⟨hb2, ⟨hOK, S', fr, L, Y, now, A1, c1, hC, rfl, hO⟩ | ⟨h0, rfl⟩⟩
  · have hb02 := below_step hb1 hb2
    obtain ⟨-, -, -, -, -, -, -, hg257⟩ := hC.free
    have HC := Lib.hid hC
    have hrG := Reads.of_own hO
    obtain ⟨G, hG⟩ : ∃ G, G = ggL S'.a := ⟨_, rfl⟩
    rw [← hG] at hrG hg257 ⊢
    have HG := Lib.hid hG
    obtain ⟨g, hg⟩ : ∃ g, g = G.length := ⟨_, rfl⟩
    rw [← hg] at hrG hg257 ⊢
    have HGL := Lib.hid hg
    clear s0 s1 s2 s3 hC hO hG hg
    go_wp2_with fail
    go_loopw [18, 7] (fun i m wr => ∃ (j : Nat) (u : Int), j ≤ g ∧ i = .int .i64 j ∧ m = .int .i64 u ∧ Hid (u = mostL 0 (G.take j)) ∧ Below w2.heap.size w2 wr) (fun i _ _ => g - (intOf i).toNat)
    case atStart => exact ⟨0, 0, Nat.zero_le _, rfl, rfl, by show _ = _; simp [mostL], Below.refl _ _⟩
    case round =>
      obtain ⟨j, u, hj, rfl, rfl, hu, hbr⟩ := hrel
      by_cases hlt : j < g
      · obtain ⟨ad, r, rfl, had, hs, c0, c1⟩ := (hrG.below hbr).run hlt
        have HT : Hid (mostL 0 (G.take (j + 1)) = max u r.len) := by
          show _ = _
          obtain ⟨h1, rfl⟩ := List.getElem?_eq_some_iff.1 hs
          rw [List.take_succ_eq_append_getElem h1, mostL_snoc, hu.out]
        obtain ⟨lo, k⟩ := r
        dsimp only at *
        have hj1 : j + 1 ≤ g := hlt
        have hbx := hbr.alloc hbr.size (.cells #[.int .i64 lo, .int .i64 k] 58)
        clear hs
        go_wp2_with fail
        go_roundw
        case rel => exact ⟨j + 1, max u k, hj1, by go_num, by first | rfl | simp [Int.max_def], HT.out.symm, hbx⟩
        case measure => simp [intOf]; omega
      · have hjg : j = g := by omega
        subst hjg
        rw [List.take_of_length_le (by rw [← HGL.out]; exact Nat.le_refl _)] at hu
        have hb03 := below_step hb02 hbr
        go_wp2_with fail
        go_ret2
        exact ⟨hb03, .inl ⟨hOK, S', fr, L, Y, now, HC.out, by rw [← HG.out, ← hu.out]; rfl⟩⟩
  · have hb02 := (below_step hb1 hb2)
    clear s0 s1 s2 s3
    go_wp2_with fail
    go_loopw [18, 7] (fun i m wr => i = .int .i64 0 ∧ m = .int .i64 0 ∧ Below w.heap.size w wr) (fun _ _ _ => 0)
    case atStart => exact ⟨rfl, rfl, hb02⟩
    case round =>
      obtain ⟨rfl, rfl, hbr⟩ := hrel
      go_wp2_with fail
      go_ret2
      exact ⟨hbr, .inr ⟨h0, rfl⟩⟩
end Go.Proofs.Ytbhbgdlnfobjaaa

/-
  package hold: Sure, Never over one number of free words; the laws' closed fact 'holds'.
-/
namespace Go.Proofs.Ytbhbgdlnfobjaaa
open Go.RowKit

open Classical in
/-- The words that are free behind a collection. -/
noncomputable def roomOf (S : St) : Int := if h : ∃ fr, ∃ (S' : St) (L Y now : List Int), Coll S S' fr L Y now then h.choose else 0
theorem Coll.room {S S' : St} {fr : Int} {L Y now : List Int} (h : Coll S S' fr L Y now) : roomOf S = fr := by
  have hx : ∃ fr, ∃ (S' : St) (L Y now : List Int), Coll S S' fr L Y now := ⟨_, _, _, _, _, h⟩
  unfold roomOf
  rw [dif_pos hx]
  obtain ⟨S2, L2, Y2, now2, h2⟩ := hx.choose_spec
  exact (h.unique h2).2
def holdE (S : St) (N : Int) : Int := if stE S ≠ 0 then stE S else argE N
noncomputable def neverB (S : St) (N : Int) : Bool := decide (holdE S N = 0) && decide (roomOf S < N)
noncomputable def sureB (S : St) (pn : Nat) (N : Int) : Bool := decide (holdE S N = 0) && decide (((pn : Int) + 1) * N ≤ roomOf S)
theorem holdE_ok {S : St} {N : Int} (h : StOk S) : holdE S N = argE N := by
  unfold holdE
  rw [if_neg (by rw [stE_ok.2 h]; decide)]
theorem holdE_bad {S : St} {N : Int} (h : stE S ≠ 0) : holdE S N = stE S := if_pos h
theorem argE_ok {N : Int} (h : argE N = 0) : 1 ≤ N ∧ N ≤ 256 := by
  unfold argE at h
  split at h <;> omega
theorem holdE_zero {S : St} {N : Int} (h : holdE S N = 0) : StOk S ∧ 1 ≤ N ∧ N ≤ 256 := by
  by_cases h0 : stE S = 0
  · rw [holdE_ok (stE_ok.1 h0)] at h
    exact ⟨stE_ok.1 h0, argE_ok h⟩
  · rw [holdE_bad h0] at h
    exact absurd h h0
theorem hold_falls {S : St} {pn : Nat} {N M : Int} (h1 : holdE S N = 0) (h2 : holdE S M = 0) (h : N ≤ M) : (sureB S pn M = true → sureB S pn N = true) ∧ (neverB S N = true → neverB S M = true) := by
  unfold sureB neverB
  rw [h1, h2]
  simp only [decide_true, Bool.true_and, decide_eq_true_eq]
  constructor
  · intro h3
    have : ((pn : Int) + 1) * N ≤ ((pn : Int) + 1) * M := Int.mul_le_mul_of_nonneg_left h (by omega)
    omega
  · intro h3
    omega

theorem never_room (A : Option Addr) (n c : Nat) (RA : Option Addr) (rn rc : Nat) (PA : Option Addr) (pn pc : Nat) (HA : Option Addr) (hn hc : Nat) (S : St) (N : Int) (w : World)
    (hR : StR w w.heap.size A n RA rn PA pn HA hn S) (hK : StK n c rn pn hn S) :
    Calls Try.prog 9 #[.agg #[.slice A n c, .slice RA rn rc, .slice PA pn pc, .slice HA hn hc], .int .i64 N] w fun e w' => e = .returned (.tuple #[.bool (neverB S N), .int .i64 (holdE S N)]) ∧ Below w.heap.size w w' := by
  refine (never_any A n c RA rn rc PA pn pc HA hn hc S N w hR hK).mono ?_
  rintro e w' ⟨hb, ⟨hOK, S', fr, L, Y, now, hC, rfl⟩ | ⟨h0, rfl⟩⟩
  · refine ⟨?_, hb⟩
    unfold neverB
    rw [holdE_ok hOK, hC.room]
  · refine ⟨?_, hb⟩
    unfold neverB
    rw [holdE_bad h0, decide_eq_false h0]
    rfl
theorem sure_room (A : Option Addr) (n c : Nat) (RA : Option Addr) (rn rc : Nat) (PA : Option Addr) (pn pc : Nat) (HA : Option Addr) (hn hc : Nat) (S : St) (N : Int) (w : World)
    (hR : StR w w.heap.size A n RA rn PA pn HA hn S) (hK : StK n c rn pn hn S) :
    Calls Try.prog 8 #[.agg #[.slice A n c, .slice RA rn rc, .slice PA pn pc, .slice HA hn hc], .int .i64 N] w fun e w' => e = .returned (.tuple #[.bool (sureB S pn N), .int .i64 (holdE S N)]) ∧ Below w.heap.size w w' := by
  refine (sure_any A n c RA rn rc PA pn pc HA hn hc S N w hR hK).mono ?_
  rintro e w' ⟨hb, ⟨hOK, S', fr, L, Y, now, hC, rfl⟩ | ⟨h0, rfl⟩⟩
  · refine ⟨?_, hb⟩
    unfold sureB
    rw [holdE_ok hOK, hC.room]
  · refine ⟨?_, hb⟩
    unfold sureB
    rw [holdE_bad h0, decide_eq_false h0]
    rfl

theorem empty_ok : StOk ⟨[], [], [], []⟩ := by
  refine ⟨by decide, by decide, pinE_ok.1 (by decide), by decide, fun x hx => ?_⟩
  rcases fromL_mem.1 hx with ⟨h, -⟩ | ⟨s, h, -⟩ | ⟨y, h, -⟩ <;> cases h
theorem empty_reads (w : World) : StR w w.heap.size none 0 none 0 none 0 none 0 ⟨[], [], [], []⟩ := ⟨Reads.none_, Reads.none_, Reads.none_, Reads.none_⟩
theorem empty_known : StK 0 0 0 0 0 ⟨[], [], [], []⟩ := ⟨Nat.le_refl _, Nat.zero_le _, (fun x hx => by cases hx), by decide, by decide, by decide⟩
set_option maxHeartbeats 1000000 in
theorem holds_true (w : World) : Calls Try.prog 7 #[] w fun e w' => e = .returned (.bool true) ∧ Below w.heap.size w w' := by
  have H := Lib.hid (never_any none 0 0 none 0 0 none 0 0 none 0 0 ⟨[], [], [], []⟩ 1 w (empty_reads w) empty_known)
  go_enter Try.func7, Try.ntmps7
  go_wp2_with fail
  refine H.out.mono ?_
  rintro e w1 ⟨hb, ⟨hOK, S', fr, L, Y, now, hC, rfl⟩ | ⟨h0, -⟩⟩
  · obtain ⟨h1, h2, -⟩ := hC.free
    have h3 : fr = 0 := by simp only [List.length_nil] at h2; omega
    subst h3
    clear hC h1 h2
    have hx : (decide (argE 1 = 0) && decide ((0 : Int) < 1)) = true := by decide
    rw [hx]
    go_wp2
    go_ret
    exact ⟨by first | rfl | simp, hb⟩
  · exact absurd (stE_ok.2 empty_ok) h0
end Go.Proofs.Ytbhbgdlnfobjaaa

/-
  Plain law: halves: pieces, their check, gaps. No program stands here.
-/
namespace Go.Proofs.Ytbhbgdlnfobjaaa
open Go.RowKit

/-- A room: where, how long, how much of it is used. -/
structure Rm where
  loc : Int
  len : Int
  used : Int
deriving DecidableEq
def roomC (r : Rm) : List Value := [.int .i64 r.loc, .int .i64 r.len, .int .i64 r.used]
def roomsC (l : List Rm) : List Value := l.flatMap roomC
theorem roomsC_length (l : List Rm) : (roomsC l).length = l.length * 3 := flat_length roomC 3 (fun _ => rfl) l
theorem roomsC_one (l : List Rm) : ∀ u ∈ roomsC l, u.oneCell' = true := by
  intro u hu
  obtain ⟨s, _, hs⟩ := List.mem_flatMap.1 hu
  simp only [roomC, List.mem_cons, List.not_mem_nil, or_false] at hs
  rcases hs with rfl | rfl | rfl <;> rfl
theorem Reads.room {w : World} {B : Nat} {A : Option Addr} {n j : Nat} {l : List Rm} (h : Reads w B 3 A n (roomsC l)) (hj : j < n) :
    ∃ ad s, A = some ad ∧ ad.block < B ∧ l[j]? = some s ∧ w.cell? (ad.add (j * 3)) = some (.int .i64 s.loc) ∧
      w.cell? ⟨(ad.add (j * 3)).block, (ad.add (j * 3)).off + 1, none⟩ = some (.int .i64 s.len) ∧
      w.cell? ⟨(ad.add (j * 3)).block, (ad.add (j * 3)).off + 2, none⟩ = some (.int .i64 s.used) := by
  obtain ⟨ad, s, e, hb, hs, c0, cs⟩ := Reads.elem (f := roomC) (k := 3) (fun _ => rfl) h (by decide) hj
  exact ⟨ad, s, e, hb, hs, c0, cs 1 (by decide) (by decide), cs 2 (by decide) (by decide)⟩

/-- The powers of two that a piece may have. -/
def isP (x : Int) : Bool := [1, 2, 4, 8, 16, 32, 64, 128, 256].contains x
theorem isP_pow {x : Int} (h : isP x = true) : ∃ k : Nat, k ≤ 8 ∧ x = ((2 ^ k : Nat) : Int) := by
  unfold isP at h
  simp only [List.contains_eq_mem, List.mem_cons, List.not_mem_nil, or_false, decide_eq_true_eq] at h
  rcases h with rfl | rfl | rfl | rfl | rfl | rfl | rfl | rfl | rfl
  · exact ⟨0, by decide, rfl⟩
  · exact ⟨1, by decide, rfl⟩
  · exact ⟨2, by decide, rfl⟩
  · exact ⟨3, by decide, rfl⟩
  · exact ⟨4, by decide, rfl⟩
  · exact ⟨5, by decide, rfl⟩
  · exact ⟨6, by decide, rfl⟩
  · exact ⟨7, by decide, rfl⟩
  · exact ⟨8, by decide, rfl⟩
theorem isP_of {k : Nat} (h : k ≤ 8) : isP ((2 ^ k : Nat) : Int) = true := by
  have : ∀ k : Fin 9, isP ((2 ^ k.val : Nat) : Int) = true := by decide
  exact this ⟨k, by omega⟩

def pieceB (r : Rm) (all : Nat) : Bool :=
  decide (1 ≤ r.len) && (decide (r.len ≤ all) && (isP r.len && (decide (0 ≤ r.loc) && (decide (r.loc ≤ all - r.len) && (decide (r.loc % r.len = 0) && (decide (r.used ≤ r.len) && decide (r.len / 2 < r.used)))))))
def roomsE (all : Nat) : List Rm → Int → Int
  | [], _ => 0
  | r :: t, e => if pieceB r all = true ∧ e ≤ r.loc then roomsE all t (r.loc + r.len) else 3
def twinE (o : Int) (l : List Rm) : Int := if 0 ≤ o ∧ o ≤ 8 then roomsE (2 ^ o.toNat) l 0 else 4

/-- What a good piece is. -/
theorem pieceB_iff {r : Rm} {o : Nat} (ho : o ≤ 8) : pieceB r (2 ^ o) = true ↔
    ∃ k a u : Nat, k ≤ o ∧ r = ⟨a, ((2 ^ k : Nat) : Int), u⟩ ∧ a + 2 ^ k ≤ 2 ^ o ∧ a % 2 ^ k = 0 ∧ u ≤ 2 ^ k ∧ 2 ^ k / 2 < u := by
  unfold pieceB
  simp only [Bool.and_eq_true, decide_eq_true_eq]
  constructor
  · rintro ⟨h1, h2, h3, h4, h5, h6, h7, h8⟩
    obtain ⟨k, hk, e⟩ := isP_pow h3
    obtain ⟨a, l, u⟩ := r
    dsimp only at *
    subst e
    have hko : 2 ^ k ≤ 2 ^ o := by exact_mod_cast h2
    have hk1 : k ≤ o := (Nat.pow_le_pow_iff_right (by decide)).1 hko
    obtain ⟨A, rfl⟩ : ∃ A : Nat, a = A := ⟨a.toNat, by omega⟩
    have hp : 0 < 2 ^ k := Nat.pos_of_ne_zero (by simp)
    have hu : 0 ≤ u := by
      have : (0 : Int) ≤ ((2 ^ k : Nat) : Int) / 2 := by omega
      omega
    obtain ⟨U, rfl⟩ : ∃ U : Nat, u = U := ⟨u.toNat, by omega⟩
    refine ⟨k, A, U, hk1, rfl, by omega, ?_, by omega, by omega⟩
    exact_mod_cast h6
  · rintro ⟨k, a, u, hk, rfl, h1, h2, h3, h4⟩
    have hp : 0 < 2 ^ k := Nat.pos_of_ne_zero (by simp)
    dsimp only
    refine ⟨by omega, by omega, isP_of (by omega), by omega, by omega, ?_, by omega, by omega⟩
    exact_mod_cast h2

/-- Pieces in order, from e on, within 2 ^ o. -/
def Chain (o : Nat) : Nat → List Rm → Prop
  | _, [] => True
  | e, r :: t => ∃ k a u : Nat, k ≤ o ∧ r = ⟨a, ((2 ^ k : Nat) : Int), u⟩ ∧ a + 2 ^ k ≤ 2 ^ o ∧ a % 2 ^ k = 0 ∧ u ≤ 2 ^ k ∧ 2 ^ k / 2 < u ∧ e ≤ a ∧ Chain o (a + 2 ^ k) t
theorem roomsE_iff {o : Nat} (ho : o ≤ 8) : ∀ {l : List Rm} {e : Nat}, roomsE (2 ^ o) l e = 0 ↔ Chain o e l
  | [], e => by simp [roomsE, Chain]
  | r :: t, e => by
    unfold roomsE Chain
    constructor
    · intro h
      split at h
      · rename_i hc
        obtain ⟨k, a, u, h1, rfl, h2, h3, h4, h5⟩ := (pieceB_iff ho).1 hc.1
        refine ⟨k, a, u, h1, rfl, h2, h3, h4, h5, by have := hc.2; dsimp only at this; omega, ?_⟩
        exact (roomsE_iff ho).1 (by dsimp only at h; exact_mod_cast h)
      · cases h
    · rintro ⟨k, a, u, h1, rfl, h2, h3, h4, h5, h6, h7⟩
      rw [if_pos ⟨(pieceB_iff ho).2 ⟨k, a, u, h1, rfl, h2, h3, h4, h5⟩, by dsimp only; omega⟩]
      have := (roomsE_iff ho).2 h7
      dsimp only
      exact_mod_cast this
theorem twinE_iff {o : Int} {l : List Rm} : twinE o l = 0 ↔ ∃ k : Nat, k ≤ 8 ∧ o = k ∧ Chain k 0 l := by
  unfold twinE
  constructor
  · intro h
    split at h
    · rename_i hc
      obtain ⟨k, rfl⟩ : ∃ k : Nat, o = k := ⟨o.toNat, by omega⟩
      exact ⟨k, by omega, rfl, (roomsE_iff (by omega)).1 (by simpa using h)⟩
    · cases h
  · rintro ⟨k, hk, rfl, h⟩
    rw [if_pos ⟨by omega, by omega⟩]
    have := (roomsE_iff hk).2 h
    simpa using this

theorem Chain.mem {o : Nat} : ∀ {l : List Rm} {e : Nat}, Chain o e l → ∀ r ∈ l, ∃ k a u : Nat, k ≤ o ∧ r = ⟨a, ((2 ^ k : Nat) : Int), u⟩ ∧ a + 2 ^ k ≤ 2 ^ o ∧ a % 2 ^ k = 0 ∧ u ≤ 2 ^ k ∧ 2 ^ k / 2 < u ∧ e ≤ a
  | [], _, _, _, h => by simp at h
  | x :: t, e, hc, r, h => by
    obtain ⟨k, a, u, h1, rfl, h2, h3, h4, h5, h6, h7⟩ := hc
    rcases List.mem_cons.1 h with rfl | h
    · exact ⟨k, a, u, h1, rfl, h2, h3, h4, h5, h6⟩
    · obtain ⟨k', a', u', q1, q2, q3, q4, q5, q6, q7⟩ := h7.mem r h
      exact ⟨k', a', u', q1, q2, q3, q4, q5, q6, by omega⟩
theorem Chain.len {o : Nat} : ∀ {l : List Rm} {e : Nat}, Chain o e l → e ≤ 2 ^ o → e + l.length ≤ 2 ^ o
  | [], _, _, h => by simpa using h
  | x :: t, e, hc, _ => by
    obtain ⟨k, a, u, h1, rfl, h2, h3, h4, h5, h6, h7⟩ := hc
    have := h7.len h2
    have hp : 0 < 2 ^ k := Nat.pos_of_ne_zero (by simp)
    simp only [List.length_cons]
    omega

/-- What meets a stretch. -/
def meetsB (a L : Nat) (r : Rm) : Bool := decide (r.loc < ((a + L : Nat) : Int)) && decide ((a : Int) < r.loc + r.len)
def tgapsL (l : List Rm) : Nat → Nat → List Rn
  | 0, a => if l.any (meetsB a 1) = true then [] else [⟨a, 1⟩]
  | k + 1, a => if l.any (meetsB a (2 ^ (k + 1))) = true then tgapsL l k a ++ tgapsL l k (a + 2 ^ k) else [⟨a, ((2 ^ (k + 1) : Nat) : Int)⟩]
theorem tgapsL_length (l : List Rm) : ∀ k a, (tgapsL l k a).length ≤ 2 ^ k
  | 0, a => by unfold tgapsL; split <;> simp
  | k + 1, a => by
    unfold tgapsL
    have h1 := tgapsL_length l k a
    have h2 := tgapsL_length l k (a + 2 ^ k)
    have hp : 0 < 2 ^ k := Nat.pos_of_ne_zero (by simp)
    have hs : 2 ^ (k + 1) = 2 ^ k + 2 ^ k := by omega
    split
    · rw [List.length_append]; omega
    · simp only [List.length_cons, List.length_nil]; omega
end Go.Proofs.Ytbhbgdlnfobjaaa

/-
  Opening halves (a struct of an int and a slice of rooms) that came in by value.
-/
namespace Go.Proofs.Ytbhbgdlnfobjaaa
open Go.ChangeShapes Go.WideShapes Go.ChangeAt Go.RowKit Go.Joins Go.Deep

instance : Inhabited Rm := ⟨⟨0, 0, 0⟩⟩

theorem open_elemsC {α : Type} [Inhabited α] (f : α → List Value) (k : Nat) (hk0 : 0 < k) (hf : ∀ a, (f a).length = k) {H : Type} {enc : TypeId × Value → H} {P : Program} {t e : TypeId} {W : World} {sp : Nat → Bool} {v : Value} {x : DataW H × List MemPlace} {fuel : Nat}
    (ht : P.underlying t = some (.slice e)) (hc : P.cellsOf e = k) (hel : ∀ n cs y, DataW.trod enc P W 0 sp true n e cs = some y → ∃ a, cs = f a)
    (hlt : ∀ p ∈ x.2, p.block < W.heap.size) (hf' : DataW.trod enc P W 0 sp true fuel t [v] = some x) :
    ∃ (A : Option Addr) (n c : Nat) (l : List α), v = .slice A n c ∧ n ≤ c ∧ c ≤ maxLen ∧ Reads W W.heap.size k A n (l.flatMap f) ∧ l.length = n := by
  rcases open_slice ht hf' with ⟨hcs, hx⟩ | ⟨a, len, cap, m, n, D, Pl, hcs, hb, hlc, hm, hmm, hx, hcell⟩
  · simp at hcs
    subst hcs
    exact ⟨none, 0, 0, [], rfl, Nat.le_refl _, Nat.zero_le _, Reads.none_, rfl⟩
  · simp at hcs
    subst hcs
    subst hx
    have hlm : len ≤ m := by rw [hmm]; split <;> omega
    rw [hc] at hcell hlt
    obtain ⟨V, hV⟩ := choose_lt (α := α) (p := fun i x => W.cells? 0 (a.add (i * k)) k = some (f x)) (fun i hi => by
      obtain ⟨cs', h1, h2⟩ := hcell i hi
      obtain ⟨x, rfl⟩ := hel _ _ _ h2
      exact ⟨x, h1⟩)
    refine ⟨some a, len, cap, (List.range len).map V, rfl, hlc, hm, ⟨by rw [flat_length f k hf]; simp, fun hn => ⟨a, rfl, ?_, fun j u hu => ?_⟩⟩, by simp⟩
    · have := hlt (.cell a.block (a.off + 0)) (List.mem_append_left _ (by
        unfold MemPlace.row
        refine List.mem_map.2 ⟨0, List.mem_range.2 ?_, rfl⟩
        exact Nat.mul_pos (by omega) hk0))
      exact this
    · have hj : j < len * k := by
        have := (List.getElem?_eq_some_iff.1 hu).1
        rw [flat_length f k hf] at this
        simpa using this
      have hq : j / k < len := Nat.div_lt_of_lt_mul (by rw [Nat.mul_comm]; exact hj)
      have hr : j % k < k := Nat.mod_lt _ hk0
      have hjd : j / k * k + j % k = j := by rw [Nat.mul_comm]; exact Nat.div_add_mod j k
      rw [← hjd, flat_at f k hf _ _ _ (by simpa using hq) hr] at hu
      simp only [List.getElem_map, List.getElem_range] at hu
      have := (World.cells?_some (hV (j / k) (by omega))).2.2 (j % k) hr
      rw [add_of_add, hjd] at this
      rw [this]
      exact hu

theorem list3b {α : Type} {l : List α} (h : l.length = 3) : ∃ a b c, l = [a, b, c] := by
  match l, h with
  | [a, b, c], _ => exact ⟨a, b, c, rfl⟩

end Go.Proofs.Ytbhbgdlnfobjaaa

/-
  Opening a slice of pins that came in, with its reach.
-/
namespace Go.Proofs.Ytbhbgdlnfobjaaa
open Go.ChangeShapes Go.WideShapes Go.ChangeAt Go.RowKit Go.Joins Go.Deep

instance inhP : Inhabited Rn := ⟨⟨0, 0⟩⟩
theorem list2P {α : Type} {l : List α} (h : l.length = 2) : ∃ a b, l = [a, b] := by
  match l, h with
  | [a, b], _ => exact ⟨a, b, rfl⟩
theorem k_pin_bytes : Try.prog.bytesOf 71 = 16 := by kernel_rfl
set_option maxRecDepth 100000 in
theorem open_pins {H : Type} {enc : TypeId × Value → H} {W : World} {r : Reach} {base : Nat} {sp : Nat → Bool} {v : Value} {d : DataW H} {ps : List MemPlace}
    (hval : Value.okWide Try.prog W r base 24 v) (hlt : ∀ x ∈ ps, x.block < W.heap.size) (h : DataW.Trod enc Try.prog W 0 sp true 24 v d ps) :
    ∃ (A : Option Addr) (n c : Nat) (l : List Rn), v = .slice A n c ∧ n ≤ c ∧ c ≤ maxLen ∧ Reads W W.heap.size 2 A n (runsC l) ∧ (n = 0 ∨ ∃ D E, d = .slice D E ∧ D.length = n) := by
  obtain ⟨A, n, c, l, h1, h2, h3, h4, -, h5⟩ := open_elems2 runC 2 (by decide) (fun _ => rfl) Try.underlying24 (by kernel_rfl) (fun n cs y hy => by
    obtain ⟨y0, y1, m, _, hl, a0, a1⟩ := trod_struct2 Try.underlying71 hy
    have hl2 : cs.length = 2 := hl.trans (by kernel_rfl)
    obtain ⟨c0, c1, rfl⟩ := list2P hl2
    have k0 : Try.prog.cellsOf 3 = 1 := by kernel_rfl
    dsimp only at a0 a1
    rw [k0] at a0 a1
    obtain ⟨x0, q0, -, -⟩ := DataW.trod_int Try.underlying3 a0
    obtain ⟨x1, q1, -, -⟩ := DataW.trod_int Try.underlying3 a1
    simp at q0 q1
    subst q0 q1
    exact ⟨⟨x0, x1⟩, rfl⟩) hval hlt h
  exact ⟨A, n, c, l, h1, h2, h3, h4, h5⟩
end Go.Proofs.Ytbhbgdlnfobjaaa

/-
  Opening a slice of numbers that came in, with its reach.
-/
namespace Go.Proofs.Ytbhbgdlnfobjaaa
open Go.ChangeShapes Go.WideShapes Go.ChangeAt Go.RowKit

theorem k_int_bytes : Try.prog.bytesOf 3 = 8 := by kernel_rfl
theorem open_nums2 {H : Type} {enc : TypeId × Value → H} {P : Program} {t e : TypeId} {k : IntKind} {W : World} {r : Reach} {base : Nat} {sp : Nat → Bool} {v : Value} {d : DataW H} {ps : List MemPlace} (ht : P.underlying t = some (.slice e)) (he : P.underlying e = some (.int k)) (hc : P.cellsOf e = 1)
    (hval : Value.okWide P W r base t v) (hlt : ∀ x ∈ ps, x.block < W.heap.size) (h : DataW.Trod enc P W 0 sp true t v d ps) :
    ∃ (A : Option Addr) (n c : Nat) (xs : List Int), v = .slice A n c ∧ n ≤ c ∧ c ≤ maxLen ∧ Reads W W.heap.size 1 A n (xs.map (.int k)) ∧ (∀ x ∈ xs, (Lit.int k x).wf = true) ∧ (n = 0 ∨ ∃ D E, d = .slice D E ∧ D.length = n) := by
  have hk := open_nums ht he hc hval hlt h
  obtain ⟨A, n, c, xs, h1, h2, h3, h4, h5⟩ := hk
  refine ⟨A, n, c, xs, h1, h2, h3, h4, h5, ?_⟩
  subst h1
  obtain ⟨fuel, hf⟩ := h
  rcases open_ints ht he hc hf with ⟨hcs, hx⟩ | ⟨a, len, cap, zs, hcs, hb, hlc, hm, hzl, hx, hcell, hwf⟩
  · simp [Value.cells] at hcs
    exact .inl hcs.2.1
  · simp [Value.cells] at hcs
    obtain ⟨rfl, rfl, rfl⟩ := hcs
    simp only [Prod.mk.injEq] at hx
    obtain ⟨rfl, rfl⟩ := hx
    have hlz : n ≤ zs.length := by rw [hzl]; split <;> omega
    exact .inr ⟨_, _, rfl, by simp [lits]; omega⟩
end Go.Proofs.Ytbhbgdlnfobjaaa
