/-
  Texts joined: CleanTwice StLaw StMem StoreColl Repeat WordNew Slices SlicesInt StNew.
-/
import Derived.Shelf.Bits.Mul64
import Derived.Ground.NamesProg
import Derived.Shelf.Lay
import Derived.IntWalk
import Derived.Test.YtjdpcmmmdaffdaaRows
import Derived.Test.YtjdpcmmmdaffdaaG0
import Derived.Test.YtjdpcmmmdaffdaaG2
import Derived.Test.YtjdpcmmmdaffdaaG3
import Derived.Test.YtjdpcmmmdaffdaaG8
/-
  Plain law: an arena that is cleaned twice. No program stands here.
-/
namespace Go.Proofs.Ytjdpcmmmdaffdaa
open Go.RowKit

theorem slid_pairwise {N : Int} (pinned : List Int) : ∀ (keep L : List Int) (e : Int), Kept N keep L → (∀ x, keep[0]? = some x → e ≤ x) → (slidGo pinned e keep L).Pairwise (· < ·) := by
  intro keep
  induction keep with
  | nil => intro L e _ _; simp [slidGo]
  | cons x ks ih =>
    intro L e hK he
    cases L with
    | nil => simp [slidGo]
    | cons n ls =>
      obtain ⟨x0, n1, n2, hxn⟩ := hK.at_ 0 x n rfl rfl
      have hex := he x rfl
      obtain ⟨z, hz⟩ : ∃ z, z = (if x ∈ pinned then x else e) := ⟨_, rfl⟩
      have hz1 : e ≤ z ∧ z ≤ x := by rw [hz]; split <;> omega
      have hh : ∀ y, ks[0]? = some y → z + n ≤ y := fun y hy => by have := hK.next 0 x n y rfl rfl (by simpa using hy); omega
      have hS := slid_of N pinned ks ls (z + n) hK.tail hh
      have hY : slidGo pinned e (x :: ks) (n :: ls) = z :: slidGo pinned (z + n) ks ls := by simp only [slidGo]; rw [← hz]
      rw [hY]
      refine List.pairwise_cons.2 ⟨fun y hy => ?_, ih ls (z + n) hK.tail hh⟩
      obtain ⟨j, hj⟩ := List.mem_iff_getElem?.1 hy
      have := hS.low j y hj
      omega
theorem slid_slid (pinned : List Int) : ∀ (keep L : List Int) (e : Int), slidGo pinned e (slidGo pinned e keep L) L = slidGo pinned e keep L := by
  intro keep
  induction keep with
  | nil => intro L e; simp [slidGo]
  | cons x ks ih =>
    intro L e
    cases L with
    | nil => simp [slidGo]
    | cons n ls =>
      obtain ⟨z, hz⟩ : ∃ z, z = (if x ∈ pinned then x else e) := ⟨_, rfl⟩
      have hzz : (if z ∈ pinned then z else e) = z := by
        by_cases h : z ∈ pinned
        · rw [if_pos h]
        · rw [if_neg h]
          by_cases hx : x ∈ pinned
          · rw [if_pos hx] at hz; rw [hz] at h; exact absurd hx h
          · rw [if_neg hx] at hz; exact hz.symm
      have hY : slidGo pinned e (x :: ks) (n :: ls) = z :: slidGo pinned (z + n) ks ls := by simp only [slidGo]; rw [← hz]
      rw [hY]
      simp only [slidGo]
      rw [hzz, ih]

theorem Cleaned.again {a f p L Y b now : List Int} (h : Cleaned a f p L Y b now) (hI : CleanIs a f p L Y b now) : CleanOk b now p ∧ ∀ L' Y' b' now', CleanIs b now p L' Y' b' now' → L' = Y ∧ Y' = Y ∧ b' = b ∧ now' = now := by
  refine ⟨⟨h.laid.check, h.alive, hI.rises⟩, fun L' Y' b' now' hI' => ?_⟩
  have hP := h.plan
  obtain ⟨hK, -⟩ := kept_of hI.longs
  have hYs : Y.Pairwise (· < ·) := by
    rw [hI.y]
    exact slid_pairwise p L _ 0 hK (fun x hx => hP.nn2 x (List.mem_of_getElem? hx))
  have hmap : L.map (posL L Y) = Y := posL_map hP.nodup hP.len
  have hR := reached_iso h.laid.iso hP.nn2 hI.reached (by rw [hmap]; exact hYs.imp (fun h => by omega))
  rw [← h.map, hmap] at hR
  obtain rfl : L' = Y := Reached.unique hI'.reached hR
  have hYn : L'.Nodup := by
    rw [List.nodup_iff_pairwise_ne]
    exact hYs.imp (fun h => by omega)
  have hP' := planned_of hI'.longs
  rw [← hI'.y] at hP'
  have hat : ∀ (j : Nat) (x y : Int), L[j]? = some x → L'[j]? = some y → ∃ s s', spotAt (spotsL a) x = some s ∧ spotAt (spotsL b) y = some s' ∧ s'.r = s.r ∧ s'.b = s.b ∧ s'.t = s.t ∧ bodyOf b s' = bodyOf a s ∧ refsOf b s' = (refsOf a s).map (refT (posL L L')) := by
    intro j x y hx hy
    have hxL := List.mem_of_getElem? hx
    obtain ⟨s, hs⟩ := begsL_iff.1 (h.closed.begs x hxL)
    obtain ⟨s', hs', e⟩ := h.laid.iso.at_ x hxL s hs
    rw [posL_at hP.nodup hx hy] at hs'
    exact ⟨s, s', hs, hs', e⟩
  have hlen : (longsV b L' p) = longsV a L p := by
    refine List.ext_getElem? (fun j => ?_)
    by_cases hj : j < L.length
    · have hx : L[j]? = some L[j] := List.getElem?_eq_getElem hj
      have hy : L'[j]? = some (L'[j]'(by rw [hP.len]; exact hj)) := List.getElem?_eq_getElem _
      have hy' : Y'[j]? = some (Y'[j]'(by rw [hP'.len, hP.len]; exact hj)) := List.getElem?_eq_getElem _
      obtain ⟨s, i, e1, -, -, -, -, e6, -⟩ := hP.at_ j _ _ hx hy
      obtain ⟨s2, i2, f1, -, -, -, -, f6, -⟩ := hP'.at_ j _ _ hy hy'
      obtain ⟨t, t', g1, g2, g3, g4, -⟩ := hat j _ _ hx hy
      obtain rfl := Option.some.inj (e1.symm.trans g1)
      obtain rfl := Option.some.inj (f1.symm.trans g2)
      rw [e6, f6]
      unfold Spot.long
      rw [g3, g4]
    · rw [List.getElem?_eq_none (by rw [hP'.lenL, hP.len]; omega), List.getElem?_eq_none (by rw [hP.lenL]; omega)]
  have hY' : Y' = L' := by
    rw [hI'.y, hlen]
    conv => lhs; rw [hI.y]
    rw [slid_slid]
    exact hI.y.symm
  subst hY'
  have hid : ∀ y ∈ Y', posL Y' Y' y = y := fun y hy => by
    obtain ⟨j, z, h1, h2, h3⟩ := posL_ex hYn rfl hy
    rw [h1] at h2
    rw [h3]
    exact (Option.some.inj h2).symm
  refine ⟨rfl, rfl, ?_, ?_⟩
  · have e1 := hI'.b
    unfold slidW at e1
    rw [← hI'.y, h.laid.len] at e1
    have e2 := hI.b
    unfold slidW at e2
    rw [← hI.y] at e2
    rw [e1]
    refine Eq.trans ?_ e2.symm
    congr 2
    refine List.ext_getElem? (fun j => ?_)
    by_cases hj : j < L.length
    · have hx : L[j]? = some L[j] := List.getElem?_eq_getElem hj
      have hy : Y'[j]? = some (Y'[j]'(by rw [hP.len]; exact hj)) := List.getElem?_eq_getElem _
      rw [rowsOf_at hy hy, rowsOf_at hx hy]
      obtain ⟨s, s', g1, g2, g3, g4, g5, g6, g7⟩ := hat j _ _ hx hy
      rw [rowAt_some g1, rowAt_some g2]
      congr 2
      unfold kC
      rw [g3, g4, g5, g6, g7, List.map_map]
      congr 2
      refine List.map_congr_left (fun v hv => ?_)
      show refT _ (refT _ v) = refT _ v
      by_cases h0 : v = 0
      · subst h0; rfl
      · have hk := Iso.link_of h.closed (List.mem_of_getElem? hx) g1 v hv h0
        have hn := h.laid.iso.nn _ hk
        have e : refT (posL L Y') v = posL L Y' (v - 1) + 1 := by unfold refT; rw [if_neg h0]
        rw [e]
        unfold refT
        rw [if_neg (by omega), show posL L Y' (v - 1) + 1 - 1 = posL L Y' (v - 1) by omega, hid]
        obtain ⟨i, u, -, hu, e2⟩ := posL_ex hP.nodup hP.len hk
        rw [e2]
        exact List.mem_of_getElem? hu
    · rw [List.getElem?_eq_none (by rw [rowsOf_length rfl, hP.len]; omega), List.getElem?_eq_none (by rw [rowsOf_length hP.len]; omega)]
  · rw [hI'.now]
    conv => rhs; rw [← List.map_id now]
    refine List.map_congr_left (fun x hx => hid x ?_)
    rw [hI.now] at hx
    obtain ⟨z, hz, rfl⟩ := List.mem_map.1 hx
    obtain ⟨i, u, -, hu, e2⟩ := posL_ex hP.nodup hP.len (h.sub z (List.mem_append_left _ hz))
    rw [e2]
    exact List.mem_of_getElem? hu
end Go.Proofs.Ytjdpcmmmdaffdaa

/-
  Plain law: what collecting a right store gives. No program stands here.
-/
namespace Go.Proofs.Ytjdpcmmmdaffdaa
open Go.RowKit

theorem compact_strict {l : List Int} (h : l.Pairwise (fun x y => x ≤ y)) : (Lib.compact l).Pairwise (fun x y => x < y) := by
  unfold Lib.compact Lib.compactUpTo
  rw [List.pairwise_map]
  have h1 : ((List.range l.length).filter (Lib.keeps l.toArray)).Pairwise (fun i j => i < j) := List.pairwise_lt_range.sublist List.filter_sublist
  refine List.Pairwise.imp_of_mem ?_ h1
  intro i j hi hj hij
  obtain ⟨hi1, -⟩ := List.mem_filter.1 hi
  obtain ⟨hj1, hj2⟩ := List.mem_filter.1 hj
  have hi1 := List.mem_range.1 hi1
  have hj1 := List.mem_range.1 hj1
  have h2 : l.toArray[j]! ≠ l.toArray[j - 1]! := by
    simp only [Lib.keeps, decide_eq_true_eq] at hj2
    exact hj2.resolve_left (by omega)
  rw [getElem!_pos l.toArray i (by simpa using hi1), getElem!_pos l.toArray j (by simpa using hj1)]
  rw [getElem!_pos l.toArray j (by simpa using hj1), getElem!_pos l.toArray (j - 1) (by simp; omega)] at h2
  simp only [List.getElem_toArray] at h2 ⊢
  have h3 : ∀ (p q : Nat) (hp : p < l.length) (hq : q < l.length), p ≤ q → l[p] ≤ l[q] := by
    intro p q hp hq hpq
    rcases Nat.eq_or_lt_of_le hpq with rfl | hlt
    · exact Int.le_refl _
    · exact List.pairwise_iff_getElem.1 h p q hp hq hlt
  have h4 := h3 i (j - 1) hi1 (by omega) (by omega)
  have h5 := h3 (j - 1) j (by omega) hj1 (by omega)
  omega
theorem fromL_strict (r : List Int) (l : List Slot) (p : List Rn) : (fromL r l p).Pairwise (fun x y => x < y) := compact_strict (sortL_sorted _)
theorem fromL_nodup (r : List Int) (l : List Slot) (p : List Rn) : (fromL r l p).Nodup := by
  rw [List.nodup_iff_pairwise_ne]
  exact (fromL_strict r l p).imp (fun h => by omega)

/-- What is in a store. -/
structure St where
  a : List Int
  r : List Int
  p : List Rn
  l : List Slot
def St.begs (S : St) : List Int := fromL S.r S.l S.p
def StOk (S : St) : Prop := StoreOk S.a S.r S.l S.p
/-- The words at which a store's roots, hands and pins are, in their order. -/
def rootedL (S : St) : List Int := S.r.filter (fun v => decide (0 ≤ v)) ++ openL S.l ++ pinsL S.p
theorem rooted_begs {S : St} {x : Int} : x ∈ S.begs ↔ x ∈ rootedL S := by
  unfold St.begs rootedL fromL
  rw [compact_mem, sortL_mem]
  simp only [List.mem_append, namedL_mem, List.mem_filter, decide_eq_true_eq]
theorem open_at {S : St} {s : Slot} (h : s ∈ S.l) (ho : s.opn = true) : s.loc ∈ S.begs := rooted_begs.2 (List.mem_append_left _ (List.mem_append_right _ (List.mem_map.2 ⟨s, List.mem_filter.2 ⟨h, ho⟩, rfl⟩)))
theorem root_at {S : St} {v : Int} (h : v ∈ S.r) (h0 : 0 ≤ v) : v ∈ S.begs := rooted_begs.2 (List.mem_append_left _ (List.mem_append_left _ (List.mem_filter.2 ⟨h, by simpa using h0⟩)))
theorem pin_at {S : St} {y : Rn} (h : y ∈ S.p) : y.loc ∈ S.begs := rooted_begs.2 (List.mem_append_right _ (List.mem_map.2 ⟨y, h, rfl⟩))

def phiV (φ : Int → Int) (v : Int) : Int := if 0 ≤ v then φ v else v
def phiS (φ : Int → Int) (s : Slot) : Slot := if s.opn = true then ⟨s.gen, true, φ s.loc⟩ else s
/-- What collect makes of a right store. -/
structure Coll (S S' : St) (fr : Int) (L Y now : List Int) : Prop where
  is : CleanIs S.a S.begs (pinsL S.p) L Y S'.a now
  r : S'.r = S.r.map (swapV (putsL (List.replicate S.a.length 0) S.begs now))
  p : S'.p = S.p
  l : S'.l = S.l.map (swapS (putsL (List.replicate 256 0) S.begs now))
  fr : fr = freeL S'.a
section
variable {S S' S2 : St} {fr fr2 : Int} {L Y now L2 Y2 now2 : List Int}
theorem Coll.put (h : Coll S S' fr L Y now) (hS : StOk S) {k : Nat} (hk : S.a.length ≤ k) {x : Int} (hx : x ∈ S.begs) : 0 ≤ x ∧ x < S.a.length ∧ (putsL (List.replicate k 0) S.begs now).getD x.toNat 0 = posL L Y x := by
  have h1 : ∀ x ∈ S.begs, 0 ≤ x ∧ x < S.a.length := fun x hx => begs_lt hS.arena (hS.live x hx)
  obtain ⟨i, hi⟩ := List.mem_iff_getElem?.1 hx
  have hy : now[i]? = some (posL L Y x) := by rw [h.is.now, List.getElem?_map, hi]; rfl
  have h2 := putsL_at (show S.begs.Nodup from fromL_nodup S.r S.l S.p) (fun x hx => (h1 x hx).1) hi hy (List.replicate k 0) (by rw [List.length_replicate]; have := h1 x hx; omega)
  refine ⟨(h1 x hx).1, (h1 x hx).2, ?_⟩
  rw [List.getD_eq_getElem?_getD, h2]
  rfl
theorem Coll.r' (h : Coll S S' fr L Y now) (hS : StOk S) : S'.r = S.r.map (phiV (posL L Y)) := by
  rw [h.r]
  refine List.map_congr_left (fun v hv => ?_)
  unfold swapV phiV
  by_cases h0 : 0 ≤ v
  · rw [if_pos h0, if_pos h0, (h.put hS (Nat.le_refl _) (root_at hv h0)).2.2]
  · rw [if_neg h0, if_neg h0]
theorem Coll.l' (h : Coll S S' fr L Y now) (hS : StOk S) : S'.l = S.l.map (phiS (posL L Y)) := by
  rw [h.l]
  refine List.map_congr_left (fun s hs => ?_)
  unfold swapS phiS
  by_cases h0 : s.opn = true
  · rw [if_pos h0, if_pos h0, (h.put hS (cleaned_of h.is).len256 (open_at hs h0)).2.2]
  · rw [if_neg h0, if_neg h0]
theorem Coll.pos (h : Coll S S' fr L Y now) {x : Int} (hx : x ∈ S.begs) : 0 ≤ posL L Y x ∧ posL L Y x < S.a.length ∧ posL L Y x ∈ begsL (spotsL S'.a) := by
  have hC := cleaned_of h.is
  have h1 : posL L Y x ∈ now := by rw [h.is.now]; exact List.mem_map.2 ⟨x, hx, rfl⟩
  have h2 := hC.alive _ (List.mem_append_left _ h1)
  have h3 := begs_lt hC.laid.check h2
  have h4 := hC.laid.len
  exact ⟨h3.1, by omega, h2⟩
theorem Coll.pinned (h : Coll S S' fr L Y now) {y : Rn} (hy : y ∈ S.p) : posL L Y y.loc = y.loc := (cleaned_of h.is).pin _ (List.mem_map.2 ⟨y, hy, rfl⟩)
theorem filter_phi {φ : Int → Int} : ∀ {r : List Int}, (∀ v ∈ r, 0 ≤ v → 0 ≤ φ v) → (r.map (phiV φ)).filter (fun v => decide (0 ≤ v)) = (r.filter (fun v => decide (0 ≤ v))).map φ
  | [], _ => rfl
  | v :: r, h => by
    have ih := filter_phi (φ := φ) (r := r) (fun v hv => h v (List.mem_cons_of_mem _ hv))
    by_cases h0 : 0 ≤ v
    · have h1 := h v List.mem_cons_self h0
      rw [List.map_cons, show phiV φ v = φ v from if_pos h0, List.filter_cons_of_pos (by simpa using h1), List.filter_cons_of_pos (by simpa using h0), List.map_cons, ih]
    · rw [List.map_cons, show phiV φ v = v from if_neg h0, List.filter_cons_of_neg (by simpa using h0), List.filter_cons_of_neg (by simpa using h0), ih]
theorem phiS_opn (φ : Int → Int) (s : Slot) : (phiS φ s).opn = s.opn := by
  unfold phiS
  by_cases h : s.opn = true
  · rw [if_pos h]; exact h.symm
  · rw [if_neg h]
theorem open_phi {φ : Int → Int} : ∀ (l : List Slot), openL (l.map (phiS φ)) = (openL l).map φ
  | [] => rfl
  | s :: l => by
    have ih := open_phi (φ := φ) l
    unfold openL at ih ⊢
    by_cases h : s.opn = true
    · rw [List.map_cons, List.filter_cons_of_pos (by rw [phiS_opn]; exact h), List.filter_cons_of_pos h, List.map_cons, List.map_cons, List.map_cons, ih]
      rw [show (phiS φ s).loc = φ s.loc by unfold phiS; rw [if_pos h]]
    · rw [List.map_cons, List.filter_cons_of_neg (by rw [phiS_opn]; exact h), List.filter_cons_of_neg h, ih]
theorem Coll.rooted (h : Coll S S' fr L Y now) (hS : StOk S) : rootedL S' = (rootedL S).map (posL L Y) := by
  unfold rootedL
  rw [h.r' hS, h.l' hS, h.p, List.map_append (f := posL L Y), List.map_append (f := posL L Y), filter_phi (fun v hv h0 => (h.pos (root_at hv h0)).1), open_phi]
  congr 1
  conv => lhs; rw [← List.map_id (pinsL S.p)]
  exact List.map_congr_left (fun x hx => ((cleaned_of h.is).pin x hx).symm)
theorem Coll.begs' (h : Coll S S' fr L Y now) (hS : StOk S) {x : Int} : x ∈ S'.begs ↔ x ∈ now := by
  rw [rooted_begs, h.rooted hS, h.is.now, List.mem_map, List.mem_map]
  simp only [rooted_begs]
theorem slotE_loc {s : Slot} {x : Int} (h : slotE s = 0) (ho : s.opn = true) (hx : 0 ≤ x ∧ x < 256) : slotE ⟨s.gen, true, x⟩ = 0 := by
  obtain ⟨g, o, y⟩ := s
  subst ho
  unfold slotE at h ⊢
  simp only at h ⊢
  split at h
  · cases h
  · rename_i h1
    rw [if_neg (by omega)]
    split at h
    · cases h
    · rename_i h2
      rw [if_neg (by simp at h2 ⊢; omega)]
theorem Coll.ok (h : Coll S S' fr L Y now) (hS : StOk S) : StOk S' := by
  have hC := cleaned_of h.is
  have hlen := hC.laid.len
  have h256 := hC.len256
  refine ⟨hC.laid.check, ?_, ?_, ?_, ?_⟩
  · obtain ⟨e1, e2, e3, e4⟩ := rootE_ok hS.roots
    refine rootE_of (by omega) (by omega) (by rw [h.r, List.length_map]; exact e3) ?_
    intro v hv
    rw [h.r' hS] at hv
    obtain ⟨u, hu, rfl⟩ := List.mem_map.1 hv
    have h1 := e4 u hu
    unfold phiV
    by_cases h0 : 0 ≤ u
    · rw [if_pos h0]
      have := h.pos (root_at hu h0)
      omega
    · rw [if_neg h0]
      omega
  · rw [h.p]; exact hS.pins
  · obtain ⟨e1, e2⟩ := handE_ok.1 hS.hands
    refine handE_ok.2 ⟨by rw [h.l, List.length_map]; exact e1, ?_⟩
    intro s hs
    rw [h.l' hS] at hs
    obtain ⟨u, hu, rfl⟩ := List.mem_map.1 hs
    have h1 := e2 u hu
    unfold phiS
    by_cases h0 : u.opn = true
    · rw [if_pos h0]
      have := h.pos (open_at hu h0)
      exact slotE_loc h1 h0 (by omega)
    · rw [if_neg h0]
      exact h1
  · intro x hx
    have h1 : x ∈ now := (h.begs' hS).1 hx
    exact hC.alive x (List.mem_append_left _ h1)
theorem Coll.unique (h : Coll S S' fr L Y now) (h2 : Coll S S2 fr2 L2 Y2 now2) : S2 = S' ∧ fr2 = fr := by
  have hL : L2 = L := Reached.unique h2.is.reached h.is.reached
  subst hL
  have hY : Y2 = Y := by rw [h2.is.y, h.is.y]
  subst hY
  have hn : now2 = now := by rw [h2.is.now, h.is.now]
  subst hn
  have hb : S2.a = S'.a := by rw [h2.is.b, h.is.b]
  obtain ⟨a, r, p, l⟩ := S'
  obtain ⟨a2, r2, p2, l2⟩ := S2
  have e1 := h.r; have e2 := h2.r; have e3 := h.p; have e4 := h2.p; have e5 := h.l; have e6 := h2.l; have e7 := h.fr; have e8 := h2.fr
  simp only at hb e1 e2 e3 e4 e5 e6 e7 e8
  subst hb e3 e4 e7 e8
  rw [e1, e2, e5, e6]
  exact ⟨rfl, rfl⟩
theorem Coll.again (h : Coll S S' fr L Y now) (hS : StOk S) (h2 : Coll S' S2 fr2 L2 Y2 now2) : S2 = S' ∧ fr2 = fr := by
  have hC := cleaned_of h.is
  have hb : S'.begs = now := by
    have hn : now.Pairwise (fun x y => x < y) := by
      obtain ⟨hK, -⟩ := kept_of h.is.longs
      have hP := hC.plan
      have hYs : Y.Pairwise (· < ·) := by
        rw [h.is.y]
        exact slid_pairwise _ L _ 0 hK (fun x hx => hP.nn2 x (List.mem_of_getElem? hx))
      rw [h.is.now, List.pairwise_map]
      refine List.Pairwise.imp_of_mem ?_ (fromL_strict S.r S.l S.p)
      intro x x' hx hx' hlt
      obtain ⟨j, y, hj, hy, e⟩ := posL_ex hP.nodup hP.len (h.is.reached.roots x (List.mem_append_left _ hx))
      obtain ⟨j', y', hj', hy', e'⟩ := posL_ex hP.nodup hP.len (h.is.reached.roots x' (List.mem_append_left _ hx'))
      rw [e, e']
      obtain ⟨q1, rfl⟩ := List.getElem?_eq_some_iff.1 hj
      obtain ⟨q2, rfl⟩ := List.getElem?_eq_some_iff.1 hj'
      obtain ⟨q3, rfl⟩ := List.getElem?_eq_some_iff.1 hy
      obtain ⟨q4, rfl⟩ := List.getElem?_eq_some_iff.1 hy'
      refine List.pairwise_iff_getElem.1 hYs j j' q3 q4 ?_
      rcases Nat.lt_trichotomy j j' with g | g | g
      · exact g
      · subst g; omega
      · have := List.pairwise_iff_getElem.1 h.is.reached.sorted j' j q2 q1 g
        omega
    refine sorted_unique ((fromL_strict _ _ _).imp (fun h => by omega)) (fromL_nodup _ _ _) (hn.imp (fun h => by omega)) ?_ (fun x => h.begs' hS)
    rw [List.nodup_iff_pairwise_ne]
    exact hn.imp (fun h => by omega)
  have hI := h2.is
  rw [hb, h.p] at hI
  obtain ⟨-, hag⟩ := hC.again h.is
  obtain ⟨e1, e2, e3, e4⟩ := hag _ _ _ _ hI
  have hS' := h.ok hS
  have hid : ∀ x ∈ S'.begs, posL L2 Y2 x = x := by
    intro x hx
    have h1 := hI.reached.roots x (List.mem_append_left _ (by rw [← hb]; exact hx))
    obtain ⟨j, y, hj, hy, e⟩ := posL_ex (planned_of hI.longs).nodup (show Y2.length = L2.length by rw [e1, e2]) h1
    rw [e1] at hj
    rw [e2] at hy
    rw [e]
    exact Option.some.inj (hy.symm.trans hj)
  obtain ⟨a2, r2, p2, l2⟩ := S2
  obtain ⟨a1, r1, p1, l1⟩ := S'
  have g1 := h2.r' hS'
  have g2 := h2.l' hS'
  have g3 := h2.p
  have g4 := h2.fr
  have g5 := h.fr
  simp only at e3 g1 g2 g3 g4 g5
  subst e3 g3
  have f1 : r2 = r1 := by
    rw [g1]
    conv => rhs; rw [← List.map_id r1]
    refine List.map_congr_left (fun v hv => ?_)
    unfold phiV
    by_cases h0 : 0 ≤ v
    · rw [if_pos h0, hid v (root_at hv h0)]; rfl
    · rw [if_neg h0]; rfl
  have f2 : l2 = l1 := by
    rw [g2]
    conv => rhs; rw [← List.map_id l1]
    refine List.map_congr_left (fun s hs => ?_)
    unfold phiS
    by_cases h0 : s.opn = true
    · rw [if_pos h0, hid _ (open_at hs h0)]
      obtain ⟨g, o, y⟩ := s
      simp only at h0
      subst h0
      rfl
    · rw [if_neg h0]; rfl
  subst f1 f2
  exact ⟨rfl, by rw [g4, g5]⟩
theorem Coll.alike (h : Coll S S' fr L Y now) (hS : StOk S) {os os' : List Ob} {fo fo' : List Int} (h1 : FormIs S.a (rootedL S) os fo) (h2 : FormIs S'.a (rootedL S') os' fo') : os = os' ∧ fo = fo' := by
  have hC := cleaned_of h.is
  rw [h.rooted hS] at h2
  exact form_iso hC.laid.iso hC.closed (fun x hx => h.is.reached.roots x (List.mem_append_left _ (rooted_begs.2 hx))) h1 h2
end
end Go.Proofs.Ytjdpcmmmdaffdaa

/-
  A store in memory: four slices, read or owned.
-/
namespace Go.Proofs.Ytjdpcmmmdaffdaa
open Go.RowKit

structure StR (w : World) (B : Nat) (A : Option Addr) (n : Nat) (RA : Option Addr) (rn : Nat) (PA : Option Addr) (pn : Nat) (HA : Option Addr) (hn : Nat) (S : St) : Prop where
  a : Reads w B 1 A n (S.a.map (.int .u64))
  r : Reads w B 1 RA rn (S.r.map (.int .i64))
  p : Reads w B 2 PA pn (runsC S.p)
  l : Reads w B 3 HA hn (slotsC S.l)
/-- What is known of a store that came in. -/
structure StK (n c rn pn hn : Nat) (S : St) : Prop where
  cap : n ≤ c
  max : c ≤ maxLen
  wf : ∀ x ∈ S.a, (Lit.int .u64 x).wf = true
  rn : rn ≤ 9223372036854775807
  pn : pn ≤ 9223372036854775807
  hn : hn ≤ 9223372036854775807
structure StO (w : World) (base : Nat) (A : Option Addr) (n c : Nat) (RA : Option Addr) (rn rc : Nat) (PA : Option Addr) (pn pc : Nat) (HA : Option Addr) (hn hc : Nat) (S : St) : Prop where
  a : w.ownsRow base 35 1 (.slice A n c) n (S.a.map (.int .u64))
  r : w.ownsRow base 3 1 (.slice RA rn rc) rn (S.r.map (.int .i64))
  p : w.ownsRow base 50 2 (.slice PA pn pc) pn (runsC S.p)
  l : w.ownsRow base 53 3 (.slice HA hn hc) hn (slotsC S.l)
section
variable {w w' : World} {B n c rn rc pn pc hn hc : Nat} {A RA PA HA : Option Addr} {S : St}
theorem StR.below (h : StR w B A n RA rn PA pn HA hn S) (hb : Below B w w') : StR w' B A n RA rn PA pn HA hn S := ⟨h.a.below hb, h.r.below hb, h.p.below hb, h.l.below hb⟩
theorem StR.more {B' : Nat} (h : StR w B A n RA rn PA pn HA hn S) (hB : B ≤ B') : StR w B' A n RA rn PA pn HA hn S := ⟨h.a.more hB, h.r.more hB, h.p.more hB, h.l.more hB⟩
theorem StR.drew (h : StR w B A n RA rn PA pn HA hn S) : StR w.drew B A n RA rn PA pn HA hn S := ⟨h.a.drew, h.r.drew, h.p.drew, h.l.drew⟩
theorem StR.lens (h : StR w B A n RA rn PA pn HA hn S) : S.a.length = n ∧ S.r.length = rn ∧ S.p.length = pn ∧ S.l.length = hn := by
  refine ⟨by have := h.a.1; simpa using this, by have := h.r.1; simpa using this, ?_, ?_⟩
  · have := h.p.1; rw [runsC_length] at this; omega
  · have := h.l.1; rw [slotsC_length] at this; omega
theorem StO.reads {base : Nat} (h : StO w base A n c RA rn rc PA pn pc HA hn hc S) : StR w w.heap.size A n RA rn PA pn HA hn S := ⟨Reads.of_own h.a, Reads.of_own h.r, Reads.of_own h.p, Reads.of_own h.l⟩
theorem StO.below {base : Nat} (h : StO w base A n c RA rn rc PA pn pc HA hn hc S) (hb : Below w.heap.size w w') : StO w' base A n c RA rn rc PA pn pc HA hn hc S := ⟨own_below h.a hb, own_below h.r hb, own_below h.p hb, own_below h.l hb⟩
theorem StO.mono {base base' : Nat} (h : StO w base' A n c RA rn rc PA pn pc HA hn hc S) (hb : base ≤ base') : StO w base A n c RA rn rc PA pn pc HA hn hc S := ⟨own_mono h.a hb, own_mono h.r hb, own_mono h.p hb, own_mono h.l hb⟩
theorem StO.drew {base : Nat} (h : StO w base A n c RA rn rc PA pn pc HA hn hc S) : StO w.drew base A n c RA rn rc PA pn pc HA hn hc S := ⟨h.a.drew, h.r.drew, h.p.drew, h.l.drew⟩
theorem own_max {base size k d : Nat} {e : TypeId} {xs : List Value} (h : w.ownsRow base e size (.slice A k d) k xs) : d ≤ maxLen := by
  rcases h.2 with ⟨h, _⟩ | ⟨g, cap, cur, h, _, _, _, h4, _⟩
  · injection h with _ _ h3
    subst h3
    exact Nat.zero_le _
  · injection h with _ _ h3
    subst h3
    exact h4
theorem StO.known {base : Nat} (h : StO w base A n c RA rn rc PA pn pc HA hn hc S) (hw : ∀ x ∈ S.a, (Lit.int .u64 x).wf = true) : StK n c rn pn hn S := by
  have h1 := own_cap h.r
  have h2 := own_cap h.p
  have h3 := own_cap h.l
  have h4 := own_max h.r
  have h5 := own_max h.p
  have h6 := own_max h.l
  unfold maxLen at h4 h5 h6
  exact ⟨own_cap h.a, own_max h.a, hw, by omega, by omega, by omega⟩
/-- Four words of a block of its own type that are stored leave what is owned as it is. -/
theorem own_block4 {base e size k g : Nat} {v : Value} {xs : List Value} {t : TypeId} {cs : Array Value} (h : w.ownsRow base e size v k xs) (hB : Blk w g t cs) (hne : e ≠ t) (x0 x1 x2 x3 : Value) :
    ((((w.setCell ⟨g, 0, none⟩ x0).setCell ⟨g, 1, none⟩ x1).setCell ⟨g, 2, none⟩ x2).setCell ⟨g, 3, none⟩ x3).ownsRow base e size v k xs := by
  have hn := own_blk h hB hne
  exact own_apart (own_apart (own_apart (own_apart h (p := ⟨g, 0, none⟩) hn _) (p := ⟨g, 1, none⟩) hn _) (p := ⟨g, 2, none⟩) hn _) (p := ⟨g, 3, none⟩) hn _
theorem StO.store {base g : Nat} {cs : Array Value} (h : StO w base A n c RA rn rc PA pn pc HA hn hc S) (hB : Blk w g 28 cs) (x0 x1 x2 x3 : Value) :
    StO ((((w.setCell ⟨g, 0, none⟩ x0).setCell ⟨g, 1, none⟩ x1).setCell ⟨g, 2, none⟩ x2).setCell ⟨g, 3, none⟩ x3) base A n c RA rn rc PA pn pc HA hn hc S :=
  ⟨own_block4 h.a hB (by decide) _ _ _ _, own_block4 h.r hB (by decide) _ _ _ _, own_block4 h.p hB (by decide) _ _ _ _, own_block4 h.l hB (by decide) _ _ _ _⟩
/-- What stands when four words of a block have been stored. -/
theorem below_block4 {base g : Nat} {w0 : World} (h : Below base w0 w) (hg : base ≤ g) (x0 x1 x2 x3 : Value) :
    Below base w0 ((((w.setCell ⟨g, 0, none⟩ x0).setCell ⟨g, 1, none⟩ x1).setCell ⟨g, 2, none⟩ x2).setCell ⟨g, 3, none⟩ x3) :=
  (((h.setCell (p := ⟨g, 0, none⟩) hg _).setCell (p := ⟨g, 1, none⟩) hg _).setCell (p := ⟨g, 2, none⟩) hg _).setCell (p := ⟨g, 3, none⟩) hg _
end
end Go.Proofs.Ytjdpcmmmdaffdaa

/-
  package store: collect and Collect, over a store's lists.
-/
namespace Go.Proofs.Ytjdpcmmmdaffdaa
open Go.RowKit

def stE (S : St) : Int := storeE S.a S.r S.l S.p
theorem stE_ok {S : St} : stE S = 0 ↔ StOk S := storeE_ok
theorem Coll.wf {S S' : St} {fr : Int} {L Y now : List Int} (h : Coll S S' fr L Y now) (ha : ∀ x ∈ S.a, (Lit.int .u64 x).wf = true) : ∀ x ∈ S'.a, (Lit.int .u64 x).wf = true := ((cleaned_of h.is).wf h.is ha).1

theorem stcheck_any (A : Option Addr) (n c : Nat) (RA : Option Addr) (rn rc : Nat) (PA : Option Addr) (pn pc : Nat) (HA : Option Addr) (hn hc : Nat) (S : St) (w : World)
    (hR : StR w w.heap.size A n RA rn PA pn HA hn S) (hK : StK n c rn pn hn S) :
    Calls Try.prog 13 #[.agg #[.slice A n c, .slice RA rn rc, .slice PA pn pc, .slice HA hn hc]] w fun e w' => e = .returned (.int .i64 (stE S)) ∧ Below w.heap.size w w' :=
  storeCheck_any A n c RA rn rc PA pn pc HA hn hc S.a S.r S.p S.l w hR.a hK.cap hK.wf hR.r hR.p hR.l hK.rn hK.pn

theorem coll_any (A : Option Addr) (n c : Nat) (RA : Option Addr) (rn rc : Nat) (PA : Option Addr) (pn pc : Nat) (HA : Option Addr) (hn hc : Nat) (S : St) (w : World)
    (hR : StR w w.heap.size A n RA rn PA pn HA hn S) (hK : StK n c rn pn hn S) (hOK : StOk S) :
    Calls Try.prog 14 #[.agg #[.slice A n c, .slice RA rn rc, .slice PA pn pc, .slice HA hn hc]] w fun e w' => Below w.heap.size w w' ∧ ∃ (S' : St) (fr : Int) (L Y now : List Int) (A1 : Option Addr) (c1 : Nat) (A2 : Option Addr) (c2 : Nat) (A3 : Option Addr) (c3 : Nat) (A4 : Option Addr) (c4 : Nat),
      Coll S S' fr L Y now ∧ e = .returned (.tuple #[.agg #[.slice A1 n c1, .slice A2 rn c2, .slice A3 pn c3, .slice A4 hn c4], .int .i64 fr]) ∧
      StO w' w.heap.size A1 n c1 A2 rn c2 A3 pn c3 A4 hn c4 S' := by
  refine (collect_ok A n c RA rn rc PA pn pc HA hn hc S.a S.r S.p S.l w hR.a hK.cap hK.max hK.wf hR.r hR.p hR.l hOK).mono ?_
  rintro e w' ⟨hb, L, Y, b, now, A1, c1, A2, c2, A3, c3, A4, c4, hI, rfl, o1, o2, o3, o4⟩
  refine ⟨hb, ⟨b, _, _, _⟩, _, L, Y, now, A1, c1, A2, c2, A3, c3, A4, c4, ⟨hI, ?_, rfl, rfl, rfl⟩, rfl, ⟨o1, o2, o3, o4⟩⟩
  rw [hR.lens.1]
  rfl

set_option maxRecDepth 100000 in
set_option maxHeartbeats 2000000 in
theorem collectFn_any (A : Option Addr) (n c : Nat) (RA : Option Addr) (rn rc : Nat) (PA : Option Addr) (pn pc : Nat) (HA : Option Addr) (hn hc : Nat) (S : St) (w : World)
    (hR : StR w w.heap.size A n RA rn PA pn HA hn S) (hK : StK n c rn pn hn S) :
    Calls Try.prog 6 #[.agg #[.slice A n c, .slice RA rn rc, .slice PA pn pc, .slice HA hn hc]] w fun e w' => Below w.heap.size w w' ∧
      ((StOk S ∧ ∃ (S' : St) (fr : Int) (L Y now : List Int) (A1 : Option Addr) (c1 : Nat) (A2 : Option Addr) (c2 : Nat) (A3 : Option Addr) (c3 : Nat) (A4 : Option Addr) (c4 : Nat),
        Coll S S' fr L Y now ∧ e = .returned (.tuple #[.agg #[.slice A1 n c1, .slice A2 rn c2, .slice A3 pn c3, .slice A4 hn c4], .int .i64 fr, .int .i64 0]) ∧
        StO w' w.heap.size A1 n c1 A2 rn c2 A3 pn c3 A4 hn c4 S') ∨
       (stE S ≠ 0 ∧ e = .returned (.tuple #[.agg #[.slice none 0 0, .slice none 0 0, .slice none 0 0, .slice none 0 0], .int .i64 0, .int .i64 (stE S)]))) := by
  have HCk := Lib.hid (fun w hR => stcheck_any A n c RA rn rc PA pn pc HA hn hc S w hR hK)
  have HCo := Lib.hid (fun w hR hOK => coll_any A n c RA rn rc PA pn pc HA hn hc S w hR hK hOK)
  have HE := Lib.hid (@stE_ok S)
  generalize stE S = E at *
  have hb0 := below_new w (.cells #[.slice A n c, .slice RA rn rc, .slice PA pn pc, .slice HA hn hc] 28)
  have hb1 := hb0.alloc hb0.size (.cells #[.slice none 0 0, .slice none 0 0, .slice none 0 0, .slice none 0 0] 28)
  have DS := (Blk.new w 28 #[.slice A n c, .slice RA rn rc, .slice PA pn pc, .slice HA hn hc]).alloc (.cells #[.slice none 0 0, .slice none 0 0, .slice none 0 0, .slice none 0 0] 28)
  have DR := Blk.new (w.alloc (.cells #[.slice A n c, .slice RA rn rc, .slice PA pn pc, .slice HA hn hc] 28)) 28 #[.slice none 0 0, .slice none 0 0, .slice none 0 0, .slice none 0 0]
  rw [World.size_alloc] at DR
  obtain ⟨s0, s1, s2, s3⟩ := DS.four
  clear hb0
  go_enter Try.func6, Try.ntmps6
  go_wp2_with fail
  refine (HCk.out _ ((hR.below hb1).more hb1.size)).mono ?_
  rintro e w2 ⟨rfl, hb2⟩
  have DS := DS.below hb2 DS.lt
  have DR := DR.below hb2 DR.lt
  have hb02 := below_step hb1 hb2
  obtain ⟨s0, s1, s2, s3⟩ := DS.four
  obtain ⟨r0, r1, r2, r3⟩ := DR.four
  have f0 := DR.frozen 0
  have f1 := DR.frozen 1
  have f2 := DR.frozen 2
  have f3 := DR.frozen 3
  clear hb1 hb2
  by_cases h0 : E = 0
  · subst h0
    have hOK := HE.out.1 rfl
    go_wp2_with fail
    refine (HCo.out _ ((hR.below hb02).more hb02.size) hOK).mono ?_
    rintro e w3 ⟨hb3, S', fr, L, Y, now, A1, c1, A2, c2, A3, c3, A4, c4, hC, rfl, hO⟩
    have hb03 := (below_step hb02 hb3)
    have hb04 := hb03.alloc hb03.size (.cells #[.slice A1 n c1, .slice A2 rn c2, .slice A3 pn c3, .slice A4 hn c4] 28)
    have DG := Blk.new w3 28 #[.slice A1 n c1, .slice A2 rn c2, .slice A3 pn c3, .slice A4 hn c4]
    have DR := (DR.below hb3 DR.lt).alloc (.cells #[.slice A1 n c1, .slice A2 rn c2, .slice A3 pn c3, .slice A4 hn c4] 28)
    obtain ⟨r0, r1, r2, r3⟩ := DR.four
    obtain ⟨o0, o1, o2, o3⟩ := DG.four
    have f0 := DR.frozen 0
    have f1 := DR.frozen 1
    have f2 := DR.frozen 2
    have f3 := DR.frozen 3
    have HO := Lib.hid (((hO.mono hb02.size).below (below_new w3 (.cells #[.slice A1 n c1, .slice A2 rn c2, .slice A3 pn c3, .slice A4 hn c4] 28))).store DR)
    have HC := Lib.hid hC
    clear s0 s1 s2 s3 hO hC
    go_wp2_with fail
    have z4 := (((DR.set_ 0 (.slice A1 n c1)).set_ 1 (.slice A2 rn c2)).set_ 2 (.slice A3 pn c3)).set_ 3 (.slice A4 hn c4)
    refine bodyPost_ret (v := .tuple #[.agg #[.slice A1 n c1, .slice A2 rn c2, .slice A3 pn c3, .slice A4 hn c4], .int .i64 fr, .int .i64 0]) ?_ rfl ⟨?_, .inl ⟨hOK, S', fr, L, Y, now, A1, c1, A2, c2, A3, c3, A4, c4, HC.out, rfl, HO.out _ _ _ _⟩⟩
    · obtain ⟨z0, z1, z2, z3⟩ := z4.four
      simp only [results, Try.results6]
      go_simp
    · exact (((hb04.setCell (p := ⟨w.heap.size + 1, 0, none⟩) (Nat.le_succ _) _).setCell (p := ⟨w.heap.size + 1, 1, none⟩) (Nat.le_succ _) _).setCell (p := ⟨w.heap.size + 1, 2, none⟩) (Nat.le_succ _) _).setCell (p := ⟨w.heap.size + 1, 3, none⟩) (Nat.le_succ _) _
  · have g1 : (E != 0) = true := by simpa using h0
    go_wp2_with fail
    have z4 := (((DR.set_ 0 (.slice none 0 0)).set_ 1 (.slice none 0 0)).set_ 2 (.slice none 0 0)).set_ 3 (.slice none 0 0)
    refine bodyPost_ret (v := .tuple #[.agg #[.slice none 0 0, .slice none 0 0, .slice none 0 0, .slice none 0 0], .int .i64 0, .int .i64 E]) ?_ rfl ⟨?_, .inr ⟨h0, rfl⟩⟩
    · obtain ⟨z0, z1, z2, z3⟩ := z4.four
      simp only [results, Try.results6]
      go_simp
    · exact (((hb02.setCell (p := ⟨w.heap.size + 1, 0, none⟩) (Nat.le_succ _) _).setCell (p := ⟨w.heap.size + 1, 1, none⟩) (Nat.le_succ _) _).setCell (p := ⟨w.heap.size + 1, 2, none⟩) (Nat.le_succ _) _).setCell (p := ⟨w.heap.size + 1, 3, none⟩) (Nat.le_succ _) _
end Go.Proofs.Ytjdpcmmmdaffdaa

/-
  slices.Repeat at []int, of one element.
-/
namespace Go.Proofs
open Go.RowKit Go.Shelf

shelf_lay Lays.n212 Nm 212 at Try as Try.mulU

end Go.Proofs
namespace Go.Proofs.Ytjdpcmmmdaffdaa
open Go.RowKit

theorem replicate_snoc2 (v : Value) (a b : Nat) : List.replicate (a + b) v = List.replicate a v ++ List.replicate b v := by rw [List.replicate_append_replicate]

/-- What a copy leaves: M cells hold v; m more do. -/
theorem splice_rep {cur : List Value} {v : Value} {M m : Nat} (h : cur.take M = List.replicate M v) (hM : M + m ≤ cur.length) : (splice cur M (List.replicate m v)).take (M + m) = List.replicate (M + m) v ∧ (splice cur M (List.replicate m v)).length = cur.length := by
  have hl := length_splice cur M (List.replicate m v) (by simpa using hM)
  refine ⟨?_, hl⟩
  have hM2 : M ≤ cur.length := by omega
  have ht : (cur.take M).length = M := by rw [List.length_take]; omega
  unfold splice
  rw [h, ← List.append_assoc, replicate_snoc2, List.take_append_of_le_length (by simp), List.take_of_length_le (by simp)]

set_option maxRecDepth 100000 in
set_option maxHeartbeats 1000000 in
theorem repeat_one (gv n : Nat) (v : Int) (w : World) (hv : Blk w gv 3 #[.int .i64 v]) (hn : n ≤ 1000) :
    Calls Try.prog 25 #[.slice (some ⟨gv, 0, none⟩) 1 1, .int .i64 n] w fun e w' => ∃ g, e = .returned (.slice (some ⟨g, 0, none⟩) n n) ∧ w'.ownsRow w.heap.size 3 1 (.slice (some ⟨g, 0, none⟩) n n) n ((List.replicate n v).map (.int .i64)) ∧ Below w.heap.size w w' := by
  have HMul := Lib.hid (fun w => Any.bits_Mul Try.mulU 1 n (by decide) (by omega) w)
  obtain ⟨i0, hi, hz0, hz1, hz2⟩ := info_parts info_int
  have hmk := run_make_rowN (P := Try.prog) 23 3 i0 (.int .i64 0) Try.underlying23 hi hz0 .i64 .i64 n n (Nat.le_refl _) (by rw [hz2]; omega) (by omega) w
  rw [hz1, Nat.mul_one] at hmk
  have hmk : (Instr.makeSlice 23 (.int .i64 n) (.int .i64 n)).run Try.prog w = .ok (.slice (some ⟨w.heap.size, 0, none⟩) n n) (w.alloc (.cells (madeCells #[Value.int .i64 0] n) 3)) := hmk
  have hd0 : 1 * n / 18446744073709551616 = 0 := by omega
  have hd1 : 1 * n % 18446744073709551616 = n := by omega
  rw [hd0, hd1] at HMul
  have hvl := hv.lt
  have hvc := hv.cell 0
  simp only [List.getElem?_toArray, List.getElem?_cons_zero] at hvc
  -- what make makes, and the first copy
  have hg0 : ((w.alloc (.cells (madeCells #[Value.int .i64 0] n) 3))).heap[w.heap.size]? = some (.cells (List.replicate n (Value.int .i64 0)).toArray 3 (0, 0)) := by rw [madeCells_one]; exact heap_alloc_new w _
  have hb0 := below_new w (.cells (madeCells #[Value.int .i64 0] n) 3)
  have hv0 := hv.alloc (.cells (madeCells #[Value.int .i64 0] n) 3)
  obtain ⟨W0, hW0⟩ : ∃ W0, W0 = w.alloc (.cells (madeCells #[Value.int .i64 0] n) 3) := ⟨_, rfl⟩
  rw [← hW0] at hg0 hb0 hv0
  obtain ⟨m, hm⟩ : ∃ m, m = Nat.min 1 n := ⟨_, rfl⟩
  have hm1 : m ≤ n := by rw [hm]; exact Nat.min_le_right _ _
  have hm2 : m ≤ 1 := by rw [hm]; exact Nat.min_le_left _ _
  have hm3 : n = 0 ∨ m = 1 := by rw [hm]; simp only [Nat.min_def]; split <;> omega
  obtain ⟨cur, hcur⟩ : ∃ cur, cur = splice (List.replicate n (Value.int .i64 0)) 0 (List.replicate m (Value.int .i64 v)) := ⟨_, rfl⟩
  have hsp := splice_rep (v := Value.int .i64 v) (M := 0) (m := m) (cur := List.replicate n (Value.int .i64 0)) (by simp) (by simpa using hm1)
  rw [← hcur, Nat.zero_add, List.length_replicate] at hsp
  obtain ⟨W1, hW1⟩ : ∃ W1, W1 = W0.setRow w.heap.size cur.toArray := ⟨_, rfl⟩
  have hcp : ∀ ty, (Builtin.copy_ #[23, 23] ty #[.slice (some ⟨w.heap.size, 0, none⟩) n n, .slice (some ⟨gv, 0, none⟩) 1 1]).run Try.prog W0 = .ok (goInt m) W1 := fun ty => by
    rw [hW1, hcur]
    refine run_copyK (P := Try.prog) W0 23 23 ty 3 1 w.heap.size 0 n n ⟨gv, 0, none⟩ 1 1 m _ 3 _ Try.underlying23 size_int hg0 hm.symm (by simp) (fun j u hj => ?_) (by simp; omega) (fun u hu => by obtain ⟨-, rfl⟩ := List.mem_replicate.1 hu; rfl)
    obtain ⟨h1, rfl⟩ := List.getElem?_eq_some_iff.1 hj
    simp only [List.length_replicate] at h1
    obtain rfl : j = 0 := by omega
    rw [Addr.add_lit, List.getElem_replicate]
    have := hv0.cell 0
    simpa using this
  have hg1 : W1.heap[w.heap.size]? = some (.cells cur.toArray 3 (0, 0)) := by rw [hW1]; exact setRow_heap W0 _ _ _ _ _ hg0
  have hb1 : Below w.heap.size w W1 := by rw [hW1]; exact below_setRow hb0 (Nat.le_refl _) _
  have g1 : decide ((n : Int) < 0) = false := decide_eq_false (by omega)
  have g2 : decide (9223372036854775807 < n) = false := decide_eq_false (by omega)
  rw [hW0] at hcp
  have HG := Lib.hid hg1
  have HB := Lib.hid hb1
  have HC := Lib.hid hcp
  have HS := Lib.hid hsp
  have w1 : IntKind.u64.wrap (n : Int) = n := IntWalk.u64_in _ (by omega)
  have w2 : IntKind.i64.wrap (n : Int) = n := IntWalk.i64_in _ (by omega)
  have HM3 := Lib.hid hm3
  clear hg1 hb1 hcp hsp hW1 hcur hg0 hb0 hv0 hW0 hm hd0 hd1 hm3 hvc
  go_enter Try.func25, Try.ntmps25
  go_wp2_with (first | (go_at_call 43; refine (HMul.out _).mono ?_; rintro e w' ⟨rfl, hw⟩; rw [hw]; clear hw w') | (refine wpList_copy_run _ rfl (.tmp 31) (.tmp 32) 23 23 rfl (.slice (some ⟨w.heap.size, 0, none⟩) n n) (.slice (some ⟨gv, 0, none⟩) 1 1) rfl rfl (HC.out _) ?_))
  go_loopw [8] (fun s wr => ∃ (M : Nat) (cur : List Value), s = .int .i64 M ∧ M ≤ n ∧ (n = 0 ∨ 1 ≤ M) ∧ Hid (wr.heap[w.heap.size]? = some (.cells cur.toArray 3 (0, 0)) ∧ cur.length = n ∧ cur.take M = List.replicate M (.int .i64 v)) ∧ Hid (Below w.heap.size w wr)) (fun s _ => n - (intOf s).toNat)
  case atStart => exact ⟨m, cur, rfl, hm1, by rcases HM3.out with h | h; exact .inl h; exact .inr (by omega), ⟨HG.out, HS.out.2, HS.out.1⟩, HB⟩
  case round =>
    obtain ⟨M, cur, rfl, hM, hM1, HC, HB⟩ := hrel
    by_cases hlt : M < n
    · have hM1 : 1 ≤ M := by omega
      obtain ⟨k, hk⟩ : ∃ k, k = Nat.min M (n - M) := ⟨_, rfl⟩
      have hk1 : 1 ≤ k := by rw [hk]; simp only [Nat.min_def]; split <;> omega
      have hk2 : k ≤ n - M := by rw [hk]; exact Nat.min_le_right _ _
      have hk3 : k ≤ M := by rw [hk]; exact Nat.min_le_left _ _
      obtain ⟨c1, c2, c3⟩ := HC.out
      have hsp := splice_rep (v := Value.int .i64 v) (M := M) (m := k) (cur := cur) c3 (by omega)
      obtain ⟨W2, hW2⟩ : ∃ W2, W2 = wr.drew.setRow w.heap.size (splice cur M (List.replicate k (Value.int .i64 v))).toArray := ⟨_, rfl⟩
      have hcp : ∀ ty, (Builtin.copy_ #[23, 23] ty #[.slice (some ⟨w.heap.size, M, none⟩) (n - M) (n - M), .slice (some ⟨w.heap.size, 0, none⟩) M n]).run Try.prog wr.drew = .ok (goInt k) W2 := fun ty => by
        rw [hW2]
        refine run_copyK (P := Try.prog) wr.drew 23 23 ty 3 1 w.heap.size M (n - M) (n - M) ⟨w.heap.size, 0, none⟩ M n k cur 3 _ Try.underlying23 size_int c1 hk.symm (by simp) (fun j u hj => ?_) (by simp; omega) (fun u hu => by obtain ⟨-, rfl⟩ := List.mem_replicate.1 hu; rfl)
        obtain ⟨h1, rfl⟩ := List.getElem?_eq_some_iff.1 hj
        simp only [List.length_replicate] at h1
        rw [Addr.add_lit, Nat.zero_add, cell_of_row wr.drew _ _ _ _ _ c1, List.getElem_replicate]
        have h2 : (cur.take M)[j]? = some (Value.int .i64 v) := by rw [c3, List.getElem?_replicate, if_pos (by omega)]
        rw [List.getElem?_take, if_pos (by omega)] at h2
        simpa using h2
      have hg2 : W2.heap[w.heap.size]? = some (.cells (splice cur M (List.replicate k (Value.int .i64 v))).toArray 3 (0, 0)) := by rw [hW2]; exact setRow_heap wr.drew _ _ _ _ _ c1
      have hb2 : Below w.heap.size w W2 := by rw [hW2]; exact below_setRow HB.out.drew (Nat.le_refl _) _
      obtain ⟨M2, hM2⟩ : ∃ M2, M2 = M + k := ⟨_, rfl⟩
      rw [← hM2] at hsp
      have w3 : IntKind.i64.wrap ((M : Int) + k) = M2 := by rw [IntWalk.i64_in _ (by omega)]; omega
      have HC2 := Lib.hid hcp
      have HG2 := Lib.hid hg2
      have HB2 := Lib.hid hb2
      have HS2 := Lib.hid (And.intro hsp.2 hsp.1)
      have q1 : M2 ≤ n := by omega
      have q2 : M < M2 := by omega
      have q3 : ¬ n = M := by omega
      have q4 : M ≤ n := hM
      have HCl := Lib.hid c2
      clear hcp hg2 hb2 hsp hW2 hM2 hk hk1 hk2 hk3 c1 c2 c3
      go_wp2
      go_region_law (refine step_copy_run rfl (.tmp 41) (.tmp 44) 23 23 rfl (.slice (some ⟨w.heap.size, M, none⟩) (n - M) (n - M)) (.slice (some ⟨w.heap.size, 0, none⟩) M n) (by simp [Act.eval, Act.put]) (by simp [Act.eval, Act.put]) (HC2.out _) ?_)
      all_goals
        simp only [Act.put, List.getElem_toArray, List.getElem_cons_zero, List.getElem_cons_succ, List.setIfInBounds_toArray, List.set_cons_zero, List.set_cons_succ]
        go_wp2
        go_roundw
        case rel => exact ⟨M2, _, by first | rfl | go_num, q1, .inr (by omega), ⟨HG2.out, by rw [HS2.out.1]; exact HCl.out, HS2.out.2⟩, HB2⟩
        case measure => simp [intOf]; omega
    · obtain ⟨c1, c2, c3⟩ := HC.out
      have hMn : M = n := by omega
      have hown := own_close (base := w.heap.size) (size := 1) (n := n) (c := n) cur (Nat.le_refl _) c1 (Nat.le_refl _) (by unfold maxLen; omega) (by omega)
      rw [Nat.mul_one, ← hMn, c3, hMn] at hown
      have HO := Lib.hid hown
      have q5 : decide (M < n) = false := decide_eq_false hlt
      clear c1 c2 c3 hown hMn
      go_wp2
      go_ret
      exact ⟨_, rfl, by rw [List.map_replicate]; exact HO.out, HB.out⟩
end Go.Proofs.Ytjdpcmmmdaffdaa

/-
  package word: New.
-/
namespace Go.Proofs.Ytjdpcmmmdaffdaa
open Go.RowKit

set_option maxHeartbeats 400000 in
theorem wnew_ok (n : Nat) (w : World) (hn : n ≤ 256) :
    Calls Try.prog 22 #[.int .i64 n] w fun e w' => e = .returned (.tuple #[.slice (some ⟨w.heap.size, 0, none⟩) n n, .int .i64 0]) ∧ w' = w.alloc (.cells (madeCells #[Value.int .u64 0] n) 35) := by
  obtain ⟨i0, hi, hz0, hz1, hz2⟩ := info_parts info_u64
  have hmk := fun W => run_make_rowN (P := Try.prog) 22 35 i0 (.int .u64 0) Try.underlying22 hi hz0 .i64 .i64 n n (Nat.le_refl _) (by rw [hz2]; omega) (by omega) W
  rw [hz1, Nat.mul_one] at hmk
  have h1 : ¬ (n : Int) < 0 := by omega
  have h2 : ¬ (256 : Int) < n := by omega
  go_enter Try.func22, Try.ntmps22
  go_wp2
  go_ret2
  exact ⟨rfl, rfl⟩
set_option maxHeartbeats 400000 in
theorem wnew_bad (n : Int) (w : World) (hn : n < 0 ∨ 256 < n) :
    Calls Try.prog 22 #[.int .i64 n] w fun e w' => e = .returned (.tuple #[.slice none 0 0, .int .i64 4]) ∧ w' = w := by
  rcases hn with h | h
  · go_enter Try.func22, Try.ntmps22
    go_wp2
    go_ret2
    exact ⟨rfl, rfl⟩
  · have h1 : ¬ n < 0 := by omega
    go_enter Try.func22, Try.ntmps22
    go_wp2
    go_ret2
    exact ⟨rfl, rfl⟩
theorem results_tmp4c {fn : Func} {t u v x : Tmp} (h : fn.results = #[.tmp t, .tmp u, .tmp v, .tmp x]) (tmps : Array Value) (P : Program) (w : World) :
    (results fn tmps).run P w = .ok (.tuple #[tmps.getD t undef, tmps.getD u undef, tmps.getD v undef, tmps.getD x undef]) w := by simp [results, h]

end Go.Proofs.Ytjdpcmmmdaffdaa

/-
  Contract of slices.Equal at []uint64.
-/
namespace Go.Proofs.Ytjdpcmmmdaffdaa
open Go.RowKit

set_option maxHeartbeats 400000 in
theorem equal_u64 (A A2 : Option Addr) (n c m c2 B B2 : Nat) (xs ys : List Int) (w : World) (hr : Reads w B 1 A n (xs.map (.int .u64))) (hr2 : Reads w B2 1 A2 m (ys.map (.int .u64))) (hn : n ≤ 1000000000000000000) (hm : m ≤ 1000000000000000000) :
    Calls Try.prog 15 #[.slice A n c, .slice A2 m c2] w fun e w' => e = .returned (.bool (decide (xs = ys))) ∧ ∃ q, w' = w.drewN q := by
  have hxl : xs.length = n := by have := hr.1; simpa using this
  have hyl : ys.length = m := by have := hr2.1; simpa using this
  have HX := Lib.hid hxl
  have HY := Lib.hid hyl
  clear hxl hyl
  by_cases hnm : n = m
  · subst hnm
    go_enter Try.func15, Try.ntmps15
    go_wp2
    go_loopw [13] (fun i wr => ∃ j : Nat, j ≤ n ∧ i = .int .i64 j ∧ xs.take j = ys.take j ∧ ∃ q, wr = w.drewN q) (fun i _ => n - (intOf i).toNat)
    case atStart => exact ⟨0, Nat.zero_le _, rfl, by simp, 0, rfl⟩
    case round =>
      obtain ⟨j, hj, rfl, ht, q, rfl⟩ := hrel
      have HT := Lib.hid ht
      clear ht
      by_cases hlt : j < n
      · obtain ⟨ad, u, rfl, _, hx, hc⟩ := hr.at_ hlt
        obtain ⟨ad2, u2, rfl, _, hx2, hc2⟩ := hr2.at_ hlt
        have hl : j < xs.length := by rw [HX.out]; exact hlt
        have hl2 : j < ys.length := by rw [HY.out]; exact hlt
        rw [List.getElem?_map, List.getElem?_eq_getElem hl] at hx
        rw [List.getElem?_map, List.getElem?_eq_getElem hl2] at hx2
        obtain rfl : u = .int .u64 xs[j] := by simpa using hx.symm
        obtain rfl : u2 = .int .u64 ys[j] := by simpa using hx2.symm
        clear hx hx2
        have T : Hid (xs.take (j + 1) = ys.take (j + 1) ↔ xs[j] = ys[j]) := by
          show _ ↔ _
          rw [List.take_succ_eq_append_getElem hl, List.take_succ_eq_append_getElem hl2, HT.out]
          constructor
          · intro h
            have := List.append_cancel_left h
            simpa using this
          · intro h; rw [h]
        have hlt' : (j : Int) < n := by omega
        generalize hgx : xs[j] = x at *
        generalize hgy : ys[j] = y at *
        have HGX := Lib.hid hgx
        have HGY := Lib.hid hgy
        clear hgx hgy
        by_cases he : x = y
        · subst he
          go_wp2
          go_quiet (fail)
          go_wp2
          go_roundw
          case rel => exact ⟨j + 1, by omega, by go_num, T.out.2 (by simp), _, rfl⟩
          case measure => simp [intOf]; omega
        · have he2 : (x == y) = false := by simpa using he
          have he3 : (x != y) = true := by simpa using he
          go_wp2
          go_quiet (fail)
          go_wp2
          go_ret
          refine ⟨?_, _, drewN_add _ _ _⟩
          have : ¬ xs = ys := by
            intro h
            apply he
            rw [← HGX.out, ← HGY.out]
            subst h
            rfl
          rw [decide_eq_false this]
          rfl
      · go_wp2
        go_ret
        have hjn : j = n := by omega
        subst hjn
        exact ⟨by rw [decide_eq_true (eq_of_takes _ _ _ HX.out HY.out HT.out)]; rfl, _, rfl⟩
  · have hne : ¬ xs = ys := by
      intro h
      subst h
      exact hnm (HX.out.symm.trans HY.out)
    have e1 : ((n : Int) == (m : Int)) = false := by simp; omega
    have e2 : ((n : Int) != (m : Int)) = true := by simp; omega
    have e3 : (n == m) = false := by simpa using hnm
    have e4 : (n != m) = true := by simpa using hnm
    go_enter Try.func15, Try.ntmps15
    go_wp2
    go_ret
    exact ⟨by rw [decide_eq_false hne]; rfl, 0, rfl⟩

end Go.Proofs.Ytjdpcmmmdaffdaa

/-
  Contract of slices.Equal at []int.
-/
namespace Go.Proofs.Ytjdpcmmmdaffdaa
open Go.RowKit

set_option maxHeartbeats 400000 in
theorem equal_int (A A2 : Option Addr) (n c m c2 B B2 : Nat) (xs ys : List Int) (w : World) (hr : Reads w B 1 A n (xs.map (.int .i64))) (hr2 : Reads w B2 1 A2 m (ys.map (.int .i64))) (hn : n ≤ 1000000000000000000) (hm : m ≤ 1000000000000000000) :
    Calls Try.prog 16 #[.slice A n c, .slice A2 m c2] w fun e w' => e = .returned (.bool (decide (xs = ys))) ∧ ∃ q, w' = w.drewN q := by
  have hxl : xs.length = n := by have := hr.1; simpa using this
  have hyl : ys.length = m := by have := hr2.1; simpa using this
  have HX := Lib.hid hxl
  have HY := Lib.hid hyl
  clear hxl hyl
  by_cases hnm : n = m
  · subst hnm
    go_enter Try.func16, Try.ntmps16
    go_wp2
    go_loopw [13] (fun i wr => ∃ j : Nat, j ≤ n ∧ i = .int .i64 j ∧ xs.take j = ys.take j ∧ ∃ q, wr = w.drewN q) (fun i _ => n - (intOf i).toNat)
    case atStart => exact ⟨0, Nat.zero_le _, rfl, by simp, 0, rfl⟩
    case round =>
      obtain ⟨j, hj, rfl, ht, q, rfl⟩ := hrel
      have HT := Lib.hid ht
      clear ht
      by_cases hlt : j < n
      · obtain ⟨ad, u, rfl, _, hx, hc⟩ := hr.at_ hlt
        obtain ⟨ad2, u2, rfl, _, hx2, hc2⟩ := hr2.at_ hlt
        have hl : j < xs.length := by rw [HX.out]; exact hlt
        have hl2 : j < ys.length := by rw [HY.out]; exact hlt
        rw [List.getElem?_map, List.getElem?_eq_getElem hl] at hx
        rw [List.getElem?_map, List.getElem?_eq_getElem hl2] at hx2
        obtain rfl : u = .int .i64 xs[j] := by simpa using hx.symm
        obtain rfl : u2 = .int .i64 ys[j] := by simpa using hx2.symm
        clear hx hx2
        have T : Hid (xs.take (j + 1) = ys.take (j + 1) ↔ xs[j] = ys[j]) := by
          show _ ↔ _
          rw [List.take_succ_eq_append_getElem hl, List.take_succ_eq_append_getElem hl2, HT.out]
          constructor
          · intro h
            have := List.append_cancel_left h
            simpa using this
          · intro h; rw [h]
        have hlt' : (j : Int) < n := by omega
        generalize hgx : xs[j] = x at *
        generalize hgy : ys[j] = y at *
        have HGX := Lib.hid hgx
        have HGY := Lib.hid hgy
        clear hgx hgy
        by_cases he : x = y
        · subst he
          go_wp2
          go_quiet (fail)
          go_wp2
          go_roundw
          case rel => exact ⟨j + 1, by omega, by go_num, T.out.2 (by simp), _, rfl⟩
          case measure => simp [intOf]; omega
        · have he2 : (x == y) = false := by simpa using he
          have he3 : (x != y) = true := by simpa using he
          go_wp2
          go_quiet (fail)
          go_wp2
          go_ret
          refine ⟨?_, _, drewN_add _ _ _⟩
          have : ¬ xs = ys := by
            intro h
            apply he
            rw [← HGX.out, ← HGY.out]
            subst h
            rfl
          rw [decide_eq_false this]
          rfl
      · go_wp2
        go_ret
        have hjn : j = n := by omega
        subst hjn
        exact ⟨by rw [decide_eq_true (eq_of_takes _ _ _ HX.out HY.out HT.out)]; rfl, _, rfl⟩
  · have hne : ¬ xs = ys := by
      intro h
      subst h
      exact hnm (HX.out.symm.trans HY.out)
    have e1 : ((n : Int) == (m : Int)) = false := by simp; omega
    have e2 : ((n : Int) != (m : Int)) = true := by simp; omega
    have e3 : (n == m) = false := by simpa using hnm
    have e4 : (n != m) = true := by simpa using hnm
    go_enter Try.func16, Try.ntmps16
    go_wp2
    go_ret
    exact ⟨by rw [decide_eq_false hne]; rfl, 0, rfl⟩

end Go.Proofs.Ytjdpcmmmdaffdaa

/-
  package store: New; the laws' closed fact 'stores'; sameStore of a store and itself.
-/
namespace Go.Proofs.Ytjdpcmmmdaffdaa
open Go.RowKit

set_option maxHeartbeats 400000 in
theorem equal_slot (A A2 : Option Addr) (n c c2 B B2 : Nat) (l : List Slot) (w : World) (hr : Reads w B 3 A n (slotsC l)) (hr2 : Reads w B2 3 A2 n (slotsC l)) (hn : n ≤ 1000000000000000000) :
    Calls Try.prog 18 #[.slice A n c, .slice A2 n c2] w fun e w' => e = .returned (.bool true) ∧ ∃ q, w' = w.drewN q := by
  go_enter Try.func18, Try.ntmps18
  go_wp2
  go_loopw [13] (fun i wr => ∃ j : Nat, j ≤ n ∧ i = .int .i64 j ∧ ∃ q, wr = w.drewN q) (fun i _ => n - (intOf i).toNat)
  case atStart => exact ⟨0, Nat.zero_le _, rfl, 0, rfl⟩
  case round =>
    obtain ⟨j, hj, rfl, q, rfl⟩ := hrel
    by_cases hlt : j < n
    · obtain ⟨ad, r, rfl, _, hs, c0, c1, cu⟩ := hr.slot hlt
      obtain ⟨ad2, r2, rfl, _, hs2, d0, d1, du⟩ := hr2.slot hlt
      obtain rfl : r = r2 := Option.some.inj (hs.symm.trans hs2)
      obtain ⟨x, y, z⟩ := r
      dsimp only at *
      have hlt' : (j : Int) < n := by omega
      clear hs hs2
      go_wp2
      go_quiet (fail)
      go_wp2
      go_roundw
      case rel => exact ⟨j + 1, by omega, by go_num, _, rfl⟩
      case measure => simp [intOf]; omega
    · go_wp2
      go_ret
      exact ⟨rfl, _, rfl⟩


theorem made_slots (n : Nat) : madeCells #[.int .i64 0, .bool false, .int .i64 0] (n * 3) = (slotsC (List.replicate n ⟨0, false, 0⟩)).toArray := by
  apply Array.ext
  · simp [madeCells, slotsC_length]
  · intro i h1 h2
    have h3 : i < n * 3 := by simpa [madeCells] using h1
    have hq : i / 3 < n := Nat.div_lt_of_lt_mul (by omega)
    have hr : i % 3 < 3 := Nat.mod_lt _ (by decide)
    have hi : i / 3 * 3 + i % 3 = i := by omega
    have h4 := slotsC_at (List.replicate n ⟨0, false, 0⟩) (i / 3) (i % 3) (by simpa using hq) hr
    rw [hi, List.getElem_replicate] at h4
    have h5 : (madeCells #[.int .i64 0, .bool false, .int .i64 0] (n * 3))[i]? = (slotC ⟨0, false, 0⟩)[i % 3]? := by
      rw [Array.getElem?_eq_getElem h1]
      have hr2 : i % 3 = 0 ∨ i % 3 = 1 ∨ i % 3 = 2 := by omega
      rcases hr2 with e | e | e <;> simp [madeCells, e, slotC]
    rw [← h4, Array.getElem?_eq_getElem h1] at h5
    rw [List.getElem?_eq_getElem (by simpa using h2)] at h5
    simpa using h5
theorem own_slots (w : World) (base n : Nat) (hb : base ≤ w.heap.size) (hn : n ≤ maxLen) :
    (w.alloc (.cells (madeCells #[.int .i64 0, .bool false, .int .i64 0] (n * 3)) 53)).ownsRow base 53 3 (.slice (some ⟨w.heap.size, 0, none⟩) n n) n (slotsC (List.replicate n ⟨0, false, 0⟩)) := by
  rw [made_slots]
  have h := own_close (w := w.alloc (.cells (slotsC (List.replicate n ⟨0, false, 0⟩)).toArray 53)) (base := base) (e := 53) (size := 3) (n := n) (c := n) (g := w.heap.size) (slotsC (List.replicate n ⟨0, false, 0⟩)) hb (heap_alloc_new w _) (Nat.le_refl _) hn (by rw [slotsC_length, List.length_replicate])
  rwa [List.take_of_length_le (by rw [slotsC_length, List.length_replicate]; exact Nat.le_refl _)] at h
theorem info_slot3 : (Try.prog.info? 53).map (fun i => (i.zero, i.size, i.bytes)) = some (some (.agg #[.int .i64 0, .bool false, .int .i64 0]), 3, 24) := by kernel_rfl

set_option maxHeartbeats 400000 in
theorem hnew_ok (n : Nat) (w : World) (hn : n ≤ 16) :
    Calls Try.prog 23 #[.int .i64 n] w fun e w' => e = .returned (.tuple #[.slice (some ⟨w.heap.size, 0, none⟩) n n, .int .i64 0]) ∧ w' = w.alloc (.cells (madeCells #[.int .i64 0, .bool false, .int .i64 0] (n * 3)) 53) := by
  obtain ⟨i0, hi, hz0, hz1, hz2⟩ := info_parts info_slot3
  have hmk := fun W => run_make_rowN (P := Try.prog) 26 53 i0 (.agg #[.int .i64 0, .bool false, .int .i64 0]) Try.underlying26 hi hz0 .i64 .i64 n n (Nat.le_refl _) (by rw [hz2]; omega) (by omega) W
  rw [hz1] at hmk
  have hcs : (Value.agg #[.int .i64 0, .bool false, .int .i64 0]).cells = #[.int .i64 0, .bool false, .int .i64 0] := rfl
  rw [hcs] at hmk
  have h1 : ¬ (n : Int) < 0 := by omega
  have h2 : ¬ (16 : Int) < n := by omega
  clear hcs
  go_enter Try.func23, Try.ntmps23
  go_wp2
  go_ret2
  exact ⟨rfl, rfl⟩

def newA (W : Nat) : List Int := if 0 < W then (List.replicate W 0).set 0 (wordOf 0 (W - 1) 0 true) else []
def newSt (W R H : Nat) : St := ⟨newA W, List.replicate R (-1), [], List.replicate H ⟨0, false, 0⟩⟩
theorem newA_length (W : Nat) : (newA W).length = W := by
  unfold newA
  split
  · simp
  · simp; omega
set_option maxRecDepth 100000 in
set_option maxHeartbeats 2000000 in
theorem newFn_ok (W R H : Nat) (w : World) (hW : W ≤ 256) (hR : R ≤ 32) (hH : H ≤ 16) :
    Calls Try.prog 12 #[.int .i64 W, .int .i64 R, .int .i64 H] w fun e w' => Below w.heap.size w w' ∧ ∃ (A1 : Option Addr) (c1 : Nat) (A2 : Option Addr) (c2 : Nat) (A4 : Option Addr) (c4 : Nat),
      e = .returned (.tuple #[.agg #[.slice A1 W c1, .slice A2 R c2, .slice none 0 0, .slice A4 H c4], .int .i64 0]) ∧ StO w' w.heap.size A1 W c1 A2 R c2 none 0 0 A4 H c4 (newSt W R H) := by
  have HW := Lib.hid (fun w => wnew_ok W w hW)
  have HHn := Lib.hid (fun w => hnew_ok H w hH)
  have HRp := Lib.hid (fun gv w hv => repeat_one gv R (-1) w hv (by omega))
  have g1 : decide (((R : Nat) : Int) < 0) = false := decide_eq_false (by omega)
  have g2 : decide (32 < R) = false := decide_eq_false (by omega)
  have g2' : decide ((32 : Int) < (R : Int)) = false := decide_eq_false (by omega)
  have hb1 := below_new w (.cells #[.slice none 0 0, .slice none 0 0, .slice none 0 0, .slice none 0 0] 28)
  have DR := Blk.new w 28 #[.slice none 0 0, .slice none 0 0, .slice none 0 0, .slice none 0 0]
  go_enter Try.func12, Try.ntmps12
  go_wp2_with fail
  refine (HW.out _).mono ?_
  rintro e w1 ⟨rfl, rfl⟩
  have hO1 := own_make1 (w.alloc (.cells #[.slice none 0 0, .slice none 0 0, .slice none 0 0, .slice none 0 0] 28)) w.heap.size 35 (.int .u64 0) W _ rfl hb1.size (by unfold maxLen; omega)
  have hb2 := hb1.alloc hb1.size (.cells (madeCells #[.int .u64 0] W) 35)
  have DR := DR.alloc (.cells (madeCells #[.int .u64 0] W) 35)
  rw [World.size_alloc] at hO1
  go_wp2_with fail
  refine (HHn.out _).mono ?_
  rintro e w2 ⟨rfl, rfl⟩
  have hO4 := own_slots ((w.alloc (.cells #[.slice none 0 0, .slice none 0 0, .slice none 0 0, .slice none 0 0] 28)).alloc (.cells (madeCells #[.int .u64 0] W) 35)) w.heap.size H hb2.size (by unfold maxLen; omega)
  have hO1 := hO1.alloc (.cells (madeCells #[.int .i64 0, .bool false, .int .i64 0] (H * 3)) 53)
  have hb3 := hb2.alloc hb2.size (.cells (madeCells #[.int .i64 0, .bool false, .int .i64 0] (H * 3)) 53)
  have DR := DR.alloc (.cells (madeCells #[.int .i64 0, .bool false, .int .i64 0] (H * 3)) 53)
  simp only [World.size_alloc] at hO4
  obtain ⟨W2, hW2⟩ : ∃ W2, W2 = ((w.alloc (.cells #[.slice none 0 0, .slice none 0 0, .slice none 0 0, .slice none 0 0] 28)).alloc (.cells (madeCells #[.int .u64 0] W) 35)).alloc (.cells (madeCells #[.int .i64 0, .bool false, .int .i64 0] (H * 3)) 53) := ⟨_, rfl⟩
  rw [← hW2] at hO1 hO4 hb3 DR ⊢
  clear hW2 hb1 hb2 HW HHn
  by_cases h0 : 0 < W
  · have g3 : decide (0 < W) = true := decide_eq_true h0
    have g3' : decide ((0 : Int) < (W : Int)) = true := decide_eq_true (by omega)
    obtain ⟨b, hb⟩ : ∃ b : Nat, b + 1 = W := ⟨W - 1, by omega⟩
    have hw : IntKind.i64.wrap ((W : Int) - 1) = b := (IntWalk.i64_in _ (by omega)).trans (by omega)
    have HWd := Lib.hid (fun w => hword_ok 0 b 0 true w (headE_ok.2 (by simp; omega)))
    have HNA : Hid (newA W = (List.replicate W 0).set 0 (wordOf 0 b 0 true)) := by
      show _ = _
      unfold newA
      rw [if_pos h0, show ((W : Int) - 1) = b by omega]
    generalize wordOf 0 b 0 true = x at *
    go_wp2_with fail
    refine (HWd.out _).mono ?_
    rintro e w3 ⟨rfl, hb4⟩
    have hO1 := own_below hO1 hb4
    have hO4 := own_below hO4 hb4
    have DR := DR.below hb4 DR.lt
    have hb04 := below_step hb3 hb4
    have cc := hO1.cellAt 0 (by omega)
    have ff := hO1.frozenAt 0
    rw [List.getElem?_replicate, if_pos h0] at cc
    have hO1s := (hO1.stored 0 (.int .u64 x)).1
    have hO4s := own_apart hO4 (p := ⟨w.heap.size + 1, 0, none⟩) (by simp [Value.ownBlock]) (.int .u64 x)
    have hb05 := hb04.setCell (p := ⟨w.heap.size + 1, 0, none⟩) (by simp) (.int .u64 x)
    have DRs := DR.far (p := ⟨w.heap.size + 1, 0, none⟩) (by simp) (.int .u64 x)
    clear hO1 hO4 DR HWd hb3
    have DV := Blk.new (w3.setCell ⟨w.heap.size + 1, 0, none⟩ (.int .u64 x)) 3 #[.int .i64 (-1)]
    rw [World.size_setCell] at DV
    have hbv := hb05.alloc hb05.size (.cells #[.int .i64 (-1)] 3)
    have DRv := DRs.alloc (.cells #[.int .i64 (-1)] 3)
    have hO1v := hO1s.alloc (.cells #[.int .i64 (-1)] 3)
    have hO4v := hO4s.alloc (.cells #[.int .i64 (-1)] 3)
    clear hO1s hO4s DRs hb05
    go_wp2_with fail
    refine (HRp.out _ _ DV).mono ?_
    rintro e w5 ⟨g, rfl, hO2, hb6⟩
    have DRz := DRv.below hb6 DRv.lt
    have hb7 := below_step hbv hb6
    have HO : Hid (StO w5 w.heap.size (some ⟨w.heap.size + 1, 0, none⟩) W W (some ⟨g, 0, none⟩) R R none 0 0 (some ⟨w.heap.size + 1 + 1, 0, none⟩) H H (newSt W R H)) := by
      refine ⟨?_, own_mono hO2 hbv.size, World.ownsRow_nil _ _ _ _, own_below hO4v hb6⟩
      show World.ownsRow w5 w.heap.size 35 1 _ W ((newA W).map (.int .u64))
      rw [HNA.out]
      have := own_below hO1v hb6
      rw [List.map_set, List.map_replicate]
      exact this
    obtain ⟨r0, r1, r2, r3⟩ := DRz.four
    have f0 := DRz.frozen 0
    have f1 := DRz.frozen 1
    have f2 := DRz.frozen 2
    have f3 := DRz.frozen 3
    clear hO1v hO4v hO2 DRv hbv hb6 DV HRp
    go_wp2_with fail
    refine bodyPost_ret (v := .tuple #[.agg #[.slice (some ⟨w.heap.size + 1, 0, none⟩) W W, .slice (some ⟨g, 0, none⟩) R R, .slice none 0 0, .slice (some ⟨w.heap.size + 1 + 1, 0, none⟩) H H], .int .i64 0]) ?_ rfl ⟨below_block4 hb7 (Nat.le_refl _) _ _ _ _, _, W, _, R, _, H, rfl, HO.out.store DRz _ _ _ _⟩
    have z4 := (((DRz.set_ 0 (.slice (some ⟨w.heap.size + 1, 0, none⟩) W W)).set_ 1 (.slice (some ⟨g, 0, none⟩) R R)).set_ 2 (.slice none 0 0)).set_ 3 (.slice (some ⟨w.heap.size + 1 + 1, 0, none⟩) H H)
    obtain ⟨z0, z1, z2, z3⟩ := z4.four
    simp only [results, Try.results12]
    go_simp
  · have g3 : decide (0 < W) = false := decide_eq_false h0
    have g3' : decide ((0 : Int) < (W : Int)) = false := decide_eq_false (by omega)
    have HNA : Hid (newA W = []) := by show _ = _; unfold newA; rw [if_neg h0]
    have DV := Blk.new (W2) 3 #[.int .i64 (-1)]
    have hbv := hb3.alloc hb3.size (.cells #[.int .i64 (-1)] 3)
    have DRv := DR.alloc (.cells #[.int .i64 (-1)] 3)
    have hO1v := hO1.alloc (.cells #[.int .i64 (-1)] 3)
    have hO4v := hO4.alloc (.cells #[.int .i64 (-1)] 3)
    clear hO1 hO4 DR hb3
    go_wp2_with fail
    refine (HRp.out _ _ DV).mono ?_
    rintro e w5 ⟨g, rfl, hO2, hb6⟩
    have DRz := DRv.below hb6 DRv.lt
    have hb7 := below_step hbv hb6
    have HO : Hid (StO w5 w.heap.size (some ⟨w.heap.size + 1, 0, none⟩) W W (some ⟨g, 0, none⟩) R R none 0 0 (some ⟨w.heap.size + 1 + 1, 0, none⟩) H H (newSt W R H)) := by
      refine ⟨?_, own_mono hO2 hbv.size, World.ownsRow_nil _ _ _ _, own_below hO4v hb6⟩
      show World.ownsRow w5 w.heap.size 35 1 _ W ((newA W).map (.int .u64))
      rw [HNA.out]
      have := own_below hO1v hb6
      rw [show W = 0 by omega] at this ⊢
      exact this
    obtain ⟨r0, r1, r2, r3⟩ := DRz.four
    have f0 := DRz.frozen 0
    have f1 := DRz.frozen 1
    have f2 := DRz.frozen 2
    have f3 := DRz.frozen 3
    clear hO1v hO4v hO2 DRv hbv hb6 DV HRp
    go_wp2_with fail
    refine bodyPost_ret (v := .tuple #[.agg #[.slice (some ⟨w.heap.size + 1, 0, none⟩) W W, .slice (some ⟨g, 0, none⟩) R R, .slice none 0 0, .slice (some ⟨w.heap.size + 1 + 1, 0, none⟩) H H], .int .i64 0]) ?_ rfl ⟨below_block4 hb7 (Nat.le_refl _) _ _ _ _, _, W, _, R, _, H, rfl, HO.out.store DRz _ _ _ _⟩
    have z4 := (((DRz.set_ 0 (.slice (some ⟨w.heap.size + 1, 0, none⟩) W W)).set_ 1 (.slice (some ⟨g, 0, none⟩) R R)).set_ 2 (.slice none 0 0)).set_ 3 (.slice (some ⟨w.heap.size + 1 + 1, 0, none⟩) H H)
    obtain ⟨z0, z1, z2, z3⟩ := z4.four
    simp only [results, Try.results12]
    go_simp

theorem eq_true {α : Type} [DecidableEq α] (a : α) : decide (a = a) = true := decide_eq_true rfl
set_option maxRecDepth 100000 in
set_option maxHeartbeats 2000000 in
theorem sameStore_true (A : Option Addr) (n c : Nat) (RA : Option Addr) (rn rc : Nat) (PA : Option Addr) (pn pc : Nat) (HA : Option Addr) (hn hc : Nat) (A' : Option Addr) (c' : Nat) (RA' : Option Addr) (rc' : Nat) (PA' : Option Addr) (pc' : Nat) (HA' : Option Addr) (hc' : Nat) (S : St) (w : World)
    (hR : StR w w.heap.size A n RA rn PA pn HA hn S) (hR' : StR w w.heap.size A' n RA' rn PA' pn HA' hn S) (h1 : n ≤ 1000000000000000000) (h2 : rn ≤ 1000000000000000000) (h3 : pn ≤ 1000000000000000000) (h4 : hn ≤ 1000000000000000000) :
    Calls Try.prog 7 #[.agg #[.slice A n c, .slice RA rn rc, .slice PA pn pc, .slice HA hn hc], .agg #[.slice A' n c', .slice RA' rn rc', .slice PA' pn pc', .slice HA' hn hc']] w fun e w' => e = .returned (.bool true) ∧ Below w.heap.size w w' := by
  have hb1 := below_new w (.cells #[.slice A n c, .slice RA rn rc, .slice PA pn pc, .slice HA hn hc] 28)
  have DS := (Blk.new w 28 #[.slice A n c, .slice RA rn rc, .slice PA pn pc, .slice HA hn hc]).alloc (.cells #[.slice A' n c', .slice RA' rn rc', .slice PA' pn pc', .slice HA' hn hc'] 28)
  have DT := Blk.new (w.alloc (.cells #[.slice A n c, .slice RA rn rc, .slice PA pn pc, .slice HA hn hc] 28)) 28 #[.slice A' n c', .slice RA' rn rc', .slice PA' pn pc', .slice HA' hn hc']
  have hb2 := hb1.alloc hb1.size (.cells #[.slice A' n c', .slice RA' rn rc', .slice PA' pn pc', .slice HA' hn hc'] 28)
  rw [World.size_alloc] at DT
  have R1 := hR.below hb2
  have R2 := hR'.below hb2
  have E1 := Lib.hid (fun W r r' => equal_u64 A A' n c n c' w.heap.size w.heap.size S.a S.a W r r' h1 h1)
  have E2 := Lib.hid (fun W r r' => equal_int RA RA' rn rc rn rc' w.heap.size w.heap.size S.r S.r W r r' h2 h2)
  have E3 := Lib.hid (fun W r r' => equal_pin PA PA' pn pc pc' w.heap.size w.heap.size S.p W r r' h3)
  have E4 := Lib.hid (fun W r r' => equal_slot HA HA' hn hc hc' w.heap.size w.heap.size S.l W r r' h4)
  simp only [eq_true] at E1 E2
  obtain ⟨s0, s1, s2, s3⟩ := DS.four
  obtain ⟨t0, t1, t2, t3⟩ := DT.four
  clear hR hR'
  go_enter Try.func7, Try.ntmps7
  go_wp2_with fail
  refine Calls.mono (E1.out _ (by exact R1.a) (by exact R2.a)) ?_
  rintro e w1 ⟨rfl, q1, rfl⟩
  go_wp2_with fail
  refine Calls.mono (E2.out _ (by exact R1.r) (by exact R2.r)) ?_
  rintro e w2 ⟨rfl, q2, rfl⟩
  go_wp2_with fail
  refine Calls.mono (E3.out _ (by exact R1.p) (by exact R2.p)) ?_
  rintro e w3 ⟨rfl, q3, rfl⟩
  go_wp2_with fail
  refine Calls.mono (E4.out _ (by exact R1.l) (by exact R2.l)) ?_
  rintro e w4 ⟨rfl, q4, rfl⟩
  go_wp2_with fail
  go_ret
  exact ⟨by first | rfl | simp, by first | exact below_drewN hb2 _ | exact below_drewN (below_drewN (below_drewN (below_drewN hb2 _) _) _) _⟩

set_option maxHeartbeats 1000000 in
theorem stores_true (w : World) : Calls Try.prog 5 #[] w fun e w' => e = .returned (.bool true) ∧ Below w.heap.size w w' := by
  have H := Lib.hid (newFn_ok 4 1 1 w (by decide) (by decide) (by decide))
  go_enter Try.func5, Try.ntmps5
  go_wp2_with fail
  refine H.out.mono ?_
  rintro e w1 ⟨hb, A1, c1, A2, c2, A4, c4, rfl, -⟩
  have DG := Blk.new w1 28 #[.slice A1 4 c1, .slice A2 1 c2, .slice none 0 0, .slice A4 1 c4]
  have hb2 := hb.alloc hb.size (.cells #[.slice A1 4 c1, .slice A2 1 c2, .slice none 0 0, .slice A4 1 c4] 28)
  obtain ⟨o0, o1, o2, o3⟩ := DG.four
  go_wp2_with fail
  go_ret
  exact ⟨by first | rfl | simp, hb2⟩
end Go.Proofs.Ytjdpcmmmdaffdaa
