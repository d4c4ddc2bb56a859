/-
  Plain law: an arena that is cleaned twice. No program stands here.
-/
import Derived.Test.YtammailnbgojgaaCleanLaw
namespace Go.Proofs.Ytammailnbgojgaa
open Go.RowKit

theorem slid_pairwise {N : Int} (pinned : List Int) : ∀ (keep L : List Int) (e : Int), Kept N keep L → (∀ x, keep[0]? = some x → e ≤ x) → (slidGo pinned e keep L).Pairwise (· < ·) := by
  intro keep
  induction keep with
  | nil => intro L e _ _; simp [slidGo]
  | cons x ks ih =>
    intro L e hK he
    cases L with
    | nil => simp [slidGo]
    | cons n ls =>
      obtain ⟨x0, n1, n2, hxn⟩ := hK.at_ 0 x n rfl rfl
      have hex := he x rfl
      obtain ⟨z, hz⟩ : ∃ z, z = (if x ∈ pinned then x else e) := ⟨_, rfl⟩
      have hz1 : e ≤ z ∧ z ≤ x := by rw [hz]; split <;> omega
      have hh : ∀ y, ks[0]? = some y → z + n ≤ y := fun y hy => by have := hK.next 0 x n y rfl rfl (by simpa using hy); omega
      have hS := slid_of N pinned ks ls (z + n) hK.tail hh
      have hY : slidGo pinned e (x :: ks) (n :: ls) = z :: slidGo pinned (z + n) ks ls := by simp only [slidGo]; rw [← hz]
      rw [hY]
      refine List.pairwise_cons.2 ⟨fun y hy => ?_, ih ls (z + n) hK.tail hh⟩
      obtain ⟨j, hj⟩ := List.mem_iff_getElem?.1 hy
      have := hS.low j y hj
      omega
theorem slid_slid (pinned : List Int) : ∀ (keep L : List Int) (e : Int), slidGo pinned e (slidGo pinned e keep L) L = slidGo pinned e keep L := by
  intro keep
  induction keep with
  | nil => intro L e; simp [slidGo]
  | cons x ks ih =>
    intro L e
    cases L with
    | nil => simp [slidGo]
    | cons n ls =>
      obtain ⟨z, hz⟩ : ∃ z, z = (if x ∈ pinned then x else e) := ⟨_, rfl⟩
      have hzz : (if z ∈ pinned then z else e) = z := by
        by_cases h : z ∈ pinned
        · rw [if_pos h]
        · rw [if_neg h]
          by_cases hx : x ∈ pinned
          · rw [if_pos hx] at hz; rw [hz] at h; exact absurd hx h
          · rw [if_neg hx] at hz; exact hz.symm
      have hY : slidGo pinned e (x :: ks) (n :: ls) = z :: slidGo pinned (z + n) ks ls := by simp only [slidGo]; rw [← hz]
      rw [hY]
      simp only [slidGo]
      rw [hzz, ih]

theorem Cleaned.again {a f p L Y b now : List Int} (h : Cleaned a f p L Y b now) (hI : CleanIs a f p L Y b now) : CleanOk b now p ∧ ∀ L' Y' b' now', CleanIs b now p L' Y' b' now' → L' = Y ∧ Y' = Y ∧ b' = b ∧ now' = now := by
  refine ⟨⟨h.laid.check, h.alive, hI.rises⟩, fun L' Y' b' now' hI' => ?_⟩
  have hP := h.plan
  obtain ⟨hK, -⟩ := kept_of hI.longs
  have hYs : Y.Pairwise (· < ·) := by
    rw [hI.y]
    exact slid_pairwise p L _ 0 hK (fun x hx => hP.nn2 x (List.mem_of_getElem? hx))
  have hmap : L.map (posL L Y) = Y := posL_map hP.nodup hP.len
  have hR := reached_iso h.laid.iso hP.nn2 hI.reached (by rw [hmap]; exact hYs.imp (fun h => by omega))
  rw [← h.map, hmap] at hR
  obtain rfl : L' = Y := Reached.unique hI'.reached hR
  have hYn : L'.Nodup := by
    rw [List.nodup_iff_pairwise_ne]
    exact hYs.imp (fun h => by omega)
  have hP' := planned_of hI'.longs
  rw [← hI'.y] at hP'
  have hat : ∀ (j : Nat) (x y : Int), L[j]? = some x → L'[j]? = some y → ∃ s s', spotAt (spotsL a) x = some s ∧ spotAt (spotsL b) y = some s' ∧ s'.r = s.r ∧ s'.b = s.b ∧ s'.t = s.t ∧ bodyOf b s' = bodyOf a s ∧ refsOf b s' = (refsOf a s).map (refT (posL L L')) := by
    intro j x y hx hy
    have hxL := List.mem_of_getElem? hx
    obtain ⟨s, hs⟩ := begsL_iff.1 (h.closed.begs x hxL)
    obtain ⟨s', hs', e⟩ := h.laid.iso.at_ x hxL s hs
    rw [posL_at hP.nodup hx hy] at hs'
    exact ⟨s, s', hs, hs', e⟩
  have hlen : (longsV b L' p) = longsV a L p := by
    refine List.ext_getElem? (fun j => ?_)
    by_cases hj : j < L.length
    · have hx : L[j]? = some L[j] := List.getElem?_eq_getElem hj
      have hy : L'[j]? = some (L'[j]'(by rw [hP.len]; exact hj)) := List.getElem?_eq_getElem _
      have hy' : Y'[j]? = some (Y'[j]'(by rw [hP'.len, hP.len]; exact hj)) := List.getElem?_eq_getElem _
      obtain ⟨s, i, e1, -, -, -, -, e6, -⟩ := hP.at_ j _ _ hx hy
      obtain ⟨s2, i2, f1, -, -, -, -, f6, -⟩ := hP'.at_ j _ _ hy hy'
      obtain ⟨t, t', g1, g2, g3, g4, -⟩ := hat j _ _ hx hy
      obtain rfl := Option.some.inj (e1.symm.trans g1)
      obtain rfl := Option.some.inj (f1.symm.trans g2)
      rw [e6, f6]
      unfold Spot.long
      rw [g3, g4]
    · rw [List.getElem?_eq_none (by rw [hP'.lenL, hP.len]; omega), List.getElem?_eq_none (by rw [hP.lenL]; omega)]
  have hY' : Y' = L' := by
    rw [hI'.y, hlen]
    conv => lhs; rw [hI.y]
    rw [slid_slid]
    exact hI.y.symm
  subst hY'
  have hid : ∀ y ∈ Y', posL Y' Y' y = y := fun y hy => by
    obtain ⟨j, z, h1, h2, h3⟩ := posL_ex hYn rfl hy
    rw [h1] at h2
    rw [h3]
    exact (Option.some.inj h2).symm
  refine ⟨rfl, rfl, ?_, ?_⟩
  · have e1 := hI'.b
    unfold slidW at e1
    rw [← hI'.y, h.laid.len] at e1
    have e2 := hI.b
    unfold slidW at e2
    rw [← hI.y] at e2
    rw [e1]
    refine Eq.trans ?_ e2.symm
    congr 2
    refine List.ext_getElem? (fun j => ?_)
    by_cases hj : j < L.length
    · have hx : L[j]? = some L[j] := List.getElem?_eq_getElem hj
      have hy : Y'[j]? = some (Y'[j]'(by rw [hP.len]; exact hj)) := List.getElem?_eq_getElem _
      rw [rowsOf_at hy hy, rowsOf_at hx hy]
      obtain ⟨s, s', g1, g2, g3, g4, g5, g6, g7⟩ := hat j _ _ hx hy
      rw [rowAt_some g1, rowAt_some g2]
      congr 2
      unfold kC
      rw [g3, g4, g5, g6, g7, List.map_map]
      congr 2
      refine List.map_congr_left (fun v hv => ?_)
      show refT _ (refT _ v) = refT _ v
      by_cases h0 : v = 0
      · subst h0; rfl
      · have hk := Iso.link_of h.closed (List.mem_of_getElem? hx) g1 v hv h0
        have hn := h.laid.iso.nn _ hk
        have e : refT (posL L Y') v = posL L Y' (v - 1) + 1 := by unfold refT; rw [if_neg h0]
        rw [e]
        unfold refT
        rw [if_neg (by omega), show posL L Y' (v - 1) + 1 - 1 = posL L Y' (v - 1) by omega, hid]
        obtain ⟨i, u, -, hu, e2⟩ := posL_ex hP.nodup hP.len hk
        rw [e2]
        exact List.mem_of_getElem? hu
    · rw [List.getElem?_eq_none (by rw [rowsOf_length rfl, hP.len]; omega), List.getElem?_eq_none (by rw [rowsOf_length hP.len]; omega)]
  · rw [hI'.now]
    conv => rhs; rw [← List.map_id now]
    refine List.map_congr_left (fun x hx => hid x ?_)
    rw [hI.now] at hx
    obtain ⟨z, hz, rfl⟩ := List.mem_map.1 hx
    obtain ⟨i, u, -, hu, e2⟩ := posL_ex hP.nodup hP.len (h.sub z (List.mem_append_left _ hz))
    rw [e2]
    exact List.mem_of_getElem? hu
end Go.Proofs.Ytammailnbgojgaa
