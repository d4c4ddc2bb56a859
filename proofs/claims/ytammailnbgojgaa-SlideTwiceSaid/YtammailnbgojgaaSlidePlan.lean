/-
  Plain law: what is laid where a plan says. No program stands here.
-/
import Derived.Test.YtammailnbgojgaaSlideLaw
namespace Go.Proofs.Ytammailnbgojgaa
open Go.RowKit

theorem rows_slid {a : List Int} {φ : Int → Int} (N : Nat) (pinned : List Int) : ∀ (keep L : List Int) (e : Nat), Kept N keep L → (∀ x, keep[0]? = some x → (e : Int) ≤ x) → e ≤ N →
    (∀ (j : Nat) (x k : Int), keep[j]? = some x → L[j]? = some k → (rowAt a φ x).ok ∧ (rowAt a φ x).f = false ∧ ((rowAt a φ x).len : Int) = k) →
    RowsOk N e (List.zipWith (fun x y => (y.toNat, rowAt a φ x)) keep (slidGo pinned e keep L)) ∧ ysOf (List.zipWith (fun x y => (y.toNat, rowAt a φ x)) keep (slidGo pinned e keep L)) = slidGo pinned e keep L ∧
      lensOf (List.zipWith (fun x y => (y.toNat, rowAt a φ x)) keep (slidGo pinned e keep L)) = L := by
  intro keep
  induction keep with
  | nil =>
    intro L e hK _ he _
    cases L with
    | nil => exact ⟨he, rfl, rfl⟩
    | cons n ls => have := hK.same; simp at this
  | cons x ks ih =>
    intro L e hK he heN hrow
    cases L with
    | nil => have := hK.same; simp at this
    | cons n ls =>
      obtain ⟨x0, n1, n2, hxn⟩ := hK.at_ 0 x n rfl rfl
      have hex := he x rfl
      obtain ⟨r1, r2, r3⟩ := hrow 0 x n rfl rfl
      obtain ⟨z, hz⟩ : ∃ z : Nat, (z : Int) = (if x ∈ pinned then x else (e : Int)) := by
        by_cases h : x ∈ pinned
        · rw [if_pos h]; exact ⟨x.toNat, by omega⟩
        · rw [if_neg h]; exact ⟨e, rfl⟩
      have hz1 : e ≤ z ∧ (z : Int) ≤ x := by
        by_cases h : x ∈ pinned
        · rw [if_pos h] at hz; omega
        · rw [if_neg h] at hz; omega
      have hY : slidGo pinned e (x :: ks) (n :: ls) = (z : Int) :: slidGo pinned ((z + (rowAt a φ x).len : Nat) : Int) ks ls := by
        simp only [slidGo]
        rw [← hz, show ((z + (rowAt a φ x).len : Nat) : Int) = (z : Int) + n by omega]
      obtain ⟨i1, i2, i3⟩ := ih ls (z + (rowAt a φ x).len) hK.tail (fun y hy => by have := hK.next 0 x n y rfl rfl (by simpa using hy); omega) (by omega) (fun j x' k h1 h2 => hrow (j + 1) x' k (by simpa using h1) (by simpa using h2))
      rw [hY, List.zipWith_cons_cons]
      simp only [ysOf, lensOf] at i2 i3 ⊢
      rw [List.map_cons, List.map_cons, i2, i3]
      refine ⟨⟨?_, r1, r2, ?_⟩, ?_, ?_⟩
      · rw [Int.toNat_natCast]; exact hz1.1
      · rw [Int.toNat_natCast]; exact i1
      · rw [Int.toNat_natCast]
      · rw [r3]

/-- All that the walk asks of a plan. -/
structure Planned (a keep pinned L Y : List Int) : Prop where
  nodup : keep.Nodup
  len : Y.length = keep.length
  lenL : L.length = keep.length
  nn : ∀ y ∈ Y, 0 ≤ y
  rows : RowsOk a.length 0 (rowsOf a keep Y)
  ys : ysOf (rowsOf a keep Y) = Y
  lens : lensOf (rowsOf a keep Y) = L
  begs : ∀ x ∈ keep, x ∈ begsL (spotsL a)
  nn2 : ∀ x ∈ keep, 0 ≤ x
  at_ : ∀ (j : Nat) (x y : Int), keep[j]? = some x → Y[j]? = some y → ∃ (s : Spot) (i : Nat), spotAt (spotsL a) x = some s ∧ atIx a x = i ∧ (spotsL a)[i]? = some s ∧ SpotOk a s ∧ y + s.long ≤ a.length ∧ L[j]? = some s.long ∧ 0 ≤ y ∧ y ≤ x
theorem pL_isBeg (x : Int) : pL x = isBeg x := by
  funext s
  unfold pL isBeg
  rw [Bool.and_comm]
theorem planned_of {a keep pinned : List Int} (hE : longsE a keep pinned = 0) : Planned a keep pinned (longsV a keep pinned) (slidGo pinned 0 keep (longsV a keep pinned)) := by
  obtain ⟨hK, hN⟩ := kept_of hE
  obtain ⟨h1, h2, h3, h4, h5⟩ := longsE_ok.1 hE
  have h0 := (checkE_ok.1 h1).1
  have hV : longsV a keep pinned = keep.map (longAt (spotsL a)) := by unfold longsV; rw [if_pos hE]
  have hspot : ∀ x ∈ keep, ∃ (s : Spot) (i : Nat), spotAt (spotsL a) x = some s ∧ atIx a x = i ∧ (spotsL a)[i]? = some s ∧ SpotOk a s ∧ longAt (spotsL a) x = s.long := by
    intro x hx
    obtain ⟨i, s, e1, e2, e3, e4, e5, e6, e7⟩ := spots_of_ix h0 (h4 x hx)
    refine ⟨s, i, ?_, e7, e2, e5, e6⟩
    unfold spotAt
    rw [← pL_isBeg]
    rcases ixOf_cases (pL x) (spotsL a) with ⟨f1, f2⟩ | ⟨i', s', f1, f2, f3, f4⟩
    · have := f2 s (List.mem_of_getElem? e2)
      simp [pL, e3, e4] at this
    · have : i' = i := by omega
      subst this
      obtain rfl := Option.some.inj (f2.symm.trans e2)
      rw [List.find?_eq_some_iff_append]
      refine ⟨f3, (spotsL a).take i', (spotsL a).drop (i' + 1), ?_, fun y hy => by simp [f4 y hy]⟩
      obtain ⟨q1, q2⟩ := List.getElem?_eq_some_iff.1 f2
      rw [← q2, ← List.drop_eq_getElem_cons q1, List.take_append_drop]
  have hn : keep.Nodup := by
    rw [List.nodup_iff_pairwise_ne]
    exact (risesP_pairwise h2).imp (fun h => by omega)
  have he : ∀ x, keep[0]? = some x → (0 : Int) ≤ x := fun x hx => by
    obtain ⟨s, i, e1, -, -, e4, -⟩ := hspot x (List.mem_of_getElem? hx)
    have := e4.loc0
    have := (spotAt_some e1).2.2
    omega
  have hS := slid_of a.length pinned keep (longsV a keep pinned) 0 hK he
  have hrows := rows_slid (a := a) (φ := posL keep (slidGo pinned 0 keep (longsV a keep pinned))) a.length pinned keep (longsV a keep pinned) 0 hK he (Nat.zero_le _) (fun j x k hx hk => by
    obtain ⟨s, i, e1, -, -, e4, e5⟩ := hspot x (List.mem_of_getElem? hx)
    rw [rowAt_some e1]
    obtain ⟨k1, k2, -, -⟩ := kC_ok (posL keep (slidGo pinned 0 keep (longsV a keep pinned))) e4 (spotAt_some e1).2.1
    refine ⟨k1, rfl, ?_⟩
    rw [hV, List.getElem?_map, hx] at hk
    have := Option.some.inj hk
    omega)
  refine ⟨hn, hS.len, hK.same, fun y hy => ?_, hrows.1, hrows.2.1, hrows.2.2, fun x hx => ?_, fun x hx => ?_, fun j x y hx hy => ?_⟩
  · obtain ⟨j, hj⟩ := List.mem_iff_getElem?.1 hy
    exact hS.low j y hj
  · obtain ⟨s, i, e1, -⟩ := hspot x hx
    exact begsL_iff.2 ⟨s, e1⟩
  · obtain ⟨s, i, e1, -, -, e4, -⟩ := hspot x hx
    have := e4.loc0
    have := (spotAt_some e1).2.2
    omega
  · obtain ⟨s, i, e1, e2, e3, e4, e5⟩ := hspot x (List.mem_of_getElem? hx)
    have hk : (longsV a keep pinned)[j]? = some s.long := by rw [hV, List.getElem?_map, hx, Option.map_some, e5]
    obtain ⟨g1, g2, g3, g4⟩ := hS.at_ j x y s.long hx hk hy
    exact ⟨s, i, e1, e2, e3, e4, g3, hk, hS.low j y hy, g1⟩

/-- The map of names, of the first j that are kept. -/
def nowM (keep Y : List Int) (j : Nat) : Int → Option Value := fun v => if v = 0 then some (.int .u64 0) else if v - 1 ∈ keep.take j then some (.int .u64 (posL keep Y (v - 1) + 1)) else none
theorem nowM_zero (keep Y : List Int) : nowM keep Y 0 = upd (fun _ => none) 0 (.int .u64 0) := by
  funext v
  simp [nowM, upd]
theorem nowM_succ {keep Y : List Int} (hn : keep.Nodup) {j : Nat} {x y : Int} (hx : keep[j]? = some x) (hy : Y[j]? = some y) (h0 : 0 ≤ x) : nowM keep Y (j + 1) = upd (nowM keep Y j) (x + 1) (.int .u64 (y + 1)) := by
  funext v
  unfold nowM upd
  obtain ⟨h1, h2⟩ := List.getElem?_eq_some_iff.1 hx
  rw [List.take_succ_eq_append_getElem h1, h2]
  by_cases hv : v = x + 1
  · subst hv
    rw [if_neg (by omega), if_pos rfl, show x + 1 - 1 = x by omega, if_pos (by simp), posL_at hn hx hy]
  · rw [if_neg hv]
    have : (v - 1 ∈ keep.take j ++ [x]) ↔ v - 1 ∈ keep.take j := by
      rw [List.mem_append, List.mem_singleton]
      exact ⟨fun h => h.resolve_right (by omega), .inl⟩
    simp only [this]
theorem nowM_at {keep Y : List Int} {v : Int} (h : v ≠ 0 → v - 1 ∈ keep) : nowM keep Y keep.length v = some (.int .u64 (refT (posL keep Y) v)) := by
  unfold nowM refT
  by_cases h0 : v = 0
  · rw [if_pos h0, if_pos h0]
  · rw [if_neg h0, if_neg h0, List.take_length, if_pos (h h0)]
end Go.Proofs.Ytammailnbgojgaa
