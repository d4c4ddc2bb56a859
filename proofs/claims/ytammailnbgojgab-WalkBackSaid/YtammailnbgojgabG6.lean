/-
  Texts joined: PlanDefs PlanLaw SlideLaw AppendFit ConcatInt ConcatU64 SpliceLaw WordNew Slices SlicesInt EqualOb.
-/
import Derived.Test.YtammailnbgojgabRows
import Derived.Lib.AppendZeros
import Derived.Deep.RegionHeld3
import Derived.StillTailTactics
import Derived.Laws.CopyOwn
import Derived.KernelRfl
import Derived.Test.YtammailnbgojgabG0
import Derived.Test.YtammailnbgojgabG1
import Derived.Test.YtammailnbgojgabG2
import Derived.Test.YtammailnbgojgabG4
import Derived.Test.YtammailnbgojgabG5
/-
  Plain law: plans. No program stands here.
-/
namespace Go.Proofs.Ytammailnbgojgab
open Go.RowKit

def risesP : List Int → Bool
  | a :: b :: t => decide (a < b) && risesP (b :: t)
  | _ => true
theorem risesP_pairwise : ∀ {l : List Int}, risesP l = true → l.Pairwise (· < ·)
  | [], _ => List.Pairwise.nil
  | [_], _ => by simp
  | a :: b :: t, h => by
    simp only [risesP, Bool.and_eq_true, decide_eq_true_eq] at h
    have ih := risesP_pairwise h.2
    refine List.pairwise_cons.2 ⟨fun x hx => ?_, ih⟩
    rcases List.mem_cons.1 hx with rfl | hx
    · exact h.1
    · have := (List.pairwise_cons.1 ih).1 x hx
      omega

/-- The object that begins at word x and is not free. -/
def pL (x : Int) (s : Spot) : Bool := (s.loc == x) && !s.f
def longAt (S : List Spot) (x : Int) : Int := match S[(ixOf (pL x) S).toNat]? with | some s => s.long | none => 0
def longsE (a keep pinned : List Int) : Int :=
  if checkE a ≠ 0 then checkE a else if (!risesP keep || !risesP pinned) = true then 3 else if keep.any (fun x => decide (ixOf (pL x) (spotsL a) < 0)) = true then 5 else if pinned.any (fun x => !decide (x ∈ keep)) = true then 5 else 0
def longsV (a keep pinned : List Int) : List Int := if longsE a keep pinned = 0 then keep.map (longAt (spotsL a)) else []

theorem longsE_ok {a keep pinned : List Int} : longsE a keep pinned = 0 ↔ checkE a = 0 ∧ risesP keep = true ∧ risesP pinned = true ∧ (∀ x ∈ keep, 0 ≤ ixOf (pL x) (spotsL a)) ∧ ∀ x ∈ pinned, x ∈ keep := by
  unfold longsE
  by_cases h1 : checkE a = 0
  · rw [if_neg (by simpa using h1)]
    by_cases h2 : (!risesP keep || !risesP pinned) = true
    · rw [if_pos h2]
      constructor
      · intro h; cases h
      · rintro ⟨_, h3, h4, _⟩; rw [h3, h4] at h2; cases h2
    · rw [if_neg h2]
      have h3 : risesP keep = true ∧ risesP pinned = true := by simpa using h2
      by_cases h4 : keep.any (fun x => decide (ixOf (pL x) (spotsL a) < 0)) = true
      · rw [if_pos h4]
        constructor
        · intro h; cases h
        · rintro ⟨_, _, _, h5, _⟩
          obtain ⟨x, hx, hd⟩ := List.any_eq_true.1 h4
          have := h5 x hx
          simp only [decide_eq_true_eq] at hd
          omega
      · rw [if_neg h4]
        have h5 : ∀ x ∈ keep, 0 ≤ ixOf (pL x) (spotsL a) := by
          intro x hx
          rcases Int.lt_or_le (ixOf (pL x) (spotsL a)) 0 with h | h
          · exact absurd (List.any_eq_true.2 ⟨x, hx, decide_eq_true h⟩) h4
          · exact h
        by_cases h6 : pinned.any (fun x => !decide (x ∈ keep)) = true
        · rw [if_pos h6]
          constructor
          · intro h; cases h
          · rintro ⟨_, _, _, _, h7⟩
            obtain ⟨x, hx, hd⟩ := List.any_eq_true.1 h6
            rw [decide_eq_true (h7 x hx)] at hd
            cases hd
        · rw [if_neg h6]
          refine ⟨fun _ => ⟨h1, h3.1, h3.2, h5, fun x hx => ?_⟩, fun _ => rfl⟩
          by_cases hk : x ∈ keep
          · exact hk
          · exact absurd (List.any_eq_true.2 ⟨x, hx, by rw [decide_eq_false hk]; rfl⟩) h6
  · rw [if_pos h1]
    exact ⟨fun h => absurd h h1, fun h => absurd h.1 h1⟩

def slidGo (pinned : List Int) : Int → List Int → List Int → List Int
  | e, x :: ks, n :: ls => (if x ∈ pinned then x else e) :: slidGo pinned ((if x ∈ pinned then x else e) + n) ks ls
  | _, _, _ => []
def pgaps (N : Int) : Int → List Int → List Int → List Rn
  | e, y :: ys, n :: ns => (if e < y then [⟨e, y - e⟩] else []) ++ pgaps N (y + n) ys ns
  | e, _, _ => if e < N then [⟨e, N - e⟩] else []

/-- What is known of those that are kept, and of their lengths. -/
structure Kept (N : Int) (keep long : List Int) : Prop where
  same : long.length = keep.length
  at_ : ∀ (j : Nat) (x n : Int), keep[j]? = some x → long[j]? = some n → 0 ≤ x ∧ 1 ≤ n ∧ n ≤ 256 ∧ x + n ≤ N
  next : ∀ (j : Nat) (x n y : Int), keep[j]? = some x → long[j]? = some n → keep[j + 1]? = some y → x + n ≤ y

theorem spots_of_ix {a : List Int} (h : spotsE a = 0) {x : Int} (hx : 0 ≤ ixOf (pL x) (spotsL a)) :
    ∃ (i : Nat) (s : Spot), ixOf (pL x) (spotsL a) = i ∧ (spotsL a)[i]? = some s ∧ s.loc = x ∧ s.f = false ∧ SpotOk a s ∧ longAt (spotsL a) x = s.long ∧ ixOf (fun s => s.loc == x) (spotsL a) = i := by
  rcases ixOf_cases (pL x) (spotsL a) with ⟨h1, -⟩ | ⟨i, s, h1, h2, h3, h4⟩
  · omega
  · have h3' : s.loc = x ∧ s.f = false := by simpa [pL] using h3
    refine ⟨i, s, h1, h2, h3'.1, h3'.2, ((parse_mem (parse_ok h).2) s (List.mem_of_getElem? h2)).1, ?_, ?_⟩
    · unfold longAt
      rw [h1, Int.toNat_natCast, h2]
    · refine ixOf_some h2 (by simp [h3'.1]) (fun y hy => ?_)
      have hr := spots_rise h
      rw [List.mem_take_iff_getElem] at hy
      obtain ⟨j, hj, rfl⟩ := hy
      obtain ⟨hi, rfl⟩ := List.getElem?_eq_some_iff.1 h2
      have := List.pairwise_iff_getElem.1 hr j i (by omega) hi (by omega)
      simp only [beq_eq_false_iff_ne]
      omega

theorem kept_of {a keep pinned : List Int} (h : longsE a keep pinned = 0) : Kept a.length keep (longsV a keep pinned) ∧ (a.length : Int) ≤ 256 := by
  obtain ⟨h1, h2, h3, h4, h5⟩ := longsE_ok.1 h
  have hE := (checkE_ok.1 h1).1
  have hlen := (parse_ok hE).1
  have hV : longsV a keep pinned = keep.map (longAt (spotsL a)) := by unfold longsV; rw [if_pos h]
  have hat : ∀ (j : Nat) (x n : Int), keep[j]? = some x → (longsV a keep pinned)[j]? = some n → ∃ s ∈ spotsL a, s.loc = x ∧ s.long = n ∧ SpotOk a s := by
    intro j x n hx hn
    rw [hV, List.getElem?_map, hx] at hn
    obtain ⟨i, s, -, hs, hl, -, hok, hlg, -⟩ := spots_of_ix hE (h4 x (List.mem_of_getElem? hx))
    refine ⟨s, List.mem_of_getElem? hs, hl, ?_, hok⟩
    rw [← hlg]
    exact Option.some.inj hn
  refine ⟨⟨by rw [hV, List.length_map], fun j x n hx hn => ?_, fun j x n y hx hn hy => ?_⟩, by omega⟩
  · obtain ⟨s, hs, rfl, rfl, hok⟩ := hat j x n hx hn
    have := hok.loc0
    have := hok.r0
    have := hok.b0
    have := hok.fits
    have := hok.fit256
    unfold Spot.long at *
    omega
  · obtain ⟨s, hs, rfl, rfl, hok⟩ := hat j x n hx hn
    obtain ⟨i2, t, -, ht, hl2, -, hok2, -, -⟩ := spots_of_ix hE (h4 y (List.mem_of_getElem? hy))
    have hlt : s.loc < y := by
      obtain ⟨ha, rfl⟩ := List.getElem?_eq_some_iff.1 hy
      obtain ⟨hb, hb2⟩ := List.getElem?_eq_some_iff.1 hx
      have := List.pairwise_iff_getElem.1 (risesP_pairwise h2) j (j + 1) hb ha (by omega)
      rw [hb2] at this
      exact this
    have ho := parse_order (parse_ok hE).2
    have hr := spots_rise hE
    obtain ⟨i1, hi1, e1⟩ := List.mem_iff_getElem.1 hs
    obtain ⟨hi2, e2⟩ := List.getElem?_eq_some_iff.1 ht
    rcases Nat.lt_trichotomy i1 i2 with h | h | h
    · have := List.pairwise_iff_getElem.1 ho i1 i2 hi1 hi2 h
      rw [e1, e2] at this
      omega
    · subst h
      rw [e1] at e2
      subst e2
      omega
    · have := List.pairwise_iff_getElem.1 hr i2 i1 hi2 hi1 h
      rw [e1, e2] at this
      omega
end Go.Proofs.Ytammailnbgojgab

/-
  Plain law: where those that are kept go, and what is left. No program stands here.
-/
namespace Go.Proofs.Ytammailnbgojgab
open Go.RowKit

theorem Kept.tail {N x n : Int} {ks ls : List Int} (h : Kept N (x :: ks) (n :: ls)) : Kept N ks ls :=
  ⟨by have := h.same; simpa using this, fun j x n h1 h2 => h.at_ (j + 1) x n (by simpa using h1) (by simpa using h2), fun j x n y h1 h2 h3 => h.next (j + 1) x n y (by simpa using h1) (by simpa using h2) (by simpa using h3)⟩

structure Slid (N e : Int) (pinned keep L Y : List Int) : Prop where
  len : Y.length = keep.length
  low : ∀ (j : Nat) (y : Int), Y[j]? = some y → e ≤ y
  at_ : ∀ (j : Nat) (x y k : Int), keep[j]? = some x → L[j]? = some k → Y[j]? = some y → y ≤ x ∧ (x ∈ pinned → y = x) ∧ y + k ≤ N ∧ ∀ y', Y[j + 1]? = some y' → y + k ≤ y'

theorem slid_of (N : Int) (pinned : List Int) : ∀ (keep L : List Int) (e : Int), Kept N keep L → (∀ x, keep[0]? = some x → e ≤ x) → Slid N e pinned keep L (slidGo pinned e keep L) := by
  intro keep
  induction keep with
  | nil => intro L e _ _; exact ⟨by simp [slidGo], fun j y h => by simp [slidGo] at h, fun j x y k h => by simp at h⟩
  | cons x ks ih =>
    intro L e hK he
    cases L with
    | nil => have := hK.same; simp at this
    | cons n ls =>
      obtain ⟨x0, n1, n2, hxn⟩ := hK.at_ 0 x n rfl rfl
      have hex := he x rfl
      obtain ⟨z, hz⟩ : ∃ z, z = (if x ∈ pinned then x else e) := ⟨_, rfl⟩
      have hz1 : e ≤ z ∧ z ≤ x := by rw [hz]; split <;> omega
      have hz2 : x ∈ pinned → z = x := fun h => by rw [hz, if_pos h]
      have ih' := ih ls (z + n) hK.tail (fun y hy => by have := hK.next 0 x n y rfl rfl (by simpa using hy); omega)
      have hY : slidGo pinned e (x :: ks) (n :: ls) = z :: slidGo pinned (z + n) ks ls := by simp only [slidGo]; rw [← hz]
      rw [hY]
      refine ⟨by simp [ih'.len], fun j y h => ?_, fun j x' y k h1 h2 h3 => ?_⟩
      · cases j with
        | zero => obtain rfl : z = y := by simpa using h
                  exact hz1.1
        | succ j => have := ih'.low j y (by simpa using h); omega
      · cases j with
        | zero =>
          obtain rfl : x = x' := by simpa using h1
          obtain rfl : n = k := by simpa using h2
          obtain rfl : z = y := by simpa using h3
          exact ⟨hz1.2, hz2, by omega, fun y' h => ih'.low 0 y' (by simpa using h)⟩
        | succ j =>
          obtain ⟨a1, a2, a3, a4⟩ := ih'.at_ j x' y k (by simpa using h1) (by simpa using h2) (by simpa using h3)
          exact ⟨a1, a2, a3, fun y' h => a4 y' (by simpa using h)⟩

theorem kept_len {N : Int} {keep L : List Int} (h : Kept N keep L) : ∀ (j : Nat) (x : Int), keep[j]? = some x → (j : Int) ≤ x ∧ (j : Int) + 1 ≤ N := by
  intro j
  have hL : ∀ (j : Nat) (x : Int), keep[j]? = some x → ∃ n, L[j]? = some n := fun j x hx => ⟨_, List.getElem?_eq_getElem (by rw [h.same]; exact (List.getElem?_eq_some_iff.1 hx).1)⟩
  induction j with
  | zero =>
    intro x hx
    obtain ⟨n, hn⟩ := hL 0 x hx
    obtain ⟨a, b, c, d⟩ := h.at_ 0 x n hx hn
    exact ⟨by omega, by omega⟩
  | succ j ih =>
    intro x hx
    have hlt := (List.getElem?_eq_some_iff.1 hx).1
    obtain ⟨x0, hx0⟩ : ∃ x0, keep[j]? = some x0 := ⟨_, List.getElem?_eq_getElem (by omega)⟩
    obtain ⟨n0, hn0⟩ := hL j x0 hx0
    obtain ⟨n, hn⟩ := hL (j + 1) x hx
    obtain ⟨a, b, c, d⟩ := h.at_ (j + 1) x n hx hn
    obtain ⟨a0, b0, c0, d0⟩ := h.at_ j x0 n0 hx0 hn0
    have := h.next j x0 n0 x hx0 hn0 hx
    have := (ih x0 hx0).1
    exact ⟨by omega, by omega⟩
theorem kept_len2 {N : Int} {keep L : List Int} (h : Kept N keep L) (hN : 0 ≤ N) : (keep.length : Int) ≤ N := by
  rcases Nat.eq_zero_or_pos keep.length with h0 | h0
  · omega
  · have := kept_len h (keep.length - 1) keep[keep.length - 1] (List.getElem?_eq_getElem (by omega))
    omega

def rsum : List Rn → Int
  | [] => 0
  | r :: l => r.len + rsum l
def isum : List Int → Int
  | [] => 0
  | x :: l => x + isum l
theorem isum_append (a b : List Int) : isum (a ++ b) = isum a + isum b := by
  induction a with
  | nil => simp [isum]
  | cons x a ih => simp only [List.cons_append, isum, ih]; omega
theorem rsum_append (a b : List Rn) : rsum (a ++ b) = rsum a + rsum b := by
  induction a with
  | nil => simp [rsum]
  | cons x a ih => simp only [List.cons_append, rsum, ih]; omega

theorem pgaps_sum (N : Int) (pinned : List Int) : ∀ (keep L : List Int) (e : Int), Kept N keep L → (∀ x, keep[0]? = some x → e ≤ x) → e ≤ N → rsum (pgaps N e (slidGo pinned e keep L) L) + isum L = N - e ∧
    ∀ r ∈ pgaps N e (slidGo pinned e keep L) L, 0 ≤ r.len ∧ r.len ≤ N - e := by
  intro keep
  induction keep with
  | nil =>
    intro L e hK _ heN
    cases L with
    | cons n ls => have := hK.same; simp at this
    | nil =>
      simp only [slidGo, pgaps]
      by_cases h : e < N
      · rw [if_pos h]
        refine ⟨by simp [rsum, isum], fun r hr => ?_⟩
        obtain rfl := List.mem_singleton.1 hr
        dsimp only
        omega
      · rw [if_neg h]
        refine ⟨by simp only [rsum, isum]; omega, fun r hr => by cases hr⟩
  | cons x ks ih =>
    intro L e hK he heN
    cases L with
    | nil => have := hK.same; simp at this
    | cons n ls =>
      obtain ⟨x0, n1, n2, hxn⟩ := hK.at_ 0 x n rfl rfl
      have hex := he x rfl
      obtain ⟨z, hz⟩ : ∃ z, z = (if x ∈ pinned then x else e) := ⟨_, rfl⟩
      have hz1 : e ≤ z ∧ z ≤ x := by rw [hz]; split <;> omega
      obtain ⟨i1, i2⟩ := ih ls (z + n) hK.tail (fun y hy => by have := hK.next 0 x n y rfl rfl (by simpa using hy); omega) (by omega)
      have hY : slidGo pinned e (x :: ks) (n :: ls) = z :: slidGo pinned (z + n) ks ls := by simp only [slidGo]; rw [← hz]
      rw [hY]
      simp only [pgaps, isum]
      rw [rsum_append]
      refine ⟨?_, fun r hr => ?_⟩
      · by_cases h : e < z
        · rw [if_pos h]; simp only [rsum]; omega
        · rw [if_neg h]; simp only [rsum]; omega
      · rcases List.mem_append.1 hr with hr | hr
        · by_cases h : e < z
          · rw [if_pos h] at hr
            obtain rfl := List.mem_singleton.1 hr
            dsimp only
            omega
          · rw [if_neg h] at hr; cases hr
        · have := i2 r hr
          omega

theorem pgaps_count (N : Int) (pinned : List Int) : ∀ (keep L : List Int) (e : Int), (pgaps N e (slidGo pinned e keep L) L).length ≤ (keep.filter (fun x => decide (x ∈ pinned))).length + 1 := by
  intro keep
  induction keep with
  | nil =>
    intro L e
    simp only [slidGo, pgaps]
    split <;> simp
  | cons x ks ih =>
    intro L e
    cases L with
    | nil => simp only [slidGo, pgaps]; split <;> simp
    | cons n ls =>
      simp only [slidGo, pgaps, List.length_append]
      by_cases h : x ∈ pinned
      · rw [if_pos h, List.filter_cons_of_pos (by simpa using h)]
        have := ih ls (x + n)
        have h2 : (if e < x then [(⟨e, x - e⟩ : Rn)] else []).length ≤ 1 := by split <;> simp
        simp only [List.length_cons]
        omega
      · rw [if_neg h, List.filter_cons_of_neg (by simpa using h), if_neg (show ¬ e < e by omega)]
        have := ih ls (e + n)
        simp only [List.length_nil]
        omega

theorem nodup_sub : ∀ (l p : List Int), l.Pairwise (· < ·) → (∀ x ∈ l, x ∈ p) → l.length ≤ p.length := by
  intro l
  induction l with
  | nil => intro p _ _; simp
  | cons x l ih =>
    intro p hl hp
    obtain ⟨h1, h2⟩ := List.pairwise_cons.1 hl
    have hx := hp x List.mem_cons_self
    have := ih (p.erase x) h2 (fun y hy => (List.mem_erase_of_ne (by have := h1 y hy; omega)).2 (hp y (List.mem_cons_of_mem _ hy)))
    rw [List.length_erase_of_mem hx] at this
    have : 0 < p.length := List.length_pos_of_mem hx
    simp only [List.length_cons]
    omega
theorem pgaps_few {N : Int} {pinned keep L : List Int} (hr : risesP keep = true) : (pgaps N 0 (slidGo pinned 0 keep L) L).length ≤ pinned.length + 1 := by
  have h1 := pgaps_count N pinned keep L 0
  have h2 := nodup_sub (keep.filter (fun x => decide (x ∈ pinned))) pinned ((risesP_pairwise hr).filter _) (fun x hx => by
    have := (List.mem_filter.1 hx).2
    simpa using this)
  omega
end Go.Proofs.Ytammailnbgojgab

/-
  Plain law: objects laid at given words, free words between them. No program stands here.
-/
namespace Go.Proofs.Ytammailnbgojgab
open Go.RowKit

/-- Rows at their words, zeros between them; the same with heads of free objects. -/
def rawL (N : Nat) : Nat → List (Nat × Chk) → List Int
  | e, [] => List.replicate (N - e) 0
  | e, (y, c) :: t => List.replicate (y - e) 0 ++ (chkW c ++ rawL N (y + c.len) t)
def laidC (N : Nat) : Nat → List (Nat × Chk) → List Chk
  | e, [] => flushC (N - e)
  | e, (y, c) :: t => flushC (y - e) ++ c :: laidC N (y + c.len) t
def RowsOk (N : Nat) : Nat → List (Nat × Chk) → Prop
  | e, [] => e ≤ N
  | e, (y, c) :: t => e ≤ y ∧ c.ok ∧ c.f = false ∧ RowsOk N (y + c.len) t
def setG (o : List Int) (g : Rn) : List Int := o.set g.loc.toNat (wordOf 0 (g.len - 1) 0 true)
def ysOf (rows : List (Nat × Chk)) : List Int := rows.map fun p => (p.1 : Int)
def lensOf (rows : List (Nat × Chk)) : List Int := rows.map fun p => (p.2.len : Int)

theorem RowsOk.le {N : Nat} : ∀ {rows : List (Nat × Chk)} {e : Nat}, RowsOk N e rows → e ≤ N
  | [], _, h => h
  | (y, c) :: t, e, ⟨h1, _, _, h3⟩ => by have := RowsOk.le h3; omega
theorem RowsOk.left {N : Nat} : ∀ {rows t : List (Nat × Chk)} {e : Nat}, RowsOk N e (rows ++ t) → RowsOk N e rows
  | [], _, _, h => h.le
  | (_, _) :: _, _, _, ⟨h1, h2, h3, h4⟩ => ⟨h1, h2, h3, RowsOk.left h4⟩
theorem rawL_length {N : Nat} : ∀ {rows : List (Nat × Chk)} {e : Nat}, RowsOk N e rows → (rawL N e rows).length = N - e
  | [], e, _ => by simp [rawL]
  | (y, c) :: t, e, ⟨h1, h2, h2', h3⟩ => by
    have := RowsOk.le h3
    simp only [rawL, List.length_append, List.length_replicate, chkW_length, rawL_length h3]
    omega
theorem laidC_length {N : Nat} : ∀ {rows : List (Nat × Chk)} {e : Nat}, RowsOk N e rows → (chunksW (laidC N e rows)).length = N - e
  | [], e, _ => flushC_length _
  | (y, c) :: t, e, ⟨h1, h2, h2', h3⟩ => by
    have := RowsOk.le h3
    simp only [laidC]
    rw [chunksW_append, chunksW_cons, List.length_append, List.length_append, flushC_length, chkW_length, laidC_length h3]
    omega
theorem flushC_mem {p : Nat} {d : Chk} (h : d ∈ flushC p) : p ≠ 0 ∧ d = freeC p := by
  unfold flushC at h
  split at h
  · cases h
  · rename_i h0; exact ⟨h0, List.mem_singleton.1 h⟩
theorem laidC_mem {N : Nat} : ∀ {rows : List (Nat × Chk)} {e : Nat}, RowsOk N e rows → ∀ d ∈ laidC N e rows, (∃ q, q ≠ 0 ∧ q ≤ N ∧ d = freeC q) ∨ ∃ y, (y, d) ∈ rows
  | [], e, h, d, hd => by
    obtain ⟨h1, h2⟩ := flushC_mem hd
    exact .inl ⟨_, h1, by omega, h2⟩
  | (y, c) :: t, e, ⟨h1, h2, h2', h3⟩, d, hd => by
    have := RowsOk.le h3
    simp only [laidC] at hd
    rcases List.mem_append.1 hd with hd | hd
    · obtain ⟨h1, h2⟩ := flushC_mem hd
      exact .inl ⟨_, h1, by omega, h2⟩
    · rcases List.mem_cons.1 hd with rfl | hd
      · exact .inr ⟨y, List.mem_cons_self⟩
      · rcases laidC_mem h3 d hd with h4 | ⟨z, h4⟩
        · exact .inl h4
        · exact .inr ⟨z, List.mem_cons_of_mem _ h4⟩
theorem RowsOk.mem {N : Nat} : ∀ {rows : List (Nat × Chk)} {e : Nat}, RowsOk N e rows → ∀ p ∈ rows, p.2.ok ∧ p.2.f = false
  | (y, c) :: t, e, ⟨h1, h2, h2', h3⟩, p, hp => by
    rcases List.mem_cons.1 hp with rfl | hp
    · exact ⟨h2, h2'⟩
    · exact RowsOk.mem h3 p hp
theorem laidC_ok {N : Nat} {rows : List (Nat × Chk)} {e : Nat} (h : RowsOk N e rows) (hN : N ≤ 256) : ∀ d ∈ laidC N e rows, d.ok := by
  intro d hd
  rcases laidC_mem h d hd with ⟨q, h1, h2, rfl⟩ | ⟨y, h1⟩
  · exact freeC_ok h1 (by omega)
  · exact (RowsOk.mem h _ h1).1
theorem laidC_split {N : Nat} : ∀ {rows : List (Nat × Chk)} {e j y : Nat} {c : Chk}, RowsOk N e rows → rows[j]? = some (y, c) → ∃ pre suf, laidC N e rows = pre ++ c :: suf ∧ e + (chunksW pre).length = y
  | (z, d) :: t, e, 0, y, c, ⟨h1, h2, h2', h3⟩, h => by
    simp only [List.getElem?_cons_zero, Option.some.injEq, Prod.mk.injEq] at h
    obtain ⟨rfl, rfl⟩ := h
    exact ⟨flushC (z - e), _, rfl, by rw [flushC_length]; omega⟩
  | (z, d) :: t, e, j + 1, y, c, ⟨h1, h2, h2', h3⟩, h => by
    rw [List.getElem?_cons_succ] at h
    obtain ⟨pre, suf, e1, e2⟩ := laidC_split h3 h
    refine ⟨flushC (z - e) ++ d :: pre, suf, ?_, ?_⟩
    · simp only [laidC]
      rw [e1, List.append_assoc, List.cons_append]
    · rw [chunksW_append, chunksW_cons, List.length_append, List.length_append, flushC_length, chkW_length]
      omega

theorem flush_set {pre rest : List Int} {e p : Nat} (he : pre.length = e) (hp : p ≠ 0) : (pre ++ (List.replicate p 0 ++ rest)).set e (wordOf 0 ((p : Int) - 1) 0 true) = pre ++ (chunksW (flushC p) ++ rest) := by
  obtain ⟨q, rfl⟩ : ∃ q, p = q + 1 := ⟨p - 1, by omega⟩
  have e2 : chunksW (flushC (q + 1)) = wordOf 0 (((q + 1 : Nat) : Int) - 1) 0 true :: List.replicate q 0 := by
    unfold flushC
    rw [if_neg hp]
    simp [chunksW, chkW, freeC]
  rw [e2, List.set_append_right _ _ (by omega), he, Nat.sub_self, List.replicate_succ, List.cons_append, List.set_cons_zero, List.cons_append]
theorem fold_gaps (N : Nat) : ∀ (rows : List (Nat × Chk)) (e : Nat) (pre : List Int), RowsOk N e rows → pre.length = e → (pgaps N e (ysOf rows) (lensOf rows)).foldl setG (pre ++ rawL N e rows) = pre ++ chunksW (laidC N e rows)
  | [], e, pre, h, hp => by
    have hle : e ≤ N := h
    simp only [ysOf, lensOf, List.map_nil, pgaps, rawL, laidC]
    by_cases hlt : (e : Int) < N
    · rw [if_pos hlt, List.foldl_cons, List.foldl_nil]
      unfold setG
      have := flush_set (pre := pre) (rest := []) (e := e) (p := N - e) hp (by omega)
      simp only [List.append_nil] at this
      rw [← this]
      simp only [Int.toNat_natCast]
      rw [show ((N - e : Nat) : Int) = (N : Int) - e by omega]
    · rw [if_neg hlt, List.foldl_nil]
      have : N - e = 0 := by omega
      rw [this]
      rfl
  | (y, c) :: t, e, pre, ⟨h1, h2, h2', h3⟩, hp => by
    have hle := RowsOk.le h3
    have ih := fold_gaps N t (y + c.len) (pre ++ (chunksW (flushC (y - e)) ++ chkW c)) h3 (by rw [List.length_append, List.length_append, flushC_length, chkW_length, hp]; omega)
    simp only [ysOf, lensOf, List.map_cons, pgaps, rawL, laidC]
    rw [List.foldl_append]
    have e1 : (if (e : Int) < (y : Int) then [(⟨e, (y : Int) - e⟩ : Rn)] else []).foldl setG (pre ++ (List.replicate (y - e) 0 ++ (chkW c ++ rawL N (y + c.len) t))) = pre ++ (chunksW (flushC (y - e)) ++ chkW c) ++ rawL N (y + c.len) t := by
      by_cases hlt : (e : Int) < y
      · rw [if_pos hlt, List.foldl_cons, List.foldl_nil]
        unfold setG
        have := flush_set (pre := pre) (rest := chkW c ++ rawL N (y + c.len) t) (e := e) (p := y - e) hp (by omega)
        simp only [Int.toNat_natCast]
        rw [show ((y - e : Nat) : Int) = (y : Int) - e by omega] at this
        rw [this]
        simp
      · rw [if_neg hlt, List.foldl_nil]
        have : y - e = 0 := by omega
        rw [this]
        simp [flushC, chunksW]
    rw [e1]
    have e2 : ((y : Int) + (c.len : Int)) = ((y + c.len : Nat) : Int) := by omega
    rw [e2]
    refine ih.trans ?_
    rw [chunksW_append, chunksW_cons]
    simp
theorem gapsP_laid (N : Nat) : ∀ (rows : List (Nat × Chk)) (e : Nat), RowsOk N e rows → gapsP e 0 (laidC N e rows) = pgaps N e (ysOf rows) (lensOf rows)
  | [], e, h => by
    have hle : e ≤ N := h
    simp only [ysOf, lensOf, List.map_nil, pgaps, laidC]
    unfold flushC
    by_cases hlt : (e : Int) < N
    · rw [if_neg (by omega), if_pos hlt]
      simp only [gapsP, freeC_f, if_true]
      rw [freeC_len (by omega)]
      unfold flushG
      rw [if_neg (by omega)]
      simp only [List.cons.injEq, Rn.mk.injEq, and_true]
      omega
    · rw [if_pos (by omega), if_neg hlt]
      rfl
  | (y, c) :: t, e, ⟨h1, h2, h2', h3⟩ => by
    have ih := gapsP_laid N t (y + c.len) h3
    simp only [ysOf, lensOf, List.map_cons, pgaps, laidC]
    rw [show ((y : Int) + (c.len : Int)) = ((y + c.len : Nat) : Int) by omega]
    unfold flushC
    by_cases hlt : (e : Int) < y
    · rw [if_neg (by omega), if_pos hlt]
      simp only [List.cons_append, List.nil_append, gapsP, freeC_f, if_true, h2']
      rw [freeC_len (by omega), Nat.zero_add, show e + (y - e) = y by omega]
      simp only [Bool.false_eq_true, if_false]
      unfold flushG
      rw [if_neg (show ¬ y - e = 0 by omega), ih, show y - (y - e) = e by omega, show ((y - e : Nat) : Int) = (y : Int) - e by omega]
      rfl
    · have : e = y := by omega
      subst this
      rw [if_pos (by omega), if_neg hlt]
      simp only [List.nil_append, gapsP, h2']
      unfold flushG
      rw [if_pos rfl, if_neg (by decide), ih]
      rfl
theorem rawL_snoc (N : Nat) (y : Nat) (c : Chk) : ∀ (rows : List (Nat × Chk)) (e : Nat) (pre : List Int), pre.length = e → RowsOk N e (rows ++ [(y, c)]) → pre ++ rawL N e (rows ++ [(y, c)]) = splice (pre ++ rawL N e rows) y (chkW c)
  | [], e, pre, hp, ⟨h1, h2, h2', h3⟩ => by
    have hle : y + c.len ≤ N := h3
    simp only [List.nil_append, rawL]
    unfold splice
    rw [chkW_length, List.take_append, List.take_of_length_le (by omega), List.drop_append, List.drop_of_length_le (by omega), List.nil_append, hp, List.take_replicate, List.drop_replicate, Nat.min_eq_left (by omega), show N - e - (y + c.len - e) = N - (y + c.len) by omega]
    simp
  | (z, d) :: t, e, pre, hp, ⟨h1, h2, h2', h3⟩ => by
    have := rawL_snoc N y c t (z + d.len) (pre ++ (List.replicate (z - e) 0 ++ chkW d)) (by rw [List.length_append, List.length_append, List.length_replicate, chkW_length, hp]; omega) h3
    simp only [List.cons_append, rawL]
    simpa using this

/-- The row of an object whose references go elsewhere. -/
def kC (a : List Int) (φ : Int → Int) (s : Spot) : Chk := ⟨s.r, s.b, s.t, false, (refsOf a s).map (refT φ) ++ bodyOf a s⟩
def rowAt (a : List Int) (φ : Int → Int) (x : Int) : Chk := match spotAt (spotsL a) x with | some s => kC a φ s | none => ⟨0, 0, 0, false, []⟩
/-- Where x goes, if keep goes to Y. -/
def posL (keep Y : List Int) (x : Int) : Int := Y.getD (idxL keep x).toNat 0
def rowsOf (a keep Y : List Int) : List (Nat × Chk) := List.zipWith (fun x y => (y.toNat, rowAt a (posL keep Y) x)) keep Y

theorem idxL_at {keep : List Int} (hn : keep.Nodup) {j : Nat} {x : Int} (hx : keep[j]? = some x) : idxL keep x = j := by
  refine ixOf_some hx (by simp) (fun y hy => ?_)
  rw [List.mem_take_iff_getElem] at hy
  obtain ⟨i, hi, rfl⟩ := hy
  obtain ⟨hj, rfl⟩ := List.getElem?_eq_some_iff.1 hx
  have := (List.nodup_iff_pairwise_ne.1 hn)
  have := List.pairwise_iff_getElem.1 this i j (by omega) hj (by omega)
  simp only [beq_eq_false_iff_ne]
  exact fun e => this e.symm
theorem posL_at {keep Y : List Int} (hn : keep.Nodup) {j : Nat} {x y : Int} (hx : keep[j]? = some x) (hy : Y[j]? = some y) : posL keep Y x = y := by
  unfold posL
  rw [idxL_at hn hx, Int.toNat_natCast, List.getD_eq_getElem?_getD, hy]
  rfl
theorem posL_map {keep Y : List Int} (hn : keep.Nodup) (hl : Y.length = keep.length) : keep.map (posL keep Y) = Y := by
  refine List.ext_getElem (by rw [List.length_map, hl]) (fun i h1 h2 => ?_)
  rw [List.getElem_map]
  rw [List.length_map] at h1
  exact posL_at hn (List.getElem?_eq_getElem h1) (List.getElem?_eq_getElem h2)
theorem posL_ex {keep Y : List Int} (hn : keep.Nodup) (hl : Y.length = keep.length) {x : Int} (hx : x ∈ keep) : ∃ (j : Nat) (y : Int), keep[j]? = some x ∧ Y[j]? = some y ∧ posL keep Y x = y := by
  obtain ⟨j, hj⟩ := List.mem_iff_getElem?.1 hx
  have hlt := (List.getElem?_eq_some_iff.1 hj).1
  have hy : Y[j]? = some (Y[j]'(by omega)) := List.getElem?_eq_getElem _
  exact ⟨j, _, hj, hy, posL_at hn hj hy⟩
theorem rowsOf_at {a keep Y : List Int} {j : Nat} {x y : Int} (hx : keep[j]? = some x) (hy : Y[j]? = some y) : (rowsOf a keep Y)[j]? = some (y.toNat, rowAt a (posL keep Y) x) := by
  unfold rowsOf
  rw [List.getElem?_zipWith, hx, hy]
theorem rowsOf_length {a keep Y : List Int} (hl : Y.length = keep.length) : (rowsOf a keep Y).length = keep.length := by
  unfold rowsOf
  rw [List.length_zipWith, hl, Nat.min_self]
theorem kC_ok {a : List Int} (φ : Int → Int) {s : Spot} (h : SpotOk a s) (hf : s.f = false) : (kC a φ s).ok ∧ ((kC a φ s).len : Int) = s.long ∧ (kC a φ s).pay.take (kC a φ s).r.toNat = (refsOf a s).map (refT φ) ∧ (kC a φ s).pay.drop (kC a φ s).r.toNat = bodyOf a s := by
  have h1 := refsOf_length h
  have h2 := bodyOf_length h
  have h3 := h.head
  have r0 := h.r0
  have b0 := h.b0
  rw [hf] at h3
  have hl : ((refsOf a s).map (refT φ) ++ bodyOf a s).length = s.r.toNat + s.b.toNat := by rw [List.length_append, List.length_map, h1, h2]
  refine ⟨⟨h3, ?_⟩, ?_, ?_, ?_⟩
  · show ((((refsOf a s).map (refT φ) ++ bodyOf a s).length : Nat) : Int) = s.r + s.b
    rw [hl]; omega
  · show (((1 + ((refsOf a s).map (refT φ) ++ bodyOf a s).length : Nat)) : Int) = s.long
    rw [hl]; unfold Spot.long; omega
  · show ((refsOf a s).map (refT φ) ++ bodyOf a s).take s.r.toNat = _
    rw [List.take_append_of_le_length (by rw [List.length_map, h1]; exact Nat.le_refl _), List.take_of_length_le (by rw [List.length_map, h1]; exact Nat.le_refl _)]
  · show ((refsOf a s).map (refT φ) ++ bodyOf a s).drop s.r.toNat = _
    rw [List.drop_append, List.drop_of_length_le (by rw [List.length_map, h1]; exact Nat.le_refl _), List.length_map, h1, Nat.sub_self]
    rfl
theorem rowAt_some {a : List Int} {φ : Int → Int} {x : Int} {s : Spot} (h : spotAt (spotsL a) x = some s) : rowAt a φ x = kC a φ s := by
  unfold rowAt
  rw [h]

/-- What is laid is alike, right, as long as it must be, and its gaps are those between. -/
structure LaidOk (a keep Y b : List Int) (N : Nat) : Prop where
  iso : Iso a b keep (posL keep Y)
  check : checkE b = 0
  len : b.length = N
  gaps : gapsL (spotsL b) = pgaps N 0 (ysOf (rowsOf a keep Y)) (lensOf (rowsOf a keep Y))
theorem laid_ok {a keep Y : List Int} {N : Nat} (h0 : spotsE a = 0) (hC : ClosedL a keep) (hn : keep.Nodup) (hl : Y.length = keep.length) (hN : N ≤ 256) (hY : ∀ y ∈ Y, 0 ≤ y) (hR : RowsOk N 0 (rowsOf a keep Y)) :
    LaidOk a keep Y (chunksW (laidC N 0 (rowsOf a keep Y))) N := by
  have hlen := laidC_length hR
  have hok := laidC_ok hR hN
  obtain ⟨-, hsp⟩ := chunks_spots hok (by omega)
  have hmem := parse_mem (parse_ok h0).2
  have hat : ∀ x ∈ keep, ∀ s, spotAt (spotsL a) x = some s → ∃ pre suf, laidC N 0 (rowsOf a keep Y) = pre ++ kC a (posL keep Y) s :: suf ∧ ((chunksW pre).length : Int) = posL keep Y x := by
    intro x hx s hs
    obtain ⟨j, y, hj, hy, e⟩ := posL_ex hn hl hx
    have hr := rowsOf_at (a := a) hj hy
    obtain ⟨pre, suf, e1, e2⟩ := laidC_split hR hr
    rw [rowAt_some hs] at e1
    refine ⟨pre, suf, e1, ?_⟩
    have := hY y (List.mem_of_getElem? hy)
    rw [e]
    omega
  have hiso : Iso a (chunksW (laidC N 0 (rowsOf a keep Y))) keep (posL keep Y) := by
    refine ⟨fun x hx => ?_, fun x hx y hy e => ?_, fun x hx s hs => ?_⟩
    · obtain ⟨j, y, -, hy, e⟩ := posL_ex hn hl hx
      rw [e]; exact hY y (List.mem_of_getElem? hy)
    · obtain ⟨j, u, hj, hu, e1⟩ := posL_ex hn hl hx
      obtain ⟨k, v, hk, hv, e2⟩ := posL_ex hn hl hy
      obtain ⟨s, hs⟩ := begsL_iff.1 (hC.begs x hx)
      obtain ⟨t, ht⟩ := begsL_iff.1 (hC.begs y hy)
      have r1 := rowsOf_at (a := a) hj hu
      have r2 := rowsOf_at (a := a) hk hv
      have hinc : ∀ (rows : List (Nat × Chk)) (e i j y z : Nat) (c d : Chk), RowsOk N e rows → i < j → rows[i]? = some (y, c) → rows[j]? = some (z, d) → e ≤ y ∧ y < z := by
        intro rows
        induction rows with
        | nil => intro e i j y z c d _ _ h; simp at h
        | cons p t ih =>
          obtain ⟨p1, p2⟩ := p
          rintro e i j y z c d ⟨h1, h2, h2', h3⟩ hij hi hj
          obtain ⟨j, rfl⟩ : ∃ j', j = j' + 1 := ⟨j - 1, by omega⟩
          rw [List.getElem?_cons_succ] at hj
          have hlow : ∀ (rows : List (Nat × Chk)) (e j z : Nat) (d : Chk), RowsOk N e rows → rows[j]? = some (z, d) → e ≤ z := by
            intro rows
            induction rows with
            | nil => intro e j z d _ h; simp at h
            | cons p t ih =>
              obtain ⟨p1, p2⟩ := p
              rintro e j z d ⟨h1, h2, h2', h3⟩ hj
              cases j with
              | zero => simp only [List.getElem?_cons_zero, Option.some.injEq, Prod.mk.injEq] at hj; omega
              | succ j => have := ih _ j z d h3 (by simpa using hj); omega
          have hp : 1 ≤ p2.len := by unfold Chk.len; omega
          cases i with
          | zero =>
            simp only [List.getElem?_cons_zero, Option.some.injEq, Prod.mk.injEq] at hi
            have := hlow t _ j z d h3 hj
            omega
          | succ i =>
            rw [List.getElem?_cons_succ] at hi
            have := ih _ i j y z c d h3 (by omega) hi hj
            omega
      have u0 := hY u (List.mem_of_getElem? hu)
      have v0 := hY v (List.mem_of_getElem? hv)
      rcases Nat.lt_trichotomy j k with h | h | h
      · have := hinc _ _ _ _ _ _ _ _ hR h r1 r2
        omega
      · subst h; rw [hj] at hk; exact Option.some.inj hk
      · have := hinc _ _ _ _ _ _ _ _ hR h r2 r1
        omega
    · obtain ⟨pre, suf, e1, e2⟩ := hat x hx s hs
      obtain ⟨hsS, hsf, -⟩ := spotAt_some hs
      obtain ⟨k1, k2, k3, k4⟩ := kC_ok (posL keep Y) (hmem s hsS).1 hsf
      have h1 := split_at pre suf (kC a (posL keep Y) s) rfl
      have h2 := split_refs pre suf (kC a (posL keep Y) s) k1
      rw [hsp, e1, ← e2]
      exact ⟨_, h1, rfl, rfl, rfl, h2.2.trans k4, h2.1.trans k3⟩
  refine ⟨hiso, ?_, by omega, ?_⟩
  · rw [checkE_chunks hok (by omega)]
    intro c hc v hv
    rcases laidC_mem hR c hc with ⟨q, -, -, rfl⟩ | ⟨y, hy⟩
    · simp [freeC] at hv
    · obtain ⟨j, hj⟩ := List.mem_iff_getElem?.1 hy
      have hjl : j < keep.length := by have := (List.getElem?_eq_some_iff.1 hj).1; rw [rowsOf_length hl] at this; exact this
      have hx : keep[j]? = some keep[j] := List.getElem?_eq_getElem hjl
      have hyy : Y[j]? = some (Y[j]'(by omega)) := List.getElem?_eq_getElem _
      have := rowsOf_at (a := a) hx hyy
      rw [hj] at this
      simp only [Option.some.injEq, Prod.mk.injEq] at this
      obtain ⟨-, rfl⟩ := this
      have hxk : keep[j] ∈ keep := List.getElem_mem hjl
      obtain ⟨s, hs⟩ := begsL_iff.1 (hC.begs _ hxk)
      obtain ⟨hsS, hsf, -⟩ := spotAt_some hs
      rw [rowAt_some hs] at hv
      rw [(kC_ok (posL keep Y) (hmem s hsS).1 hsf).2.2.1] at hv
      obtain ⟨u, hu, rfl⟩ := List.mem_map.1 hv
      by_cases hu0 : u = 0
      · left; unfold refT; rw [if_pos hu0]
      · right
        have hk := Iso.link_of hC hxk hs u hu hu0
        obtain ⟨t, ht⟩ := begsL_iff.1 (hC.begs _ hk)
        obtain ⟨t', ht', -⟩ := hiso.at_ _ hk t ht
        rw [hsp] at ht'
        rw [← starts_mem]
        obtain ⟨g1, g2, g3⟩ := spotAt_some ht'
        refine ⟨t', g1, ?_⟩
        unfold refT
        rw [if_neg hu0]
        simp [isPlace, g2, g3]
  · rw [hsp, gapsL_chunks hok]
    exact gapsP_laid N _ 0 hR

theorem reached_iso {a b L : List Int} {φ : Int → Int} {f : List Int} (h : Iso a b L φ) (hL0 : ∀ x ∈ L, 0 ≤ x) (hL : Reached a (spotsL a) f L) (hs : (L.map φ).Pairwise (fun x y => x ≤ y)) : Reached b (spotsL b) (f.map φ) (L.map φ) := by
  have hC : ClosedL a L := ⟨hL.begs, hL.closed, hL0⟩
  refine ⟨fun x hx => ?_, fun x hx => ?_, fun x hx y hy => ?_, fun X h1 h2 x hx => ?_, hs, ?_⟩
  · obtain ⟨z, hz, rfl⟩ := List.mem_map.1 hx
    obtain ⟨s, hs⟩ := begsL_iff.1 (hL.begs z hz)
    obtain ⟨s', hs', -⟩ := h.at_ z hz s hs
    exact begsL_iff.2 ⟨s', hs'⟩
  · obtain ⟨z, hz, rfl⟩ := List.mem_map.1 hx
    exact List.mem_map.2 ⟨z, hL.roots z hz, rfl⟩
  · obtain ⟨z, hz, rfl⟩ := List.mem_map.1 hx
    rw [h.links hC hz] at hy
    obtain ⟨u, hu, rfl⟩ := List.mem_map.1 hy
    exact List.mem_map.2 ⟨u, hL.closed z hz u hu, rfl⟩
  · obtain ⟨z, hz, rfl⟩ := List.mem_map.1 hx
    have := hL.least (fun x => x ∈ L ∧ X (φ x)) (fun x hx => ⟨hL.roots x hx, h1 _ (List.mem_map.2 ⟨x, hx, rfl⟩)⟩) (fun x ⟨hxL, hX⟩ y hy => ⟨hL.closed x hxL y hy, h2 _ hX _ (by
      rw [h.links hC hxL]
      exact List.mem_map.2 ⟨y, hy, rfl⟩)⟩) z hz
    exact this.2
  · have h1 := hL.once
    have h2 := h.inj
    clear hs hC hL
    rw [List.nodup_iff_pairwise_ne, List.pairwise_map]
    rw [List.nodup_iff_pairwise_ne] at h1
    exact h1.imp_of_mem (fun {x y} hx hy hne e => hne (h2 x hx y hy e))
end Go.Proofs.Ytammailnbgojgab

/-
  append within the capacity of an owned slice: no bound on the bytes is wanted.
-/
namespace Go.Proofs.Ytammailnbgojgab
open Go.RowKit

theorem grownBy_setRow {w : World} {g : Nat} {cs : Array Value} : w.grownBy (w.setRow g cs) (some g) := by
  refine ⟨rfl, rfl, rfl, by simp [World.setRow], fun b hb hne => ?_⟩
  exact setRow_other _ _ _ _ (fun e => hne (by rw [e]))

section
variable {P : Program} (w : World)
theorem run_append_fit (base : Nat) (t ty e : TypeId) (i : TypeInfo) (size : Nat) (ht : P.underlying t = some (.slice e)) (hi : P.info? e = some i) (hsize : i.size = size)
    (A : Option Addr) (n cap : Nat) (xs : List Value) (hown : w.ownsRow base e size (.slice A n cap) n xs) (B : Nat) (As : Option Addr) (m c : Nat) (news : List Value) (hr : Reads w B size As m news) (h1 : ∀ u ∈ news, u.oneCell' = true) (hpos : 0 < size)
    (hfit : n + m ≤ cap) :
    ∃ w', (Builtin.append_ #[t, t] ty #[.slice A n cap, .slice As m c]).run P w = .ok (.slice A (n + m) cap) w' ∧ w'.ownsRow base e size (.slice A (n + m) cap) (n + m) (xs ++ news) ∧ w.grownBy w' (Value.slice A n cap).ownBlock := by
  have hnil : m = 0 → news = [] := fun h => List.eq_nil_of_length_eq_zero (by rw [hr.1, h]; simp)
  rcases As with _ | ad
  · have hm : m = 0 := by
      rcases Nat.eq_zero_or_pos m with h0 | h0
      · exact h0
      · obtain ⟨ad, h, _⟩ := hr.2 h0
        cases h
    subst hm
    rw [hnil rfl]
    exact ⟨w, run_append_of_nil w base t ty e i size ht hi _ n xs hown c, by simpa using hown, World.grownBy.refl w _⟩
  · have hcells : ∀ j u, news[j]? = some u → w.cell? (ad.add j) = some u := by
      intro j u hu
      rcases Nat.eq_zero_or_pos m with h0 | h0
      · rw [hnil h0] at hu; simp at hu
      · obtain ⟨ad', h, _, hc⟩ := hr.2 h0
        injection h with h
        subst h
        exact hc j u hu
    rcases hown.2 with ⟨hv, hx⟩ | ⟨g, cap', cur, hv, -⟩
    · injection hv with e1 e2 e3
      subst e1 e2 e3
      have hm : m = 0 := by omega
      subst hm
      rw [hnil rfl]
      have hl0 := run_loadCells_list (P := P) w ad [] (by simp)
      simp only [List.length_nil] at hl0
      exact ⟨w, by simp [hl0, Builtin.append_, run_underlying ht, sizeOf, typeInfo, hi, Builtin.lenOf, Builtin.firstCells], by simpa using hown, World.grownBy.refl w _⟩
    · injection hv with e1 e2 e3
      subst e1
      obtain ⟨cur, hb, hg, hc, hm, hs, htk⟩ := own_open hown
      have hlen : news.length = m * size := hr.1
      have hmul : (n + m) * size ≤ cap * size := Nat.mul_le_mul_right _ hfit
      have hsum : (n + m) * size = n * size + m * size := Nat.add_mul _ _ _
      have hrun := run_appendK (P := P) w t ty e size g n cap ad m c cur e news ht (by rw [hi]; simp [hsize]) hg hlen hcells hfit (by omega) h1
      refine ⟨_, hrun, ?_, grownBy_setRow⟩
      have hl2 : (splice cur (n * size) news).length = cap * size := by unfold splice; simp; omega
      have := own_close (w := w.setRow g (splice cur (n * size) news).toArray) (base := base) (e := e) (size := size) (n := n + m) (c := cap) (g := g) (splice cur (n * size) news) hb (setRow_heap w g _ _ _ _ hg) hfit hm hl2
      have h3 : (splice cur (n * size) news).take ((n + m) * size) = xs ++ news := by
        rw [hsum, take_splice _ _ _ _ (by omega) (by omega)]
        unfold splice
        rw [List.take_take, Nat.min_eq_left (by omega), htk, List.drop_of_length_le (by rw [List.length_take]; omega), List.append_nil]
      rw [h3] at this
      exact this
end
end Go.Proofs.Ytammailnbgojgab

/-
  slices.Grow of the nil slice, slices.Concat of two slices, at []int.
-/
namespace Go.Proofs.Ytammailnbgojgab
open Go.RowKit


set_option maxRecDepth 100000 in
set_option maxHeartbeats 400000 in
theorem growInt_nil (n : Nat) (w : World) (hn : n ≤ 35184372088832) :
    Calls Try.prog 97 #[.slice none 0 0, .int .i64 n] w fun e w' => ∃ A' c', e = .returned (.slice A' 0 c') ∧ w'.ownsRow w.heap.size 3 1 (.slice A' 0 c') 0 [] ∧ n ≤ c' ∧ Below w.heap.size w w' := by
  obtain ⟨i0, hi, hz0, hz1, hz2⟩ := info_parts info_int
  by_cases h0 : n = 0
  · subst h0
    go_enter Try.func97, Try.ntmps97
    go_wp2
    go_ret
    exact ⟨none, 0, rfl, World.ownsRow_nil _ _ _ _, Nat.le_refl _, Below.refl _ _⟩
  · have hw : IntKind.i64.wrap (n : Int) = n := IntWalk.i64_in _ (by omega)
    have g1 : decide (0 < n) = true := decide_eq_true (by omega)
    have hrun := fun ty => Lib.run_append_nil_zeros (P := Try.prog) w 23 3 ty 3 i0 _ .i64 .i64 Try.underlying23 Try.underlying3 hi hz0 n (by omega) (by rw [hz1]; decide) (by omega) (by rw [hz2]; omega)
    obtain ⟨cap, hcap, hc1, hc2⟩ : ∃ cap, cap = grownCap w n 0 3 ∧ n ≤ cap ∧ cap ≤ maxLen := ⟨_, rfl, grownCap_ge .., grownCap_le_maxLen _ _ _ _ (by unfold maxLen; omega)⟩
    rw [← hcap] at hrun
    have hsz : (Builtin.zeroCells (Value.int .i64 0).cells n ++ Builtin.zeroCells (Value.int .i64 0).cells (cap - n)).size = cap * 1 := by
      rw [Array.size_append, size_zeroCells, size_zeroCells]
      have : (Value.int .i64 0).cells.size = 1 := rfl
      rw [this]; omega
    generalize hcs : Builtin.zeroCells (Value.int .i64 0).cells n ++ Builtin.zeroCells (Value.int .i64 0).cells (cap - n) = cs at *
    have hfin : (w.drew.alloc (.cells cs 3)).ownsRow w.heap.size 3 1 (.slice (some ⟨w.heap.size, 0, none⟩) 0 cap) 0 [] := by
      have := own_close (w := w.drew.alloc (.cells cs 3)) (base := w.heap.size) (e := 3) (size := 1) (n := 0) (c := cap) (g := w.heap.size) cs.toList (Nat.le_refl _) (by simpa using heap_alloc_new w.drew _) (Nat.zero_le _) hc2 (by simpa using hsz)
      simpa using this
    have HF := Lib.hid hfin
    clear hfin hsz hcs hcap
    go_enter Try.func97, Try.ntmps97
    go_wp2_with (at_builtin; refine Lib.wpList_append_run _ rfl _ _ _ _ rfl _ _ rfl rfl _ _ (hrun _) ?_)
    go_ret
    exact ⟨_, _, rfl, HF.out, hc1, (Below.refl _ _).drew.alloc (Nat.le_refl _) _⟩

theorem Reads.pair {w : World} {B : Nat} {A : Option Addr} {x y : Value} (h : Reads w B 1 A 2 [x, y]) : ∃ ad, A = some ad ∧ ad.block < B ∧ w.cell? ad = some x ∧ w.cell? ⟨ad.block, ad.off + 1, none⟩ = some y := by
  obtain ⟨ad, u, e, hb, hu, hc⟩ := h.at_ (k := 0) (by decide)
  obtain ⟨ad', u', e', hb', hu', hc'⟩ := h.at_ (k := 1) (by decide)
  obtain rfl : ad' = ad := by rw [e] at e'; injection e' with e'; exact e'.symm
  simp at hu hu'
  subst hu
  subst hu'
  exact ⟨ad', e, hb, by simpa [Addr.add] using hc, by rw [addr_add_pos _ _ (by decide)] at hc'; exact hc'⟩

set_option maxRecDepth 100000 in
set_option maxHeartbeats 1000000 in
theorem concat2_int (A1 : Option Addr) (q1 c1 : Nat) (xs1 : List Value) (A2 : Option Addr) (q2 c2 : Nat) (xs2 : List Value) (Av : Option Addr) (cv : Nat) (w : World)
    (hv : Reads w w.heap.size 1 Av 2 [.slice A1 q1 c1, .slice A2 q2 c2]) (h1 : Reads w w.heap.size 1 A1 q1 xs1) (h2 : Reads w w.heap.size 1 A2 q2 xs2)
    (o1 : ∀ u ∈ xs1, u.oneCell' = true) (o2 : ∀ u ∈ xs2, u.oneCell' = true) (hq : q1 + q2 ≤ 35184372088832) :
    Calls Try.prog 47 #[.slice Av 2 cv] w fun e w' => ∃ A' c', e = .returned (.slice A' (q1 + q2) c') ∧ w'.ownsRow w.heap.size 3 1 (.slice A' (q1 + q2) c') (q1 + q2) (xs1 ++ xs2) ∧ Below w.heap.size w w' := by
  obtain ⟨i0, hi, hz0, hz1, hz2⟩ := info_parts info_int
  obtain ⟨ad, rfl, hbl, k0, k1⟩ := hv.pair
  obtain ⟨S, hS⟩ : ∃ S, S = q1 + q2 := ⟨_, rfl⟩
  have wS : IntKind.i64.wrap ((q1 : Int) + q2) = (S : Int) := by rw [IntWalk.i64_in _ (by omega)]; omega
  have wQ : IntKind.i64.wrap (q1 : Int) = (q1 : Int) := IntWalk.i64_in _ (by omega)
  have HG := Lib.hid (fun w => growInt_nil S w (by omega))
  have HS := Lib.hid hS
  rw [← hS]
  clear hS hv
  go_enter Try.func47, Try.ntmps47
  go_wp2_with fail
  go_loop [3, 5, 11] (fun sz _ i => (i = .int .i64 0 ∧ sz = .int .i64 0) ∨ (i = .int .i64 1 ∧ sz = .int .i64 q1) ∨ (i = .int .i64 2 ∧ sz = .int .i64 S)) (fun _ _ i => 2 - (intOf i).toNat)
  case atStart => exact .inl ⟨rfl, rfl⟩
  case round =>
    rcases hrel with ⟨rfl, rfl⟩ | ⟨rfl, rfl⟩ | ⟨rfl, rfl⟩
    · go_wp2_with fail
      go_round
      case rel => exact .inr (.inl ⟨rfl, rfl⟩)
      case measure => simp [intOf]
    · go_wp2_with fail
      go_round
      case rel => exact .inr (.inr ⟨rfl, rfl⟩)
      case measure => simp [intOf]
    · go_wp2_with fail
      refine (HG.out _).mono ?_
      rintro e w1 ⟨A', c', rfl, hown, hcap, hb⟩
      rw [HS.out] at hcap
      go_wp2
      go_loopw [6, 8, 27] (fun ns _ i wr => Below w.heap.size w wr ∧ ((∃ A' c', i = .int .i64 0 ∧ ns = .slice A' 0 c' ∧ wr.ownsRow w.heap.size 3 1 (.slice A' 0 c') 0 [] ∧ q1 + q2 ≤ c') ∨
        (∃ A' c', i = .int .i64 1 ∧ ns = .slice A' q1 c' ∧ wr.ownsRow w.heap.size 3 1 (.slice A' q1 c') q1 xs1 ∧ q1 + q2 ≤ c') ∨
        (∃ A' c', i = .int .i64 2 ∧ ns = .slice A' S c' ∧ wr.ownsRow w.heap.size 3 1 (.slice A' S c') S (xs1 ++ xs2)))) (fun _ _ i _ => 2 - (intOf i).toNat)
      case atStart => exact ⟨hb, .inl ⟨_, _, rfl, rfl, hown, hcap⟩⟩
      case round =>
        obtain ⟨hb, ⟨A', c', rfl, rfl, hown, hcap⟩ | ⟨A', c', rfl, rfl, hown, hcap⟩ | ⟨A', c', rfl, rfl, hown⟩⟩ := hrel
        · have m0 := (hb.cell (p := ad) hbl).trans k0
          obtain ⟨w2, hrun, hown2, hgr⟩ := run_append_fit (P := Try.prog) wr w.heap.size 23 23 3 i0 1 Try.underlying23 hi hz1 A' 0 c' [] hown w.heap.size A1 q1 c1 xs1 (h1.below hb) o1 (by decide) (by omega)
          go_wp2_with (at_builtin; refine Lib.wpList_append_run _ rfl _ _ _ _ rfl _ _ rfl rfl _ _ hrun ?_)
          have hb2 : Below w.heap.size w w2 := hb.grown hgr hb.size (fun g hg => (hown.lt g hg).1)
          rw [Nat.zero_add, List.nil_append] at hown2
          go_roundw
          case rel => exact ⟨hb2, .inr (.inl ⟨_, _, rfl, by simp, hown2, hcap⟩)⟩
          case measure => simp [intOf]
        · have m0 := (hb.cell (p := ⟨ad.block, ad.off + 1, none⟩) hbl).trans k1
          obtain ⟨w2, hrun, hown2, hgr⟩ := run_append_fit (P := Try.prog) wr w.heap.size 23 23 3 i0 1 Try.underlying23 hi hz1 A' q1 c' xs1 hown w.heap.size A2 q2 c2 xs2 (h2.below hb) o2 (by decide) hcap
          go_wp2_with (at_builtin; refine Lib.wpList_append_run _ rfl _ _ _ _ rfl _ _ rfl rfl _ _ hrun ?_)
          have hb2 : Below w.heap.size w w2 := hb.grown hgr hb.size (fun g hg => (hown.lt g hg).1)
          rw [← HS.out] at hown2
          go_roundw
          case rel => exact ⟨hb2, .inr (.inr ⟨_, _, rfl, by rw [HS.out], hown2⟩)⟩
          case measure => simp [intOf]
        · go_wp2
          go_ret
          exact ⟨A', c', rfl, hown, hb⟩
end Go.Proofs.Ytammailnbgojgab

/-
  slices.Grow of the nil slice, slices.Concat of two slices, at []uint64.
-/
namespace Go.Proofs.Ytammailnbgojgab
open Go.RowKit


set_option maxRecDepth 100000 in
set_option maxHeartbeats 400000 in
theorem growU64_nil (n : Nat) (w : World) (hn : n ≤ 35184372088832) :
    Calls Try.prog 103 #[.slice none 0 0, .int .i64 n] w fun e w' => ∃ A' c', e = .returned (.slice A' 0 c') ∧ w'.ownsRow w.heap.size 47 1 (.slice A' 0 c') 0 [] ∧ n ≤ c' ∧ Below w.heap.size w w' := by
  obtain ⟨i0, hi, hz0, hz1, hz2⟩ := info_parts info_u64
  by_cases h0 : n = 0
  · subst h0
    go_enter Try.func103, Try.ntmps103
    go_wp2
    go_ret
    exact ⟨none, 0, rfl, World.ownsRow_nil _ _ _ _, Nat.le_refl _, Below.refl _ _⟩
  · have hw : IntKind.i64.wrap (n : Int) = n := IntWalk.i64_in _ (by omega)
    have g1 : decide (0 < n) = true := decide_eq_true (by omega)
    have hrun := fun ty => Lib.run_append_nil_zeros (P := Try.prog) w 22 3 ty 47 i0 _ .i64 .i64 Try.underlying22 Try.underlying3 hi hz0 n (by omega) (by rw [hz1]; decide) (by omega) (by rw [hz2]; omega)
    obtain ⟨cap, hcap, hc1, hc2⟩ : ∃ cap, cap = grownCap w n 0 47 ∧ n ≤ cap ∧ cap ≤ maxLen := ⟨_, rfl, grownCap_ge .., grownCap_le_maxLen _ _ _ _ (by unfold maxLen; omega)⟩
    rw [← hcap] at hrun
    have hsz : (Builtin.zeroCells (Value.int .u64 0).cells n ++ Builtin.zeroCells (Value.int .u64 0).cells (cap - n)).size = cap * 1 := by
      rw [Array.size_append, size_zeroCells, size_zeroCells]
      have : (Value.int .u64 0).cells.size = 1 := rfl
      rw [this]; omega
    generalize hcs : Builtin.zeroCells (Value.int .u64 0).cells n ++ Builtin.zeroCells (Value.int .u64 0).cells (cap - n) = cs at *
    have hfin : (w.drew.alloc (.cells cs 47)).ownsRow w.heap.size 47 1 (.slice (some ⟨w.heap.size, 0, none⟩) 0 cap) 0 [] := by
      have := own_close (w := w.drew.alloc (.cells cs 47)) (base := w.heap.size) (e := 47) (size := 1) (n := 0) (c := cap) (g := w.heap.size) cs.toList (Nat.le_refl _) (by simpa using heap_alloc_new w.drew _) (Nat.zero_le _) hc2 (by simpa using hsz)
      simpa using this
    have HF := Lib.hid hfin
    clear hfin hsz hcs hcap
    go_enter Try.func103, Try.ntmps103
    go_wp2_with (at_builtin; refine Lib.wpList_append_run _ rfl _ _ _ _ rfl _ _ rfl rfl _ _ (hrun _) ?_)
    go_ret
    exact ⟨_, _, rfl, HF.out, hc1, (Below.refl _ _).drew.alloc (Nat.le_refl _) _⟩

set_option maxRecDepth 100000 in
set_option maxHeartbeats 1000000 in
theorem concat2_u64 (A1 : Option Addr) (q1 c1 : Nat) (xs1 : List Value) (A2 : Option Addr) (q2 c2 : Nat) (xs2 : List Value) (Av : Option Addr) (cv : Nat) (w : World)
    (hv : Reads w w.heap.size 1 Av 2 [.slice A1 q1 c1, .slice A2 q2 c2]) (h1 : Reads w w.heap.size 1 A1 q1 xs1) (h2 : Reads w w.heap.size 1 A2 q2 xs2)
    (o1 : ∀ u ∈ xs1, u.oneCell' = true) (o2 : ∀ u ∈ xs2, u.oneCell' = true) (hq : q1 + q2 ≤ 35184372088832) :
    Calls Try.prog 59 #[.slice Av 2 cv] w fun e w' => ∃ A' c', e = .returned (.slice A' (q1 + q2) c') ∧ w'.ownsRow w.heap.size 47 1 (.slice A' (q1 + q2) c') (q1 + q2) (xs1 ++ xs2) ∧ Below w.heap.size w w' := by
  obtain ⟨i0, hi, hz0, hz1, hz2⟩ := info_parts info_u64
  obtain ⟨ad, rfl, hbl, k0, k1⟩ := hv.pair
  obtain ⟨S, hS⟩ : ∃ S, S = q1 + q2 := ⟨_, rfl⟩
  have wS : IntKind.i64.wrap ((q1 : Int) + q2) = (S : Int) := by rw [IntWalk.i64_in _ (by omega)]; omega
  have wQ : IntKind.i64.wrap (q1 : Int) = (q1 : Int) := IntWalk.i64_in _ (by omega)
  have HG := Lib.hid (fun w => growU64_nil S w (by omega))
  have HS := Lib.hid hS
  rw [← hS]
  clear hS hv
  go_enter Try.func59, Try.ntmps59
  go_wp2_with fail
  go_loop [3, 5, 11] (fun sz _ i => (i = .int .i64 0 ∧ sz = .int .i64 0) ∨ (i = .int .i64 1 ∧ sz = .int .i64 q1) ∨ (i = .int .i64 2 ∧ sz = .int .i64 S)) (fun _ _ i => 2 - (intOf i).toNat)
  case atStart => exact .inl ⟨rfl, rfl⟩
  case round =>
    rcases hrel with ⟨rfl, rfl⟩ | ⟨rfl, rfl⟩ | ⟨rfl, rfl⟩
    · go_wp2_with fail
      go_round
      case rel => exact .inr (.inl ⟨rfl, rfl⟩)
      case measure => simp [intOf]
    · go_wp2_with fail
      go_round
      case rel => exact .inr (.inr ⟨rfl, rfl⟩)
      case measure => simp [intOf]
    · go_wp2_with fail
      refine (HG.out _).mono ?_
      rintro e w1 ⟨A', c', rfl, hown, hcap, hb⟩
      rw [HS.out] at hcap
      go_wp2
      go_loopw [6, 8, 27] (fun ns _ i wr => Below w.heap.size w wr ∧ ((∃ A' c', i = .int .i64 0 ∧ ns = .slice A' 0 c' ∧ wr.ownsRow w.heap.size 47 1 (.slice A' 0 c') 0 [] ∧ q1 + q2 ≤ c') ∨
        (∃ A' c', i = .int .i64 1 ∧ ns = .slice A' q1 c' ∧ wr.ownsRow w.heap.size 47 1 (.slice A' q1 c') q1 xs1 ∧ q1 + q2 ≤ c') ∨
        (∃ A' c', i = .int .i64 2 ∧ ns = .slice A' S c' ∧ wr.ownsRow w.heap.size 47 1 (.slice A' S c') S (xs1 ++ xs2)))) (fun _ _ i _ => 2 - (intOf i).toNat)
      case atStart => exact ⟨hb, .inl ⟨_, _, rfl, rfl, hown, hcap⟩⟩
      case round =>
        obtain ⟨hb, ⟨A', c', rfl, rfl, hown, hcap⟩ | ⟨A', c', rfl, rfl, hown, hcap⟩ | ⟨A', c', rfl, rfl, hown⟩⟩ := hrel
        · have m0 := (hb.cell (p := ad) hbl).trans k0
          obtain ⟨w2, hrun, hown2, hgr⟩ := run_append_fit (P := Try.prog) wr w.heap.size 22 22 47 i0 1 Try.underlying22 hi hz1 A' 0 c' [] hown w.heap.size A1 q1 c1 xs1 (h1.below hb) o1 (by decide) (by omega)
          go_wp2_with (at_builtin; refine Lib.wpList_append_run _ rfl _ _ _ _ rfl _ _ rfl rfl _ _ hrun ?_)
          have hb2 : Below w.heap.size w w2 := hb.grown hgr hb.size (fun g hg => (hown.lt g hg).1)
          rw [Nat.zero_add, List.nil_append] at hown2
          go_roundw
          case rel => exact ⟨hb2, .inr (.inl ⟨_, _, rfl, by simp, hown2, hcap⟩)⟩
          case measure => simp [intOf]
        · have m0 := (hb.cell (p := ⟨ad.block, ad.off + 1, none⟩) hbl).trans k1
          obtain ⟨w2, hrun, hown2, hgr⟩ := run_append_fit (P := Try.prog) wr w.heap.size 22 22 47 i0 1 Try.underlying22 hi hz1 A' q1 c' xs1 hown w.heap.size A2 q2 c2 xs2 (h2.below hb) o2 (by decide) hcap
          go_wp2_with (at_builtin; refine Lib.wpList_append_run _ rfl _ _ _ _ rfl _ _ rfl rfl _ _ hrun ?_)
          have hb2 : Below w.heap.size w w2 := hb.grown hgr hb.size (fun g hg => (hown.lt g hg).1)
          rw [← HS.out] at hown2
          go_roundw
          case rel => exact ⟨hb2, .inr (.inr ⟨_, _, rfl, by rw [HS.out], hown2⟩)⟩
          case measure => simp [intOf]
        · go_wp2
          go_ret
          exact ⟨A', c', rfl, hown, hb⟩
end Go.Proofs.Ytammailnbgojgab

/-
  Plain law: rows set into rows; an object's words. No program stands here.
-/
namespace Go.Proofs.Ytammailnbgojgab
open Go.RowKit

theorem splice_set {α : Type} {L cs : List α} {off k : Nat} (v : α) (h : off ≤ L.length) (hk : k < cs.length) : (splice L off cs).set (off + k) v = splice L off (cs.set k v) := by
  unfold splice
  rw [List.set_append_right _ _ (by rw [List.length_take]; omega), List.length_take, Nat.min_eq_left h, show off + k - off = k by omega, List.set_append_left _ _ hk, List.length_set]
theorem splice_at {α : Type} {L cs : List α} {off k : Nat} (h : off ≤ L.length) (hk : k < cs.length) : (splice L off cs)[off + k]? = cs[k]? := by
  unfold splice
  rw [List.getElem?_append_right (by rw [List.length_take]; omega), List.length_take, Nat.min_eq_left h, show off + k - off = k by omega, List.getElem?_append_left hk]
theorem splice_lenS {α : Type} {L cs : List α} {off : Nat} (h : off + cs.length ≤ L.length) : (splice L off cs).length = L.length := by
  unfold splice
  rw [List.length_append, List.length_append, List.length_take, List.length_drop]
  omega
theorem splice_map {α β : Type} (f : α → β) (L cs : List α) (off : Nat) : (splice L off cs).map f = splice (L.map f) off (cs.map f) := by
  unfold splice
  simp
theorem obj_words {a : List Int} {s : Spot} (h : SpotOk a s) : (a.drop s.loc.toNat).take s.long.toNat = wordOf s.r s.b s.t s.f :: (refsOf a s ++ bodyOf a s) := by
  have l0 := h.loc0
  have r0 := h.r0
  have b0 := h.b0
  have ft := h.fits
  unfold Spot.long at ft ⊢
  obtain ⟨h1, h2⟩ := List.getElem?_eq_some_iff.1 h.word
  rw [List.drop_eq_getElem_cons h1, h2, show (1 + s.r + s.b).toNat = (s.r.toNat + s.b.toNat) + 1 by omega, List.take_succ_cons]
  congr 1
  unfold refsOf bodyOf
  rw [List.take_add, List.drop_drop]

theorem zero_u64 (w : World) : (zeroValue 47).run Try.prog w = .ok (.int .u64 0) w := by kernel_rfl
theorem mid_set {Wd z : Int} {A rs bs : List Int} {q : Nat} (hA : A.length = q) (hq : q < rs.length) : (Wd :: (A ++ (rs.drop q ++ bs))).set (1 + q) z = Wd :: ((A ++ [z]) ++ (rs.drop (q + 1) ++ bs)) := by
  rw [Nat.add_comm 1 q, List.set_cons_succ, List.set_append_right _ _ (by omega), hA, Nat.sub_self, List.drop_eq_getElem_cons hq, List.cons_append, List.set_cons_zero]
  simp

end Go.Proofs.Ytammailnbgojgab

/-
  package word: New.
-/
namespace Go.Proofs.Ytammailnbgojgab
open Go.RowKit

set_option maxHeartbeats 400000 in
theorem wnew_ok (n : Nat) (w : World) (hn : n ≤ 256) :
    Calls Try.prog 55 #[.int .i64 n] w fun e w' => e = .returned (.tuple #[.slice (some ⟨w.heap.size, 0, none⟩) n n, .int .i64 0]) ∧ w' = w.alloc (.cells (madeCells #[Value.int .u64 0] n) 47) := by
  obtain ⟨i0, hi, hz0, hz1, hz2⟩ := info_parts info_u64
  have hmk := fun W => run_make_rowN (P := Try.prog) 22 47 i0 (.int .u64 0) Try.underlying22 hi hz0 .i64 .i64 n n (Nat.le_refl _) (by rw [hz2]; omega) (by omega) W
  rw [hz1, Nat.mul_one] at hmk
  have h1 : ¬ (n : Int) < 0 := by omega
  have h2 : ¬ (256 : Int) < n := by omega
  go_enter Try.func55, Try.ntmps55
  go_wp2
  go_ret2
  exact ⟨rfl, rfl⟩
set_option maxHeartbeats 400000 in
theorem wnew_bad (n : Int) (w : World) (hn : n < 0 ∨ 256 < n) :
    Calls Try.prog 55 #[.int .i64 n] w fun e w' => e = .returned (.tuple #[.slice none 0 0, .int .i64 4]) ∧ w' = w := by
  rcases hn with h | h
  · go_enter Try.func55, Try.ntmps55
    go_wp2
    go_ret2
    exact ⟨rfl, rfl⟩
  · have h1 : ¬ n < 0 := by omega
    go_enter Try.func55, Try.ntmps55
    go_wp2
    go_ret2
    exact ⟨rfl, rfl⟩
theorem results_tmp4c {fn : Func} {t u v x : Tmp} (h : fn.results = #[.tmp t, .tmp u, .tmp v, .tmp x]) (tmps : Array Value) (P : Program) (w : World) :
    (results fn tmps).run P w = .ok (.tuple #[tmps.getD t undef, tmps.getD u undef, tmps.getD v undef, tmps.getD x undef]) w := by simp [results, h]

end Go.Proofs.Ytammailnbgojgab

/-
  Contract of slices.Equal at []uint64.
-/
namespace Go.Proofs.Ytammailnbgojgab
open Go.RowKit

set_option maxHeartbeats 400000 in
theorem equal_u64 (A A2 : Option Addr) (n c m c2 B B2 : Nat) (xs ys : List Int) (w : World) (hr : Reads w B 1 A n (xs.map (.int .u64))) (hr2 : Reads w B2 1 A2 m (ys.map (.int .u64))) (hn : n ≤ 1000000000000000000) (hm : m ≤ 1000000000000000000) :
    Calls Try.prog 20 #[.slice A n c, .slice A2 m c2] w fun e w' => e = .returned (.bool (decide (xs = ys))) ∧ ∃ q, w' = w.drewN q := by
  have hxl : xs.length = n := by have := hr.1; simpa using this
  have hyl : ys.length = m := by have := hr2.1; simpa using this
  have HX := Lib.hid hxl
  have HY := Lib.hid hyl
  clear hxl hyl
  by_cases hnm : n = m
  · subst hnm
    go_enter Try.func20, Try.ntmps20
    go_wp2
    go_loopw [13] (fun i wr => ∃ j : Nat, j ≤ n ∧ i = .int .i64 j ∧ xs.take j = ys.take j ∧ ∃ q, wr = w.drewN q) (fun i _ => n - (intOf i).toNat)
    case atStart => exact ⟨0, Nat.zero_le _, rfl, by simp, 0, rfl⟩
    case round =>
      obtain ⟨j, hj, rfl, ht, q, rfl⟩ := hrel
      have HT := Lib.hid ht
      clear ht
      by_cases hlt : j < n
      · obtain ⟨ad, u, rfl, _, hx, hc⟩ := hr.at_ hlt
        obtain ⟨ad2, u2, rfl, _, hx2, hc2⟩ := hr2.at_ hlt
        have hl : j < xs.length := by rw [HX.out]; exact hlt
        have hl2 : j < ys.length := by rw [HY.out]; exact hlt
        rw [List.getElem?_map, List.getElem?_eq_getElem hl] at hx
        rw [List.getElem?_map, List.getElem?_eq_getElem hl2] at hx2
        obtain rfl : u = .int .u64 xs[j] := by simpa using hx.symm
        obtain rfl : u2 = .int .u64 ys[j] := by simpa using hx2.symm
        clear hx hx2
        have T : Hid (xs.take (j + 1) = ys.take (j + 1) ↔ xs[j] = ys[j]) := by
          show _ ↔ _
          rw [List.take_succ_eq_append_getElem hl, List.take_succ_eq_append_getElem hl2, HT.out]
          constructor
          · intro h
            have := List.append_cancel_left h
            simpa using this
          · intro h; rw [h]
        have hlt' : (j : Int) < n := by omega
        generalize hgx : xs[j] = x at *
        generalize hgy : ys[j] = y at *
        have HGX := Lib.hid hgx
        have HGY := Lib.hid hgy
        clear hgx hgy
        by_cases he : x = y
        · subst he
          go_wp2
          go_quiet (fail)
          go_wp2
          go_roundw
          case rel => exact ⟨j + 1, by omega, by go_num, T.out.2 (by simp), _, rfl⟩
          case measure => simp [intOf]; omega
        · have he2 : (x == y) = false := by simpa using he
          have he3 : (x != y) = true := by simpa using he
          go_wp2
          go_quiet (fail)
          go_wp2
          go_ret
          refine ⟨?_, _, drewN_add _ _ _⟩
          have : ¬ xs = ys := by
            intro h
            apply he
            rw [← HGX.out, ← HGY.out]
            subst h
            rfl
          rw [decide_eq_false this]
          rfl
      · go_wp2
        go_ret
        have hjn : j = n := by omega
        subst hjn
        exact ⟨by rw [decide_eq_true (eq_of_takes _ _ _ HX.out HY.out HT.out)]; rfl, _, rfl⟩
  · have hne : ¬ xs = ys := by
      intro h
      subst h
      exact hnm (HX.out.symm.trans HY.out)
    have e1 : ((n : Int) == (m : Int)) = false := by simp; omega
    have e2 : ((n : Int) != (m : Int)) = true := by simp; omega
    have e3 : (n == m) = false := by simpa using hnm
    have e4 : (n != m) = true := by simpa using hnm
    go_enter Try.func20, Try.ntmps20
    go_wp2
    go_ret
    exact ⟨by rw [decide_eq_false hne]; rfl, 0, rfl⟩

end Go.Proofs.Ytammailnbgojgab

/-
  Contract of slices.Equal at []int.
-/
namespace Go.Proofs.Ytammailnbgojgab
open Go.RowKit

set_option maxHeartbeats 400000 in
theorem equal_int (A A2 : Option Addr) (n c m c2 B B2 : Nat) (xs ys : List Int) (w : World) (hr : Reads w B 1 A n (xs.map (.int .i64))) (hr2 : Reads w B2 1 A2 m (ys.map (.int .i64))) (hn : n ≤ 1000000000000000000) (hm : m ≤ 1000000000000000000) :
    Calls Try.prog 16 #[.slice A n c, .slice A2 m c2] w fun e w' => e = .returned (.bool (decide (xs = ys))) ∧ ∃ q, w' = w.drewN q := by
  have hxl : xs.length = n := by have := hr.1; simpa using this
  have hyl : ys.length = m := by have := hr2.1; simpa using this
  have HX := Lib.hid hxl
  have HY := Lib.hid hyl
  clear hxl hyl
  by_cases hnm : n = m
  · subst hnm
    go_enter Try.func16, Try.ntmps16
    go_wp2
    go_loopw [13] (fun i wr => ∃ j : Nat, j ≤ n ∧ i = .int .i64 j ∧ xs.take j = ys.take j ∧ ∃ q, wr = w.drewN q) (fun i _ => n - (intOf i).toNat)
    case atStart => exact ⟨0, Nat.zero_le _, rfl, by simp, 0, rfl⟩
    case round =>
      obtain ⟨j, hj, rfl, ht, q, rfl⟩ := hrel
      have HT := Lib.hid ht
      clear ht
      by_cases hlt : j < n
      · obtain ⟨ad, u, rfl, _, hx, hc⟩ := hr.at_ hlt
        obtain ⟨ad2, u2, rfl, _, hx2, hc2⟩ := hr2.at_ hlt
        have hl : j < xs.length := by rw [HX.out]; exact hlt
        have hl2 : j < ys.length := by rw [HY.out]; exact hlt
        rw [List.getElem?_map, List.getElem?_eq_getElem hl] at hx
        rw [List.getElem?_map, List.getElem?_eq_getElem hl2] at hx2
        obtain rfl : u = .int .i64 xs[j] := by simpa using hx.symm
        obtain rfl : u2 = .int .i64 ys[j] := by simpa using hx2.symm
        clear hx hx2
        have T : Hid (xs.take (j + 1) = ys.take (j + 1) ↔ xs[j] = ys[j]) := by
          show _ ↔ _
          rw [List.take_succ_eq_append_getElem hl, List.take_succ_eq_append_getElem hl2, HT.out]
          constructor
          · intro h
            have := List.append_cancel_left h
            simpa using this
          · intro h; rw [h]
        have hlt' : (j : Int) < n := by omega
        generalize hgx : xs[j] = x at *
        generalize hgy : ys[j] = y at *
        have HGX := Lib.hid hgx
        have HGY := Lib.hid hgy
        clear hgx hgy
        by_cases he : x = y
        · subst he
          go_wp2
          go_quiet (fail)
          go_wp2
          go_roundw
          case rel => exact ⟨j + 1, by omega, by go_num, T.out.2 (by simp), _, rfl⟩
          case measure => simp [intOf]; omega
        · have he2 : (x == y) = false := by simpa using he
          have he3 : (x != y) = true := by simpa using he
          go_wp2
          go_quiet (fail)
          go_wp2
          go_ret
          refine ⟨?_, _, drewN_add _ _ _⟩
          have : ¬ xs = ys := by
            intro h
            apply he
            rw [← HGX.out, ← HGY.out]
            subst h
            rfl
          rw [decide_eq_false this]
          rfl
      · go_wp2
        go_ret
        have hjn : j = n := by omega
        subst hjn
        exact ⟨by rw [decide_eq_true (eq_of_takes _ _ _ HX.out HY.out HT.out)]; rfl, _, rfl⟩
  · have hne : ¬ xs = ys := by
      intro h
      subst h
      exact hnm (HX.out.symm.trans HY.out)
    have e1 : ((n : Int) == (m : Int)) = false := by simp; omega
    have e2 : ((n : Int) != (m : Int)) = true := by simp; omega
    have e3 : (n == m) = false := by simpa using hnm
    have e4 : (n != m) = true := by simpa using hnm
    go_enter Try.func16, Try.ntmps16
    go_wp2
    go_ret
    exact ⟨by rw [decide_eq_false hne]; rfl, 0, rfl⟩

end Go.Proofs.Ytammailnbgojgab

/-
  package same: equal.
-/
namespace Go.Proofs.Ytammailnbgojgab
open Go.RowKit

set_option maxRecDepth 100000 in
set_option maxHeartbeats 1000000 in
theorem equalOb_any (o1 o2 : Ob) (v1 v2 : ObV) (w : World) (h1 : ObR w w.heap.size o1 v1) (h2 : ObR w w.heap.size o2 v2) (hn1 : v1.n1 ≤ 1000000 ∧ v1.n2 ≤ 1000000) (hn2' : v2.n1 ≤ 1000000 ∧ v2.n2 ≤ 1000000) :
    Calls Try.prog 52 #[.agg #[.int .i64 v1.t, .slice v1.A1 v1.n1 v1.c1, .slice v1.A2 v1.n2 v1.c2, .bool v1.f], .agg #[.int .i64 v2.t, .slice v2.A1 v2.n1 v2.c1, .slice v2.A2 v2.n2 v2.c2, .bool v2.f]] w fun e w' => e = .returned (.bool (decide (o1 = o2))) ∧ Below w.heap.size w w' := by
  obtain ⟨a1, a2, -, -, -, -, a7, a8⟩ := h1
  obtain ⟨b1, b2, -, -, -, -, b7, b8⟩ := h2
  obtain ⟨t1, A1, n1, c1, A2, n2, c2, f1⟩ := v1
  obtain ⟨t2, B1, m1, d1, B2, m2, d2, f2⟩ := v2
  obtain ⟨s1, r1, y1, g1⟩ := o1
  obtain ⟨s2, r2, y2, g2⟩ := o2
  dsimp only at *
  subst a1 a2 b1 b2
  obtain ⟨hn1, hn2⟩ := hn1
  obtain ⟨hm1, hm2⟩ := hn2'
  have hbw := (below_new w (.cells #[.int .i64 t1, .slice A1 n1 c1, .slice A2 n2 c2, .bool f1] 38)).alloc (by simp) (.cells #[.int .i64 t2, .slice B1 m1 d1, .slice B2 m2 d2, .bool f2] 38)
  have HBW := Lib.hid hbw
  have HI := Lib.hid (fun W (hr : Below w.heap.size w W) => equal_int A1 B1 n1 c1 m1 d1 _ _ r1 r2 W (a7.below hr) (b7.below hr) (by omega) (by omega))
  have HU := Lib.hid (fun W (hr : Below w.heap.size w W) => equal_u64 A2 B2 n2 c2 m2 d2 _ _ y1 y2 W (a8.below hr) (b8.below hr) (by omega) (by omega))
  clear a7 a8 b7 b8 hbw hn1 hn2 hm1 hm2
  by_cases e1 : t1 = t2
  · subst e1
    by_cases e2 : f1 = f2
    · subst e2
      by_cases e3 : r1 = r2
      · have HE3 : Hid (decide (r1 = r2) = true) := decide_eq_true e3
        by_cases e4 : y1 = y2
        · have HE4 : Hid (decide (y1 = y2) = true) := decide_eq_true e4
          have HD : Hid (decide ((⟨t1, r1, y1, f1⟩ : Ob) = ⟨t1, r2, y2, f1⟩) = true) := by show _ = _; rw [e3, e4]; exact decide_eq_true rfl
          clear e3 e4
          go_enter Try.func52, Try.ntmps52
          go_wp2_with fail
          refine (HI.out _ HBW.out).mono ?_
          rw [HE3.out]
          rintro e w1 ⟨rfl, q, rfl⟩
          go_wp2_with fail
          refine (HU.out _ (below_drewN HBW.out q)).mono ?_
          rw [HE4.out]
          rintro e w1 ⟨rfl, q2, rfl⟩
          go_wp2
          go_ret
          exact ⟨by rw [HD.out]; rfl, below_drewN HBW.out _⟩
        · have HE4 : Hid (decide (y1 = y2) = false) := decide_eq_false e4
          have HD : Hid (decide ((⟨t1, r1, y1, f1⟩ : Ob) = ⟨t1, r2, y2, f1⟩) = false) := by show _ = _; rw [decide_eq_false]; intro h; injection h with _ _ h _; exact e4 h
          clear e3 e4
          go_enter Try.func52, Try.ntmps52
          go_wp2_with fail
          refine (HI.out _ HBW.out).mono ?_
          rw [HE3.out]
          rintro e w1 ⟨rfl, q, rfl⟩
          go_wp2_with fail
          refine (HU.out _ (below_drewN HBW.out q)).mono ?_
          rw [HE4.out]
          rintro e w1 ⟨rfl, q2, rfl⟩
          go_wp2
          go_ret
          exact ⟨by rw [HD.out]; rfl, below_drewN HBW.out _⟩
      · have HE3 : Hid (decide (r1 = r2) = false) := decide_eq_false e3
        have HD : Hid (decide ((⟨t1, r1, y1, f1⟩ : Ob) = ⟨t1, r2, y2, f1⟩) = false) := by show _ = _; rw [decide_eq_false]; intro h; injection h with _ h _ _; exact e3 h
        clear e3
        go_enter Try.func52, Try.ntmps52
        go_wp2_with fail
        refine (HI.out _ HBW.out).mono ?_
        rw [HE3.out]
        rintro e w1 ⟨rfl, q, rfl⟩
        go_wp2
        go_ret
        exact ⟨by rw [HD.out]; rfl, below_drewN HBW.out q⟩
    · have HD : Hid (decide ((⟨t1, r1, y1, f1⟩ : Ob) = ⟨t1, r2, y2, f2⟩) = false) := by show _ = _; rw [decide_eq_false]; intro h; injection h with _ _ _ h; exact e2 h
      have e2' : (f1 == f2) = false := by simpa using e2
      clear e2
      go_enter Try.func52, Try.ntmps52
      go_wp2
      go_ret
      exact ⟨by rw [HD.out]; rfl, HBW.out⟩
  · have HD : Hid (decide ((⟨t1, r1, y1, f1⟩ : Ob) = ⟨t2, r2, y2, f2⟩) = false) := by show _ = _; rw [decide_eq_false]; intro h; injection h with h; exact e1 h
    have e1' : (t1 == t2) = false := by simpa using e1
    clear e1
    go_enter Try.func52, Try.ntmps52
    go_wp2
    go_ret
    exact ⟨by rw [HD.out]; rfl, HBW.out⟩
end Go.Proofs.Ytammailnbgojgab
