/-
  Texts joined: PlanDefs PlanLaw TintEach TintAdd TintReach ContainsInt TintFns CarryOrd Objects Form IsoLaw.
-/
import Derived.BigQuiet
import Derived.Test.YtbmkbnalembbjaaGreatDoorRows
import Derived.Deep.RegionHeld3
import Derived.Test.YtbmkbnalembbjaaGreatDoorQ0
import Derived.Test.YtbmkbnalembbjaaGreatDoorQ2
import Derived.Test.YtbmkbnalembbjaaGreatDoorQ3
import Derived.Test.YtbmkbnalembbjaaGreatDoorQ4
namespace Go.Proofs.YtbmkbnalembbjaaGreatDoor
open Go.RowKit
def risesP : List Int → Bool
  | a :: b :: t => decide (a < b) && risesP (b :: t)
  | _ => true
theorem risesP_pairwise : ∀ {l : List Int}, risesP l = true → l.Pairwise (· < ·)
  | [], _ => List.Pairwise.nil
  | [_], _ => by simp
  | a :: b :: t, h => by
    simp only [risesP, Bool.and_eq_true, decide_eq_true_eq] at h
    have ih := risesP_pairwise h.2
    refine List.pairwise_cons.2 ⟨fun x hx => ?_, ih⟩
    rcases List.mem_cons.1 hx with rfl | hx
    · exact h.1
    · have := (List.pairwise_cons.1 ih).1 x hx
      omega
def pL (x : Int) (s : Spot) : Bool := (s.loc == x) && !s.f
def longAt (S : List Spot) (x : Int) : Int := match S[(ixOf (pL x) S).toNat]? with | some s => s.long | none => 0
def longsE (a keep pinned : List Int) : Int :=
  if checkE a ≠ 0 then checkE a else if (!risesP keep || !risesP pinned) = true then 3 else if keep.any (fun x => decide (ixOf (pL x) (spotsL a) < 0)) = true then 5 else if pinned.any (fun x => !decide (x ∈ keep)) = true then 5 else 0
def longsV (a keep pinned : List Int) : List Int := if longsE a keep pinned = 0 then keep.map (longAt (spotsL a)) else []
theorem longsE_ok {a keep pinned : List Int} : longsE a keep pinned = 0 ↔ checkE a = 0 ∧ risesP keep = true ∧ risesP pinned = true ∧ (∀ x ∈ keep, 0 ≤ ixOf (pL x) (spotsL a)) ∧ ∀ x ∈ pinned, x ∈ keep := by
  unfold longsE
  by_cases h1 : checkE a = 0
  · rw [if_neg (by simpa using h1)]
    by_cases h2 : (!risesP keep || !risesP pinned) = true
    · rw [if_pos h2]
      constructor
      · intro h; cases h
      · rintro ⟨_, h3, h4, _⟩; rw [h3, h4] at h2; cases h2
    · rw [if_neg h2]
      have h3 : risesP keep = true ∧ risesP pinned = true := by simpa using h2
      by_cases h4 : keep.any (fun x => decide (ixOf (pL x) (spotsL a) < 0)) = true
      · rw [if_pos h4]
        constructor
        · intro h; cases h
        · rintro ⟨_, _, _, h5, _⟩
          obtain ⟨x, hx, hd⟩ := List.any_eq_true.1 h4
          have := h5 x hx
          simp only [decide_eq_true_eq] at hd
          omega
      · rw [if_neg h4]
        have h5 : ∀ x ∈ keep, 0 ≤ ixOf (pL x) (spotsL a) := by
          intro x hx
          rcases Int.lt_or_le (ixOf (pL x) (spotsL a)) 0 with h | h
          · exact absurd (List.any_eq_true.2 ⟨x, hx, decide_eq_true h⟩) h4
          · exact h
        by_cases h6 : pinned.any (fun x => !decide (x ∈ keep)) = true
        · rw [if_pos h6]
          constructor
          · intro h; cases h
          · rintro ⟨_, _, _, _, h7⟩
            obtain ⟨x, hx, hd⟩ := List.any_eq_true.1 h6
            rw [decide_eq_true (h7 x hx)] at hd
            cases hd
        · rw [if_neg h6]
          refine ⟨fun _ => ⟨h1, h3.1, h3.2, h5, fun x hx => ?_⟩, fun _ => rfl⟩
          by_cases hk : x ∈ keep
          · exact hk
          · exact absurd (List.any_eq_true.2 ⟨x, hx, by rw [decide_eq_false hk]; rfl⟩) h6
  · rw [if_pos h1]
    exact ⟨fun h => absurd h h1, fun h => absurd h.1 h1⟩
def slidGo (pinned : List Int) : Int → List Int → List Int → List Int
  | e, x :: ks, n :: ls => (if x ∈ pinned then x else e) :: slidGo pinned ((if x ∈ pinned then x else e) + n) ks ls
  | _, _, _ => []
def pgaps (N : Int) : Int → List Int → List Int → List Rn
  | e, y :: ys, n :: ns => (if e < y then [⟨e, y - e⟩] else []) ++ pgaps N (y + n) ys ns
  | e, _, _ => if e < N then [⟨e, N - e⟩] else []
structure Kept (N : Int) (keep long : List Int) : Prop where
  same : long.length = keep.length
  at_ : ∀ (j : Nat) (x n : Int), keep[j]? = some x → long[j]? = some n → 0 ≤ x ∧ 1 ≤ n ∧ n ≤ 256 ∧ x + n ≤ N
  next : ∀ (j : Nat) (x n y : Int), keep[j]? = some x → long[j]? = some n → keep[j + 1]? = some y → x + n ≤ y
theorem spots_of_ix {a : List Int} (h : spotsE a = 0) {x : Int} (hx : 0 ≤ ixOf (pL x) (spotsL a)) :
    ∃ (i : Nat) (s : Spot), ixOf (pL x) (spotsL a) = i ∧ (spotsL a)[i]? = some s ∧ s.loc = x ∧ s.f = false ∧ SpotOk a s ∧ longAt (spotsL a) x = s.long ∧ ixOf (fun s => s.loc == x) (spotsL a) = i := by
  rcases ixOf_cases (pL x) (spotsL a) with ⟨h1, -⟩ | ⟨i, s, h1, h2, h3, h4⟩
  · omega
  · have h3' : s.loc = x ∧ s.f = false := by simpa [pL] using h3
    refine ⟨i, s, h1, h2, h3'.1, h3'.2, ((parse_mem (parse_ok h).2) s (List.mem_of_getElem? h2)).1, ?_, ?_⟩
    · unfold longAt
      rw [h1, Int.toNat_natCast, h2]
    · refine ixOf_some h2 (by simp [h3'.1]) (fun y hy => ?_)
      have hr := spots_rise h
      rw [List.mem_take_iff_getElem] at hy
      obtain ⟨j, hj, rfl⟩ := hy
      obtain ⟨hi, rfl⟩ := List.getElem?_eq_some_iff.1 h2
      have := List.pairwise_iff_getElem.1 hr j i (by omega) hi (by omega)
      simp only [beq_eq_false_iff_ne]
      omega
theorem kept_of {a keep pinned : List Int} (h : longsE a keep pinned = 0) : Kept a.length keep (longsV a keep pinned) ∧ (a.length : Int) ≤ 256 := by
  obtain ⟨h1, h2, h3, h4, h5⟩ := longsE_ok.1 h
  have hE := (checkE_ok.1 h1).1
  have hlen := (parse_ok hE).1
  have hV : longsV a keep pinned = keep.map (longAt (spotsL a)) := by unfold longsV; rw [if_pos h]
  have hat : ∀ (j : Nat) (x n : Int), keep[j]? = some x → (longsV a keep pinned)[j]? = some n → ∃ s ∈ spotsL a, s.loc = x ∧ s.long = n ∧ SpotOk a s := by
    intro j x n hx hn
    rw [hV, List.getElem?_map, hx] at hn
    obtain ⟨i, s, -, hs, hl, -, hok, hlg, -⟩ := spots_of_ix hE (h4 x (List.mem_of_getElem? hx))
    refine ⟨s, List.mem_of_getElem? hs, hl, ?_, hok⟩
    rw [← hlg]
    exact Option.some.inj hn
  refine ⟨⟨by rw [hV, List.length_map], fun j x n hx hn => ?_, fun j x n y hx hn hy => ?_⟩, by omega⟩
  · obtain ⟨s, hs, rfl, rfl, hok⟩ := hat j x n hx hn
    have := hok.loc0
    have := hok.r0
    have := hok.b0
    have := hok.fits
    have := hok.fit256
    unfold Spot.long at *
    omega
  · obtain ⟨s, hs, rfl, rfl, hok⟩ := hat j x n hx hn
    obtain ⟨i2, t, -, ht, hl2, -, hok2, -, -⟩ := spots_of_ix hE (h4 y (List.mem_of_getElem? hy))
    have hlt : s.loc < y := by
      obtain ⟨ha, rfl⟩ := List.getElem?_eq_some_iff.1 hy
      obtain ⟨hb, hb2⟩ := List.getElem?_eq_some_iff.1 hx
      have := List.pairwise_iff_getElem.1 (risesP_pairwise h2) j (j + 1) hb ha (by omega)
      rw [hb2] at this
      exact this
    have ho := parse_order (parse_ok hE).2
    have hr := spots_rise hE
    obtain ⟨i1, hi1, e1⟩ := List.mem_iff_getElem.1 hs
    obtain ⟨hi2, e2⟩ := List.getElem?_eq_some_iff.1 ht
    rcases Nat.lt_trichotomy i1 i2 with h | h | h
    · have := List.pairwise_iff_getElem.1 ho i1 i2 hi1 hi2 h
      rw [e1, e2] at this
      omega
    · subst h
      rw [e1] at e2
      subst e2
      omega
    · have := List.pairwise_iff_getElem.1 hr i2 i1 hi2 hi1 h
      rw [e1, e2] at this
      omega
end Go.Proofs.YtbmkbnalembbjaaGreatDoor

namespace Go.Proofs.YtbmkbnalembbjaaGreatDoor
open Go.RowKit
theorem Kept.tail {N x n : Int} {ks ls : List Int} (h : Kept N (x :: ks) (n :: ls)) : Kept N ks ls :=
  ⟨by have := h.same; simpa using this, fun j x n h1 h2 => h.at_ (j + 1) x n (by simpa using h1) (by simpa using h2), fun j x n y h1 h2 h3 => h.next (j + 1) x n y (by simpa using h1) (by simpa using h2) (by simpa using h3)⟩
structure Slid (N e : Int) (pinned keep L Y : List Int) : Prop where
  len : Y.length = keep.length
  low : ∀ (j : Nat) (y : Int), Y[j]? = some y → e ≤ y
  at_ : ∀ (j : Nat) (x y k : Int), keep[j]? = some x → L[j]? = some k → Y[j]? = some y → y ≤ x ∧ (x ∈ pinned → y = x) ∧ y + k ≤ N ∧ ∀ y', Y[j + 1]? = some y' → y + k ≤ y'
theorem slid_of (N : Int) (pinned : List Int) : ∀ (keep L : List Int) (e : Int), Kept N keep L → (∀ x, keep[0]? = some x → e ≤ x) → Slid N e pinned keep L (slidGo pinned e keep L) := by
  intro keep
  induction keep with
  | nil => intro L e _ _; exact ⟨by simp [slidGo], fun j y h => by simp [slidGo] at h, fun j x y k h => by simp at h⟩
  | cons x ks ih =>
    intro L e hK he
    cases L with
    | nil => have := hK.same; simp at this
    | cons n ls =>
      obtain ⟨x0, n1, n2, hxn⟩ := hK.at_ 0 x n rfl rfl
      have hex := he x rfl
      obtain ⟨z, hz⟩ : ∃ z, z = (if x ∈ pinned then x else e) := ⟨_, rfl⟩
      have hz1 : e ≤ z ∧ z ≤ x := by rw [hz]; split <;> omega
      have hz2 : x ∈ pinned → z = x := fun h => by rw [hz, if_pos h]
      have ih' := ih ls (z + n) hK.tail (fun y hy => by have := hK.next 0 x n y rfl rfl (by simpa using hy); omega)
      have hY : slidGo pinned e (x :: ks) (n :: ls) = z :: slidGo pinned (z + n) ks ls := by simp only [slidGo]; rw [← hz]
      rw [hY]
      refine ⟨by simp [ih'.len], fun j y h => ?_, fun j x' y k h1 h2 h3 => ?_⟩
      · cases j with
        | zero => obtain rfl : z = y := by simpa using h
                  exact hz1.1
        | succ j => have := ih'.low j y (by simpa using h); omega
      · cases j with
        | zero =>
          obtain rfl : x = x' := by simpa using h1
          obtain rfl : n = k := by simpa using h2
          obtain rfl : z = y := by simpa using h3
          exact ⟨hz1.2, hz2, by omega, fun y' h => ih'.low 0 y' (by simpa using h)⟩
        | succ j =>
          obtain ⟨a1, a2, a3, a4⟩ := ih'.at_ j x' y k (by simpa using h1) (by simpa using h2) (by simpa using h3)
          exact ⟨a1, a2, a3, fun y' h => a4 y' (by simpa using h)⟩
theorem kept_len {N : Int} {keep L : List Int} (h : Kept N keep L) : ∀ (j : Nat) (x : Int), keep[j]? = some x → (j : Int) ≤ x ∧ (j : Int) + 1 ≤ N := by
  intro j
  have hL : ∀ (j : Nat) (x : Int), keep[j]? = some x → ∃ n, L[j]? = some n := fun j x hx => ⟨_, List.getElem?_eq_getElem (by rw [h.same]; exact (List.getElem?_eq_some_iff.1 hx).1)⟩
  induction j with
  | zero =>
    intro x hx
    obtain ⟨n, hn⟩ := hL 0 x hx
    obtain ⟨a, b, c, d⟩ := h.at_ 0 x n hx hn
    exact ⟨by omega, by omega⟩
  | succ j ih =>
    intro x hx
    have hlt := (List.getElem?_eq_some_iff.1 hx).1
    obtain ⟨x0, hx0⟩ : ∃ x0, keep[j]? = some x0 := ⟨_, List.getElem?_eq_getElem (by omega)⟩
    obtain ⟨n0, hn0⟩ := hL j x0 hx0
    obtain ⟨n, hn⟩ := hL (j + 1) x hx
    obtain ⟨a, b, c, d⟩ := h.at_ (j + 1) x n hx hn
    obtain ⟨a0, b0, c0, d0⟩ := h.at_ j x0 n0 hx0 hn0
    have := h.next j x0 n0 x hx0 hn0 hx
    have := (ih x0 hx0).1
    exact ⟨by omega, by omega⟩
theorem kept_len2 {N : Int} {keep L : List Int} (h : Kept N keep L) (hN : 0 ≤ N) : (keep.length : Int) ≤ N := by
  rcases Nat.eq_zero_or_pos keep.length with h0 | h0
  · omega
  · have := kept_len h (keep.length - 1) keep[keep.length - 1] (List.getElem?_eq_getElem (by omega))
    omega
def rsum : List Rn → Int
  | [] => 0
  | r :: l => r.len + rsum l
def isum : List Int → Int
  | [] => 0
  | x :: l => x + isum l
theorem rsum_append (a b : List Rn) : rsum (a ++ b) = rsum a + rsum b := by
  induction a with
  | nil => simp [rsum]
  | cons x a ih => simp only [List.cons_append, rsum, ih]; omega
theorem pgaps_sum (N : Int) (pinned : List Int) : ∀ (keep L : List Int) (e : Int), Kept N keep L → (∀ x, keep[0]? = some x → e ≤ x) → e ≤ N → rsum (pgaps N e (slidGo pinned e keep L) L) + isum L = N - e ∧
    ∀ r ∈ pgaps N e (slidGo pinned e keep L) L, 0 ≤ r.len ∧ r.len ≤ N - e := by
  intro keep
  induction keep with
  | nil =>
    intro L e hK _ heN
    cases L with
    | cons n ls => have := hK.same; simp at this
    | nil =>
      simp only [slidGo, pgaps]
      by_cases h : e < N
      · rw [if_pos h]
        refine ⟨by simp [rsum, isum], fun r hr => ?_⟩
        obtain rfl := List.mem_singleton.1 hr
        dsimp only
        omega
      · rw [if_neg h]
        refine ⟨by simp only [rsum, isum]; omega, fun r hr => by cases hr⟩
  | cons x ks ih =>
    intro L e hK he heN
    cases L with
    | nil => have := hK.same; simp at this
    | cons n ls =>
      obtain ⟨x0, n1, n2, hxn⟩ := hK.at_ 0 x n rfl rfl
      have hex := he x rfl
      obtain ⟨z, hz⟩ : ∃ z, z = (if x ∈ pinned then x else e) := ⟨_, rfl⟩
      have hz1 : e ≤ z ∧ z ≤ x := by rw [hz]; split <;> omega
      obtain ⟨i1, i2⟩ := ih ls (z + n) hK.tail (fun y hy => by have := hK.next 0 x n y rfl rfl (by simpa using hy); omega) (by omega)
      have hY : slidGo pinned e (x :: ks) (n :: ls) = z :: slidGo pinned (z + n) ks ls := by simp only [slidGo]; rw [← hz]
      rw [hY]
      simp only [pgaps, isum]
      rw [rsum_append]
      refine ⟨?_, fun r hr => ?_⟩
      · by_cases h : e < z
        · rw [if_pos h]; simp only [rsum]; omega
        · rw [if_neg h]; simp only [rsum]; omega
      · rcases List.mem_append.1 hr with hr | hr
        · by_cases h : e < z
          · rw [if_pos h] at hr
            obtain rfl := List.mem_singleton.1 hr
            dsimp only
            omega
          · rw [if_neg h] at hr; cases hr
        · have := i2 r hr
          omega
theorem pgaps_count (N : Int) (pinned : List Int) : ∀ (keep L : List Int) (e : Int), (pgaps N e (slidGo pinned e keep L) L).length ≤ (keep.filter (fun x => decide (x ∈ pinned))).length + 1 := by
  intro keep
  induction keep with
  | nil =>
    intro L e
    simp only [slidGo, pgaps]
    split <;> simp
  | cons x ks ih =>
    intro L e
    cases L with
    | nil => simp only [slidGo, pgaps]; split <;> simp
    | cons n ls =>
      simp only [slidGo, pgaps, List.length_append]
      by_cases h : x ∈ pinned
      · rw [if_pos h, List.filter_cons_of_pos (by simpa using h)]
        have := ih ls (x + n)
        have h2 : (if e < x then [(⟨e, x - e⟩ : Rn)] else []).length ≤ 1 := by split <;> simp
        simp only [List.length_cons]
        omega
      · rw [if_neg h, List.filter_cons_of_neg (by simpa using h), if_neg (show ¬ e < e by omega)]
        have := ih ls (e + n)
        simp only [List.length_nil]
        omega
theorem nodup_sub : ∀ (l p : List Int), l.Pairwise (· < ·) → (∀ x ∈ l, x ∈ p) → l.length ≤ p.length := by
  intro l
  induction l with
  | nil => intro p _ _; simp
  | cons x l ih =>
    intro p hl hp
    obtain ⟨h1, h2⟩ := List.pairwise_cons.1 hl
    have hx := hp x List.mem_cons_self
    have := ih (p.erase x) h2 (fun y hy => (List.mem_erase_of_ne (by have := h1 y hy; omega)).2 (hp y (List.mem_cons_of_mem _ hy)))
    rw [List.length_erase_of_mem hx] at this
    have : 0 < p.length := List.length_pos_of_mem hx
    simp only [List.length_cons]
    omega
theorem pgaps_few {N : Int} {pinned keep L : List Int} (hr : risesP keep = true) : (pgaps N 0 (slidGo pinned 0 keep L) L).length ≤ pinned.length + 1 := by
  have h1 := pgaps_count N pinned keep L 0
  have h2 := nodup_sub (keep.filter (fun x => decide (x ∈ pinned))) pinned ((risesP_pairwise hr).filter _) (fun x hx => by
    have := (List.mem_filter.1 hx).2
    simpa using this)
  omega
end Go.Proofs.YtbmkbnalembbjaaGreatDoor

namespace Go.Proofs.YtbmkbnalembbjaaGreatDoor
open Go.RowKit
def linksP (rs : List Int) : List Int := (rs.filter fun v => v != 0).map fun v => v - 1
theorem linksP_zero {rs : List Int} {j : Nat} (h : rs[j]? = some 0) : linksP (rs.take (j + 1)) = linksP (rs.take j) := by
  obtain ⟨h1, h2⟩ := List.getElem?_eq_some_iff.1 h
  unfold linksP
  rw [List.take_succ_eq_append_getElem h1, List.filter_append, List.map_append, h2]
  simp
theorem linksP_succ {rs : List Int} {j : Nat} {v : Int} (h : rs[j]? = some v) (h0 : v ≠ 0) : linksP (rs.take (j + 1)) = linksP (rs.take j) ++ [v - 1] := by
  obtain ⟨h1, h2⟩ := List.getElem?_eq_some_iff.1 h
  unfold linksP
  rw [List.take_succ_eq_append_getElem h1, List.filter_append, List.map_append, h2]
  simp [h0]
theorem field_head (r b t : Int) (f : Bool) (w : World) : (Instr.field 50 (.agg #[.int .i64 r, .int .i64 b, .int .i64 t, .bool f]) 0).run Tryz.prog w = .ok (.int .i64 r) w := by kernel_rfl
set_option maxRecDepth 100000 in
set_option maxHeartbeats 2000000 in
theorem each_any (F : Nat) (cap1 cap2 : Value) (gh b B : Nat) (A Ao : Option Addr) (n c k co : Nat) (a : List Int) (S : List Spot) (s : Spot) (w : World) (hBh : Blk w gh 228 #[.slice A n c, .map (some b), .slice Ao k co]) (hM : MapIs w Tryz.prog 3 .i64 b 300 (headF S))
    (hs : spotAt S s.loc = some s) (hok : SpotOk a s) (hr : Reads w B 1 A n (a.map (.int .u64))) (hnc : n ≤ c) (hn : n ≤ 256) (hP : Plain Tryz.prog F) (hlk : ∀ v ∈ refsOf a s, v = 0 ∨ 1 ≤ v ∧ v ≤ 256)
    (Inv : List Int → World → Prop) (hI : Inv [] w) (hID : ∀ l w q, Inv l w → Inv l (w.drewN q)) (hIR : ∀ l w', Inv l w' → Reads w' B 1 A n (a.map (.int .u64)))
    (HC : ∀ (l : List Int) (y : Int) (w' : World), Inv l w' → y ∈ linksL a s → Calls Tryz.prog F #[.int .i64 y, cap1, cap2] w' fun e w'' => e = .returned (.tuple #[]) ∧ Inv (l ++ [y]) w'') :
    Calls Tryz.prog 132 #[.pointer (some ⟨gh, 0, none⟩), .int .i64 s.loc, .func (.func F) #[] #[cap1, cap2]] w fun e w' => e = .returned (.tuple #[]) ∧ Inv (linksL a s) w' := by
  have hal : a.length = n := by have := hr.1; simpa using this
  have l0 := hok.loc0
  have r0 := hok.r0
  have b0 := hok.b0
  have ft := hok.fits
  have hrl := refsOf_length hok
  have e1 : headF S s.loc = some (headC s) := by unfold headF; rw [hs]; rfl
  have HLOOK := fun q => (hM.drewN q).look (k := 3) (t := 226) Tryz.underlying3 Tryz.underlying226 (zero_head _) (x := s.loc) (by unfold Spot.long at ft; simp [Lit.wf, IntKind.min, IntKind.max, IntKind.signed, IntKind.bits]; omega)
  rw [e1] at HLOOK
  have hL : linksL a s = linksP (refsOf a s) := rfl
  rw [hL]
  rw [hL] at HC
  have hR : (refsOf a s) = (a.drop (s.loc.toNat + 1)).take s.r.toNat := rfl
  have HRS := Lib.hid hR
  clear hR hL hM e1 hs hok
  generalize refsOf a s = rs at *
  obtain ⟨loc, r, bb, t, fr⟩ := s
  simp only [Spot.long] at ft l0 r0 b0 ⊢
  obtain ⟨i, rfl⟩ := Int.eq_ofNat_of_zero_le l0
  obtain ⟨m, rfl⟩ := Int.eq_ofNat_of_zero_le r0
  simp only [Int.toNat_natCast] at hrl HRS
  rw [hal] at ft
  obtain ⟨p1, hp1⟩ : ∃ p1, p1 = i + 1 := ⟨_, rfl⟩
  obtain ⟨p2, hp2⟩ : ∃ p2, p2 = p1 + m := ⟨_, rfl⟩
  have w1 : IntKind.i64.wrap ((i : Int) + 1) = p1 := by rw [IntWalk.i64_in _ (by omega)]; omega
  have w2 : IntKind.i64.wrap ((p1 : Int) + m) = p2 := by rw [IntWalk.i64_in _ (by omega)]; omega
  have hlook2 : ∀ q, (Instr.lookup 226 (.map (some b)) (.int .i64 i) false).run Tryz.prog (w.drewN q) = .ok (.agg #[.int .i64 m, .int .i64 bb, .int .i64 t, .bool fr]) (w.drewN q) := fun q => HLOOK q
  have hfield := fun w => field_head m bb t fr w
  have hpos : 0 < n := by omega
  obtain ⟨ad, rfl, had, -⟩ := hr.2 hpos
  have k0 := hBh.cell 0
  have k1 := hBh.cell 1
  simp only [List.getElem?_toArray, List.getElem?_cons_zero, List.getElem?_cons_succ] at k0 k1
  have q1 : p1 ≤ p2 := by omega
  have q2 : p2 ≤ n := by omega
  have q3 : p2 ≤ c := by omega
  have q4 : p1 ≤ c := by omega
  have q5 : p2 - p1 = m := by omega
  have HC := Lib.hid HC
  have HIR := Lib.hid hIR
  have HID := Lib.hid hID
  have HLK := Lib.hid hlk
  have HRL := Lib.hid hrl
  have hcf := fun (x : Value) (w : World) => hP #[x, cap1, cap2] w
  have HP1 := Lib.hid hp1
  have HAL := Lib.hid hal
  clear HLOOK hrl hlk hIR hID hp1 hp2 hP hal hBh
  by_cases hci : c = p1
  · have hci2 : (c == p1) = true := by simpa using hci
    have hm0 : m = 0 := by omega
    have hrs : rs = [] := List.eq_nil_of_length_eq_zero (by rw [HRL.out]; exact hm0)
    subst hrs
    have g0 : decide (0 < m) = false := decide_eq_false (by omega)
    have HI0 := Lib.hid hI
    clear hI hcf hm0
    go_enter Tryz.func132, Tryz.ntmps132
    go_wp2
    go_quiet (fail)
    go_wp2
    go_loopw [26] (fun i wr => i = .int .i64 0 ∧ wr = w.drewN nq) (fun _ _ => 0)
    case atStart => exact ⟨by first | rfl | simp, rfl⟩
    case round =>
      obtain ⟨rfl, rfl⟩ := hrel
      go_wp2
      go_end0
      exact ⟨rfl, HID.out _ _ _ HI0.out⟩
  · have HI0 := Lib.hid hI
    have HG : Hid (∀ (wr : World) (j : Nat), j < m → Reads wr B 1 (some ad) n (a.map (.int .u64)) → ∃ v, rs[j]? = some v ∧ 0 ≤ v ∧ wr.cell? ((ad.add p1).add j) = some (.int .u64 v)) := by
      intro wr j hj hrr
      have h1 := hrr.sub (lo := p1) (hi := p2) q1 q2 hnc
      rw [if_neg hci, q5] at h1
      have h2 : ((a.map (Value.int .u64)).drop p1).take m = rs.map (Value.int .u64) := by rw [HRS.out, List.map_take, List.map_drop, HP1.out]
      rw [h2] at h1
      obtain ⟨ad2, v, e2, -, hv, hc⟩ := h1.num hj
      simp only [Option.map_some, Option.some.injEq] at e2
      subst e2
      refine ⟨v, hv, ?_, hc⟩
      rcases HLK.out v (List.mem_of_getElem? hv) with h | h <;> omega
    clear hI
    go_enter Tryz.func132, Tryz.ntmps132
    go_wp2
    go_quiet (fail)
    go_wp2
    go_loopw [7, 26] (fun _ i wr => ∃ j : Nat, j ≤ m ∧ i = .int .i64 j ∧ Hid (Inv (linksP (rs.take j)) wr)) (fun _ i _ => m - (intOf i).toNat)
    case atStart => exact ⟨0, Nat.zero_le _, rfl, HID.out _ _ _ HI0.out⟩
    case round =>
      obtain ⟨j, hj, rfl, HI⟩ := hrel
      by_cases hlt : j < m
      · obtain ⟨v, hv, hv0, hc⟩ := HG.out wr j hlt (HIR.out _ _ HI.out)
        have hlk := HLK.out v (List.mem_of_getElem? hv)
        have hj1 : j + 1 ≤ m := hlt
        by_cases h0 : v = 0
        · subst h0
          have HI2 : Hid (Inv (linksP (rs.take (j + 1))) wr) := by
            show Inv _ _
            rw [linksP_zero hv]
            exact HI.out
          clear hv HI
          go_wp2
          go_roundw
          case rel => exact ⟨j + 1, hj1, by go_num, HI2⟩
          case measure => simp [intOf]; omega
        · obtain ⟨y, hy⟩ : ∃ y : Nat, v = ((y + 1 : Nat) : Int) := ⟨(v - 1).toNat, by omega⟩
          have hyl : ((y : Nat) : Int) ∈ linksP rs := List.mem_map.2 ⟨v, List.mem_filter.2 ⟨List.mem_of_getElem? hv, by simpa using h0⟩, by omega⟩
          have HQ := HC.out (linksP (rs.take j)) y wr HI.out hyl
          have hst := linksP_succ hv h0
          rw [show v - 1 = ((y : Nat) : Int) by omega] at hst
          rw [← hst] at HQ
          have HQ := Lib.hid HQ
          obtain ⟨V, hV⟩ : ∃ V : Nat, V = y + 1 := ⟨_, rfl⟩
          rw [← hV] at hy
          subst hy
          have z1 : ((V : Int) != 0) = true := by simp; omega
          have z2 : (V != 0) = true := by simp; omega
          have z3 : ¬ V = 0 := by omega
          have w3 : IntKind.i64.wrap (V : Int) = V := IntWalk.i64_in _ (by omega)
          have w4 : IntKind.i64.wrap ((V : Int) - 1) = y := by rw [IntWalk.i64_in _ (by omega)]; omega
          have w5 : (V : Int) - 1 = y := by omega
          have w6 : IntKind.i64.wrap (y : Int) = y := IntWalk.i64_in _ (by omega)
          clear hv HI hyl hst hV hlk
          go_wp2_with fail
          refine HQ.out.mono ?_
          rintro e w9 ⟨rfl, hI9⟩
          have HI9 := Lib.hid hI9
          go_wp2
          go_roundw
          case rel => exact ⟨j + 1, hj1, by go_num, HI9⟩
          case measure => simp [intOf]; omega
      · have hjm : j = m := by omega
        have HI2 : Hid (Inv (linksP rs) wr) := by
          have := HI.out
          rw [hjm, List.take_of_length_le (by rw [HRL.out]; exact Nat.le_refl _)] at this
          exact this
        have g0 : decide (j < m) = false := decide_eq_false hlt
        clear hjm HI
        go_wp2
        go_end0
        exact ⟨rfl, HI2.out⟩
end Go.Proofs.YtbmkbnalembbjaaGreatDoor

namespace Go.Proofs.YtbmkbnalembbjaaGreatDoor
open Go.RowKit
def seenF (out : List Int) : Int → Option Value := fun x => if x ∈ out then some (.bool true) else none
theorem seenF_snoc (out : List Int) (x : Int) : seenF (out ++ [x]) = upd (seenF out) x (.bool true) := by
  funext y
  unfold seenF upd
  by_cases h : y = x
  · subst h; simp
  · simp [h]
def AddSt (w0 : World) (out : List Int) (w : World) : Prop :=
  ∃ Ao co, Blk w (w0.heap.size + 1) 204 #[.map (some w0.heap.size)] ∧ Blk w (w0.heap.size + 1 + 1) 23 #[.slice Ao out.length co] ∧ MapIs w Tryz.prog 3 .i64 w0.heap.size out.length (seenF out) ∧
    w.ownsRow (w0.heap.size + 1 + 1 + 1) 3 1 (.slice Ao out.length co) out.length (out.map (.int .i64)) ∧ Below w0.heap.size w0 w
theorem AddSt.drewN {w0 w : World} {out : List Int} (h : AddSt w0 out w) (q : Nat) : AddSt w0 out (w.drewN q) := by
  obtain ⟨Ao, co, h1, h2, h3, h4, h5⟩ := h
  exact ⟨Ao, co, h1.drewN q, h2.drewN q, h3.drewN q, own_below h4 (below_drewN (Below.refl _ _) q), below_drewN h5 q⟩
theorem zero_bool (w : World) : (zeroValue 4).run Tryz.prog w = .ok (.bool false) w := by kernel_rfl
set_option maxRecDepth 100000 in
set_option maxHeartbeats 1000000 in
theorem add_any (w0 : World) (out : List Int) (x : Int) (w : World) (h : AddSt w0 out w) (hx : (Lit.int .i64 x).wf = true) (hl : out.length ≤ 100000) :
    Calls Tryz.prog 131 #[.int .i64 x, .pointer (some ⟨w0.heap.size + 1, 0, none⟩), .pointer (some ⟨w0.heap.size + 1 + 1, 0, none⟩)] w fun e w' => e = .returned (.tuple #[]) ∧ AddSt w0 (addL out x) w' := by
  obtain ⟨Ao, co, h1, h2, h3, h4, h5⟩ := h
  have hlook := h3.look (k := 3) (t := 204) Tryz.underlying3 Tryz.underlying204 (zero_bool _) hx
  have k0 := h1.cell 0
  simp only [List.getElem?_toArray, List.getElem?_cons_zero] at k0
  by_cases hm : x ∈ out
  · have e1 : seenF out x = some (.bool true) := by unfold seenF; rw [if_pos hm]
    have e2 : addL out x = out := by unfold addL; rw [if_pos hm]
    rw [e1] at hlook
    rw [e2]
    have hlook2 : (Instr.lookup 204 (.map (some w0.heap.size)) (.int .i64 x) false).run Tryz.prog w = .ok (.bool true) w := hlook
    have HS : Hid (AddSt w0 out w) := ⟨Ao, co, h1, h2, h3, h4, h5⟩
    clear hlook e1 e2 hm h1 h2 h3 h4 h5
    go_enter Tryz.func131, Tryz.ntmps131
    go_wp2
    go_end0
    exact ⟨rfl, HS.out⟩
  · have e1 : seenF out x = none := by unfold seenF; rw [if_neg hm]
    have e2 : addL out x = out ++ [x] := by unfold addL; rw [if_neg hm]
    rw [e1] at hlook
    rw [e2]
    have hlook2 : (Instr.lookup 204 (.map (some w0.heap.size)) (.int .i64 x) false).run Tryz.prog w = .ok (.bool false) w := hlook
    obtain ⟨w1, hupd, hM1, hg1⟩ := h3.store (k := 3) (t := 204) Tryz.underlying3 Tryz.underlying204 (by unfold maxLen; omega) (x := x) hx (.bool true)
    rw [← seenF_snoc] at hM1
    have hwl := h2.lt
    have hB1 := h1.grown hg1 (fun h => by injection h with h; omega)
    have hD1 := h2.grown hg1 (fun h => by injection h with h; omega)
    have hO1 := own_grown h4 hg1 (fun g hg h => by injection h with h; have := (h4.lt g hg).1; omega)
    have hb1 := h5.grown hg1 h5.size (fun g hg => by injection hg with hg; omega)
    have hw1 : w0.heap.size + 1 + 1 < w1.heap.size := hD1.lt
    have hB2 := hB1.alloc (.cells #[.int .i64 x] 3)
    have hD2 := hD1.alloc (.cells #[.int .i64 x] 3)
    have hM2 := hM1.alloc (.cells #[.int .i64 x] 3)
    have hO2 := hO1.alloc (.cells #[.int .i64 x] 3)
    have hb2 := hb1.alloc hb1.size (.cells #[.int .i64 x] 3)
    have d0 := hD1.cell 0
    have q0 := hB1.cell 0
    simp only [List.getElem?_toArray, List.getElem?_cons_zero] at d0 q0
    obtain ⟨i0, hi, hz0, hz1, hz2⟩ := info_parts info_int
    obtain ⟨k, hk⟩ : ∃ k, k = out.length := ⟨_, rfl⟩
    rw [← hk] at hO2 hD2 hM2 d0 hl
    have HK := Lib.hid hk
    have HM2 := Lib.hid hM2
    have HB2 := Lib.hid hB2
    have HD2 := Lib.hid hD2
    clear hlook e1 e2 hm h1 h2 h3 h4 h5 hM1 hB1 hD1 hO1 hb1 hB2 hD2 hM2 hg1 hk hwl
    go_enter Tryz.func131, Tryz.ntmps131
    go_wp2_with (at_builtin; refine wpList_append_any _ rfl (.tmp 10) (.tmp 12) 23 rfl (w0.heap.size + 1 + 1 + 1) 3 i0 (.int .i64 0) 1 8 Tryz.underlying23 hi hz0 hz1 hz2 rfl (by decide) (.slice Ao k co) k _ rfl hO2 (w1.heap.size + 1) (some ⟨w1.heap.size, 0, none⟩) 1 1 [.int .i64 x] rfl (reads_new w1 [.int .i64 x] 3 1 1 rfl) (by simp [Value.oneCell']) (by unfold maxLen; omega) (by omega) (by simp; omega) ?_; rintro v' w3 hown3 hgr - -; obtain ⟨A5, c5, rfl⟩ := own_slice hown3; have hD3 := HD2.out.grown hgr (fun h => own_off hO2 (by omega) h.symm); have p0 := hD3.cell 0; have pf := hD3.frozen 0; simp only [List.getElem?_toArray, List.getElem?_cons_zero] at p0)
    go_end0
    have hB3 := HB2.out.grown hgr (fun h => own_off hO2 (by omega) h.symm)
    have hM3 := HM2.out.kept hgr (fun h => own_off hO2 (by omega) h.symm)
    have hb3 := hb2.grown hgr hb2.size (fun g hg => by have := (hO2.lt g hg).1; omega)
    have hD4 : Blk (w3.setCell ⟨w0.heap.size + 1 + 1, 0, none⟩ (.slice A5 (k + 1) c5)) (w0.heap.size + 1 + 1) 23 #[.slice A5 (k + 1) c5] := by simpa using hD3.set_ 0 (.slice A5 (k + 1) c5)
    refine ⟨rfl, A5, c5, hB3.far (by dsimp only; omega) _, ?_, ?_, ?_, hb3.setCell (p := ⟨w0.heap.size + 1 + 1, 0, none⟩) (by dsimp only; omega) _⟩
    · rw [List.length_append, List.length_singleton, ← HK.out]
      exact hD4
    · rw [List.length_append, List.length_singleton, ← HK.out]
      exact hM3.setCell (by dsimp only; omega) _
    · rw [List.length_append, List.length_singleton, ← HK.out, List.map_append]
      exact own_apart hown3 (own_off hown3 (by dsimp only; omega)) _
end Go.Proofs.YtbmkbnalembbjaaGreatDoor

namespace Go.Proofs.YtbmkbnalembbjaaGreatDoor
open Go.RowKit
set_option maxHeartbeats 400000 in
theorem reach_bad (A : Option Addr) (n c : Nat) (a : List Int) (A2 : Option Addr) (n2 c2 : Nat) (w : World) (hr : Reads w w.heap.size 1 A n (a.map (.int .u64))) (hnc : n ≤ c) (ha : ∀ x ∈ a, (Lit.int .u64 x).wf = true) (hE : checkE a ≠ 0) :
    Calls Tryz.prog 105 #[.slice A n c, .slice A2 n2 c2] w fun e w' => e = .returned (.tuple #[.slice none 0 0, .int .i64 (checkE a)]) ∧ Below w.heap.size w w' := by
  have H := Lib.hid (fun w hr => heap_bad A n c a A2 n2 c2 w hr hnc ha hE)
  have hE1 : (checkE a != 0) = true := by simpa using hE
  generalize checkE a = E at *
  clear hE
  go_enter Tryz.func105, Tryz.ntmps105
  go_wp2_with fail
  refine (H.out _ hr).mono ?_
  rintro e w1 ⟨rfl, hb1⟩
  go_wp2
  go_ret2
  exact ⟨rfl, hb1⟩
theorem Search.adds {a : List Int} {S : List Spot} {f out : List Int} {i : Nat} {x : Int} (h : Search a S f out i) (hi : i ≤ out.length) (hx : out[i]? = some x) (hb : ∀ y ∈ linksAt a S x, y ∈ begsL S) :
    ∀ l : List Int, (∀ y ∈ l, y ∈ linksAt a S x) → Search a S f (l.foldl addL out) i ∧ out.length ≤ (l.foldl addL out).length ∧ (∀ y ∈ out, y ∈ l.foldl addL out) ∧ (∀ y ∈ l, y ∈ l.foldl addL out) ∧ (l.foldl addL out)[i]? = some x := by
  intro l
  induction l generalizing out with
  | nil => intro _; exact ⟨h, Nat.le_refl _, fun y hy => hy, by simp, hx⟩
  | cons y l ih =>
    intro hl
    have hy := hl y List.mem_cons_self
    have h1 : Search a S f (addL out y) i := h.add hi (hb y hy) (fun X hX hc => hc x (h.least X hX hc x (List.mem_of_getElem? hx)) y hy)
    have hle := addL_len out y
    have hx1 : (addL out y)[i]? = some x := by
      have hil := (List.getElem?_eq_some_iff.1 hx).1
      unfold addL
      split
      · exact hx
      · rw [List.getElem?_append_left hil]; exact hx
    obtain ⟨q1, q2, q3, q4, q5⟩ := ih h1 (by omega) hx1 (fun z hz => hl z (List.mem_cons_of_mem _ hz))
    have hs := addL_sub out y
    refine ⟨q1, by simp only [List.foldl_cons]; omega, fun z hz => q3 z (hs.1 z hz), fun z hz => ?_, q5⟩
    rcases List.mem_cons.1 hz with rfl | hz
    · exact q3 z hs.2
    · exact q4 z hz
theorem Search.next {a : List Int} {S : List Spot} {f out : List Int} {i : Nat} {x : Int} (h : Search a S f out i) (hx : out[i]? = some x) (hc : ∀ y ∈ linksAt a S x, y ∈ out) : Search a S f out (i + 1) :=
  ⟨h.begs, h.once, h.least, fun k z hk hz y hy => by
    by_cases hki : k = i
    · subst hki
      obtain rfl := Option.some.inj (hx.symm.trans hz)
      exact hc y hy
    · exact h.seen k z (by omega) hz y hy⟩
theorem Search.done {a : List Int} {S : List Spot} {f out : List Int} (h : Search a S f out out.length) (hf : ∀ x ∈ f, x ∈ out) : Reached a S f (sortL out) :=
  ⟨fun x hx => h.begs x (sortL_mem.1 hx), fun x hx => sortL_mem.2 (hf x hx), fun x hx y hy => sortL_mem.2 (by
      obtain ⟨k, hk⟩ := List.mem_iff_getElem?.1 (sortL_mem.1 hx)
      exact h.seen k x (List.getElem?_eq_some_iff.1 hk).1 hk y hy), fun X hX hc x hx => h.least X hX hc x (sortL_mem.1 hx), sortL_sorted _, (sortL_perm out).nodup_iff.2 h.once⟩
set_option maxRecDepth 100000 in
set_option maxHeartbeats 2000000 in
theorem reach_ok (A : Option Addr) (n c : Nat) (a : List Int) (A2 : Option Addr) (n2 c2 : Nat) (f : List Int) (w : World) (hr : Reads w w.heap.size 1 A n (a.map (.int .u64))) (hnc : n ≤ c) (ha : ∀ x ∈ a, (Lit.int .u64 x).wf = true)
    (hr2 : Reads w w.heap.size 1 A2 n2 (f.map (.int .i64))) (hn2 : n2 ≤ 1000000000000000000) (hx2 : ∀ x ∈ f, (Lit.int .i64 x).wf = true) (hE : checkE a = 0) :
    Calls Tryz.prog 105 #[.slice A n c, .slice A2 n2 c2] w fun e w' => Below w.heap.size w w' ∧
      ((∃ L A' c', Reached a (spotsL a) f L ∧ e = .returned (.tuple #[.slice A' L.length c', .int .i64 0]) ∧ w'.ownsRow w.heap.size 3 1 (.slice A' L.length c') L.length (L.map (.int .i64))) ∨
       ((∃ x ∈ f, x ∉ begsL (spotsL a)) ∧ e = .returned (.tuple #[.slice none 0 0, .int .i64 5]))) := by
  have hal : a.length = n := by have := hr.1; simpa using this
  have hfl : f.length = n2 := by have := hr2.1; simpa using this
  have h0 := (checkE_ok.1 hE).1
  have hn : n ≤ 256 := by have := (parse_ok h0).1; omega
  have H := Lib.hid (fun w hr hr2 => heap_ok A n c a A2 n2 c2 f w hr hnc ha hr2 hn2 hx2 hE)
  have hlb := fun x => linksAt_begs hE x
  have hmem := (parse_mem (parse_ok h0).2)
  have hbb := begsL_bounds h0
  have HSl : Hid (∀ out i, Search a (spotsL a) f out i → out.length ≤ 256) := fun out i h => h.len h0
  have HLk := Lib.hid (fun (s : Spot) (hs : s ∈ spotsL a) => links_begs hE hs)
  generalize spotsL a = S at *
  have HLB := Lib.hid hlb
  have HMEM := Lib.hid hmem
  have HBB := Lib.hid hbb
  have HFL := Lib.hid hfl
  clear hE h0 hlb hmem hbb hfl hal
  go_enter Tryz.func105, Tryz.ntmps105
  go_wp2_with fail
  refine (H.out _ hr hr2).mono ?_
  rintro e w1 ⟨hb1, hcase⟩
  rcases hcase with ⟨hall, gh, rfl, hheap⟩ | ⟨hex, rfl⟩
  · have HALL := Lib.hid hall
    have HH := Lib.hid hheap
    have hmm := @run_makeMap Tryz.prog
    have hA0 : AddSt w1 [] (((w1.alloc (.map #[] 0)).alloc (.cells #[.map (some w1.heap.size)] 204)).alloc (.cells #[.slice none 0 0] 23)) := by
      have e1 := (Blk.new (w1.alloc (.map #[] 0)) 204 #[.map (some w1.heap.size)]).alloc (.cells #[.slice none 0 0] 23)
      have e2 := Blk.new ((w1.alloc (.map #[] 0)).alloc (.cells #[.map (some w1.heap.size)] 204)) 23 #[.slice none 0 0]
      have e3 := ((MapIs.made w1 Tryz.prog 3 .i64).alloc (.cells #[.map (some w1.heap.size)] 204)).alloc (.cells #[.slice none 0 0] 23)
      simp only [World.size_alloc] at e1 e2
      exact ⟨none, 0, e1, e2, e3, World.ownsRow_nil _ _ _ _, ((below_new w1 _).alloc (by simp) _).alloc (by simp; omega) _⟩
    have HA0 := Lib.hid hA0
    have hcf := fun (x : Value) (w : World) => (plain_of (fn := Tryz.f131) Tryz.func131 (by kernel_rfl) (by kernel_rfl)) #[x, .pointer (some ⟨w1.heap.size + 1, 0, none⟩), .pointer (some ⟨w1.heap.size + 1 + 1, 0, none⟩)] w
    have hr21 := hr2.below hb1
    have hr11 := hr.below hb1
    have HX2 := Lib.hid hx2
    clear hall hheap hA0 hx2
    go_wp2
    go_loopw [27] (fun i wr => ∃ (j : Nat) (out : List Int), j ≤ n2 ∧ i = .int .i64 j ∧ Hid (AddSt w1 out wr) ∧ Hid (Search a S f out 0 ∧ ∀ x ∈ f.take j, x ∈ out)) (fun i _ => n2 - (intOf i).toNat)
    case atStart => exact ⟨0, [], Nat.zero_le _, rfl, HA0, ⟨Search.nil a S f, by intro x hx; simp at hx⟩⟩
    case round =>
      obtain ⟨j, out, hj, rfl, HA, HS⟩ := hrel
      have hbr : Below w1.heap.size w1 wr := by obtain ⟨_, _, _, _, _, _, h⟩ := HA.out; exact h
      by_cases hlt : j < n2
      · obtain ⟨ad, x, rfl, had, hx, cx⟩ := ((hr2.below hb1).below (hbr.mono hb1.size)).num hlt
        have hxf := List.mem_of_getElem? hx
        have hS2 : Search a S f (addL out x) 0 := HS.out.1.add (Nat.zero_le _) (HALL.out x hxf) (fun X hX hc => hX x hxf)
        have HS2 : Hid (Search a S f (addL out x) 0 ∧ ∀ y ∈ f.take (j + 1), y ∈ addL out x) := by
          refine ⟨hS2, fun y hy => ?_⟩
          obtain ⟨q1, q2⟩ := List.getElem?_eq_some_iff.1 hx
          rw [List.take_succ_eq_append_getElem q1, List.mem_append] at hy
          have hs := addL_sub out x
          rcases hy with hy | hy
          · exact hs.1 y (HS.out.2 y hy)
          · simp only [List.mem_cons, List.not_mem_nil, or_false] at hy
            rw [hy, q2]; exact hs.2
        have HAd := Lib.hid (add_any w1 out x wr HA.out (HX2.out x hxf) (by have := HSl.out _ _ HS.out.1; omega))
        have hj1 : j + 1 ≤ n2 := hlt
        clear hx hxf hS2 HS hbr
        go_wp2_with fail
        refine HAd.out.mono ?_
        rintro e w3 ⟨rfl, hA3⟩
        have HA3 := Lib.hid hA3
        go_wp2
        go_roundw
        case rel => exact ⟨j + 1, _, hj1, by go_num, HA3, HS2⟩
        case measure => simp [intOf]; omega
      · have HF : Hid (∀ x ∈ f, x ∈ out) := by
          have := HS.out.2
          rw [List.take_of_length_le (by rw [HFL.out]; omega)] at this
          exact this
        have HS0 := Lib.hid HS.out.1
        have g0 : decide (j < n2) = false := decide_eq_false hlt
        obtain ⟨wo, hwo⟩ : ∃ x, x = wr := ⟨wr, rfl⟩
        subst hwo
        clear HS hbr
        go_wp2
        go_loopw [13] (fun i wr => ∃ (j : Nat) (out : List Int), j ≤ out.length ∧ i = .int .i64 j ∧ Hid (AddSt w1 out wr) ∧ Hid (Search a S f out j ∧ ∀ x ∈ f, x ∈ out)) (fun i _ => 256 - (intOf i).toNat)
        case atStart => exact ⟨0, out, Nat.zero_le _, rfl, HA, ⟨HS0.out, HF.out⟩⟩
        case round =>
          obtain ⟨j, out, hj, rfl, HA, HS⟩ := hrel
          obtain ⟨Ao, co, e1, e2, e3, e4, e5⟩ := HA.out
          have hlen := HSl.out _ _ HS.out.1
          obtain ⟨k, hk⟩ : ∃ k, k = out.length := ⟨_, rfl⟩
          have d0 := e2.cell 0
          simp only [List.getElem?_toArray, List.getElem?_cons_zero] at d0
          rw [← hk] at d0 e2 e4 hlen hj
          have HK := Lib.hid hk
          by_cases hlt : j < k
          · obtain ⟨ad, x, rfl, had, hx, cx⟩ := (Reads.of_own e4).num hlt
            have hxb := HS.out.1.begs x (List.mem_of_getElem? hx)
            obtain ⟨s, hs⟩ := begsL_iff.1 hxb
            obtain ⟨hsS, -, hsl⟩ := spotAt_some hs
            have hlk : linksAt a S x = linksL a s := by unfold linksAt; rw [hs]
            have hok := (HMEM.out s hsS).1
            obtain ⟨b, Ah, kh, ch, g1, g2, g3, g4, g5⟩ := HH.out.below e5
            have hAds := HS.out.1.adds (by omega) hx (HLB.out x)
            rw [hlk] at hAds
            have HAds := Lib.hid hAds
            have hEa := each_any 131 (.pointer (some ⟨w1.heap.size + 1, 0, none⟩)) (.pointer (some ⟨w1.heap.size + 1 + 1, 0, none⟩)) gh b w1.heap.size A Ah n c kh ch a S s wr g1 g4 (by rw [hsl]; exact hs) hok ((hr11.below (e5.mono hb1.size)).more hb1.size) hnc hn (plain_of (fn := Tryz.f131) Tryz.func131 (by kernel_rfl) (by kernel_rfl))
              (fun v hv => by
                by_cases hv0 : v = 0
                · exact .inl hv0
                · have h1 : v - 1 ∈ linksL a s := List.mem_map.2 ⟨v, List.mem_filter.2 ⟨hv, by simpa using hv0⟩, rfl⟩
                  have := HBB.out _ (HLk.out s hsS _ h1)
                  exact .inr (by omega))
              (fun l w' => (∀ y ∈ l, y ∈ linksL a s) ∧ AddSt w1 (l.foldl addL out) w')
              ⟨by simp, HA.out⟩ (fun l w' q h => ⟨h.1, h.2.drewN q⟩)
              (fun l w' h => by obtain ⟨-, _, _, _, _, _, _, h5⟩ := h; exact (hr11.below (h5.mono hb1.size)).more hb1.size)
              (fun l y w' h hy => by
                have h1 := HBB.out _ (HLk.out s hsS _ hy)
                have h2 := (HAds.out l h.1).1
                refine (add_any w1 (l.foldl addL out) y w' h.2 (by simp [Lit.wf, IntKind.min, IntKind.max, IntKind.signed, IntKind.bits]; omega) (by have := HSl.out _ _ h2; omega)).mono ?_
                rintro e w'' ⟨rfl, h3⟩
                refine ⟨rfl, fun z hz => ?_, by rw [List.foldl_append]; exact h3⟩
                rcases List.mem_append.1 hz with hz | hz
                · exact h.1 z hz
                · simp only [List.mem_cons, List.not_mem_nil, or_false] at hz
                  subst hz; exact hy)
            rw [hsl] at hEa
            have HEa := Lib.hid hEa
            obtain ⟨t1, t2, t3, t4, t5⟩ := hAds (linksL a s) (fun y hy => hy)
            have HS2 : Hid (Search a S f ((linksL a s).foldl addL out) (j + 1) ∧ ∀ y ∈ f, y ∈ (linksL a s).foldl addL out) := ⟨t1.next t5 (by rw [hlk]; exact t4), fun y hy => t3 y (HS.out.2 y hy)⟩
            have hj1 : j + 1 ≤ ((linksL a s).foldl addL out).length := by omega
            have HJ1 := Lib.hid hj1
            clear hx hxb hs hlk hok g1 g4 g5 hAds hEa t1 t2 t3 t4 t5 HS e1 e2 e3 e4 e5 hj1
            go_wp2_with fail
            refine HEa.out.mono ?_
            rintro e w5 ⟨rfl, -, hA5⟩
            have HA5 := Lib.hid hA5
            go_wp2
            go_roundw
            case rel => exact ⟨j + 1, _, HJ1.out, by go_num, HA5, HS2⟩
            case measure => simp [intOf]; omega
          · have hjk : j = k := by omega
            have hso := sort_int _ Ao k co out wr e4 (by omega)
            have HSo := Lib.hid hso
            have HRe : Hid (Reached a S f (sortL out)) := by
              have h1 := HS.out.1
              rw [hjk, hk] at h1
              exact h1.done HS.out.2
            have g2 : decide (j < k) = false := decide_eq_false hlt
            have HB5 := Lib.hid e5
            have hlw := e2.lt
            have HE4 := Lib.hid e4
            have HE2 := Lib.hid e2
            clear hso hjk HS e1 e3 HA hk e5 e4 e2
            go_wp2_with fail
            refine HSo.out.mono ?_
            rintro e w5 ⟨rfl, hown5, hg5⟩
            have e6 := HE2.out.grown hg5 (fun h => own_off HE4.out (by omega) h.symm)
            have p0 := e6.cell 0
            simp only [List.getElem?_toArray, List.getElem?_cons_zero] at p0
            have hbz := HB5.out.grown hg5 HB5.out.size (fun g hg => by have := (HE4.out.lt g hg).1; omega)
            have HO5 := Lib.hid (own_mono (base := w.heap.size) hown5 (by have := hb1.size; omega))
            have HL : Hid (k = (sortL out).length) := by show _ = _; rw [sortL_length]; exact HK.out
            clear hown5 hg5 e6
            go_wp2
            go_ret2
            refine ⟨below_step hb1 hbz, .inl ⟨sortL out, Ao, co, HRe.out, ?_, ?_⟩⟩
            · rw [← HL.out]; rfl
            · rw [← HL.out]; exact HO5.out
  · have HEX := Lib.hid hex
    clear hex
    go_wp2
    go_ret2
    exact ⟨hb1, .inr ⟨HEX.out, rfl⟩⟩
end Go.Proofs.YtbmkbnalembbjaaGreatDoor

namespace Go.Proofs.YtbmkbnalembbjaaGreatDoor
open Go.RowKit
set_option maxHeartbeats 400000 in
theorem index_int (A : Option Addr) (n c B : Nat) (xs : List Int) (v : Int) (w : World) (hr : Reads w B 1 A n (xs.map (.int .i64))) (hn : n ≤ 1000000000000000000) :
    Calls Tryz.prog 107 #[.slice A n c, .int .i64 v] w fun e w' => e = .returned (.int .i64 (ixOf (fun x => v == x) xs)) ∧ w = w' := by
  have hxl : xs.length = n := by have := hr.1; simpa using this
  have HX := Lib.hid hxl
  clear hxl
  go_enter Tryz.func107, Tryz.ntmps107
  go_wp2
  go_loop [8] (fun i => ∃ j : Nat, j ≤ n ∧ i = .int .i64 j ∧ ∀ x ∈ xs.take j, (v == x) = false) (fun i => n - (intOf i).toNat)
  case atStart => exact ⟨0, Nat.zero_le _, rfl, by simp⟩
  case round =>
    obtain ⟨j, hj, rfl, ht⟩ := hrel
    have HT := Lib.hid ht
    clear ht
    by_cases hlt : j < n
    · obtain ⟨ad, x, rfl, _, hx, hc⟩ := hr.num hlt
      have HS := Lib.hid hx
      clear hx
      cases he : (v == x)
      · have HE := Lib.hid he
        go_wp2
        go_round
        case rel => exact ⟨j + 1, by omega, by go_num, fun y hy => by
          rcases take_succ_mem HS.out y hy with h | rfl
          · exact HT.out y h
          · exact HE.out⟩
        case measure => simp [intOf]; omega
      · have HE := Lib.hid he
        go_wp2
        go_ret
        exact ⟨ret_int (ixOf_some HS.out HE.out HT.out).symm, rfl⟩
    · go_wp2
      go_ret
      exact ⟨ret_int (ixOf_none (by have := HT.out; rwa [List.take_of_length_le (by rw [HX.out]; omega)] at this)).symm, rfl⟩
theorem contains_int (A : Option Addr) (n c B : Nat) (xs : List Int) (v : Int) (b : Bool) (w : World) (hr : Reads w B 1 A n (xs.map (.int .i64))) (hn : n ≤ 1000000000000000000) (hb : decide (v ∈ xs) = b) :
    Calls Tryz.prog 79 #[.slice A n c, .int .i64 v] w fun e w' => e = .returned (.bool b) ∧ w = w' := by
  have H := index_int A n c B xs v w hr hn
  have hq := ixOf_nonneg (fun x => v == x) xs
  rw [any_eq_mem, hb] at hq
  generalize ixOf (fun x => v == x) xs = i at *
  have HH := Lib.hid H
  have HQ := Lib.hid hq
  clear H hq hb
  go_enter Tryz.func79, Tryz.ntmps79
  go_wp2_with (go_at_call 107; refine HH.out.mono ?_; rintro e w' ⟨rfl, rfl⟩)
  go_ret
  exact ⟨by rw [← HQ.out]; rfl, rfl⟩
end Go.Proofs.YtbmkbnalembbjaaGreatDoor

namespace Go.Proofs.YtbmkbnalembbjaaGreatDoor
open Go.RowKit
end Go.Proofs.YtbmkbnalembbjaaGreatDoor

namespace Go.Proofs.YtbmkbnalembbjaaGreatDoor
open Go.RowKit
def Named (a : List Int) (S : List Spot) (f out : List Int) : Prop := ∀ (i : Nat) (x : Int), out[i]? = some x → x ∈ f ∨ ∃ (j : Nat) (y : Int), j < i ∧ out[j]? = some y ∧ x ∈ linksAt a S y
theorem Named.add {a : List Int} {S : List Spot} {f out : List Int} {x : Int} (h : Named a S f out) (hx : x ∈ f ∨ ∃ (j : Nat) (y : Int), j < out.length ∧ out[j]? = some y ∧ x ∈ linksAt a S y) : Named a S f (addL out x) := by
  unfold addL
  split
  · exact h
  · intro i z hz
    by_cases hi : i < out.length
    · rw [List.getElem?_append_left hi] at hz
      rcases h i z hz with h1 | ⟨j, y, h1, h2, h3⟩
      · exact .inl h1
      · exact .inr ⟨j, y, h1, by rw [List.getElem?_append_left (by omega)]; exact h2, h3⟩
    · rw [List.getElem?_append_right (by omega)] at hz
      obtain ⟨q1, q2⟩ := List.getElem?_eq_some_iff.1 hz
      simp only [List.length_singleton] at q1
      have q3 : i - out.length = 0 := by omega
      simp only [q3, List.getElem_cons_zero] at q2
      subst q2
      rcases hx with h1 | ⟨j, y, h1, h2, h3⟩
      · exact .inl h1
      · exact .inr ⟨j, y, by omega, by rw [List.getElem?_append_left h1]; exact h2, h3⟩
theorem Named.adds {a : List Int} {S : List Spot} {f : List Int} {i : Nat} {x : Int} : ∀ {out : List Int} (l : List Int), Named a S f out → out[i]? = some x → (∀ y ∈ l, y ∈ linksAt a S x) → Named a S f (l.foldl addL out)
  | _, [], h, _, _ => h
  | out, y :: l, h, hx, hl => by
    have hi := (List.getElem?_eq_some_iff.1 hx).1
    have h1 := h.add (x := y) (.inr ⟨i, x, hi, hx, hl y List.mem_cons_self⟩)
    have hx1 : (addL out y)[i]? = some x := by
      unfold addL
      split
      · exact hx
      · rw [List.getElem?_append_left hi]; exact hx
    exact Named.adds l h1 hx1 (fun z hz => hl z (List.mem_cons_of_mem _ hz))
def ComeSt (w0 : World) (out : List Int) (w : World) : Prop :=
  ∃ Ao co, Blk w w0.heap.size 23 #[.slice Ao out.length co] ∧ w.ownsRow (w0.heap.size + 1) 3 1 (.slice Ao out.length co) out.length (out.map (.int .i64)) ∧ Below w0.heap.size w0 w
theorem ComeSt.below {w0 w w' : World} {out : List Int} (h : ComeSt w0 out w) (hb : Below w.heap.size w w') : ComeSt w0 out w' := by
  obtain ⟨Ao, co, h1, h2, h3⟩ := h
  exact ⟨Ao, co, h1.below hb h1.lt, own_below h2 hb, h3.trans (hb.mono h3.size)⟩
def bfsL (a : List Int) (S : List Spot) (f : List Int) : Nat → List Int
  | 0 => f.foldl addL []
  | i + 1 => match (bfsL a S f i)[i]? with | some x => (linksAt a S x).foldl addL (bfsL a S f i) | none => bfsL a S f i
theorem bfsL_still {a : List Int} {S : List Spot} {f : List Int} {n : Nat} (h : (bfsL a S f n).length ≤ n) : ∀ m, n ≤ m → bfsL a S f m = bfsL a S f n := by
  intro m hm
  induction m with
  | zero => have : n = 0 := by omega
            subst this; rfl
  | succ m ih =>
    by_cases he : n = m + 1
    · subst he; rfl
    · have h1 := ih (by omega)
      show (match (bfsL a S f m)[m]? with | some x => (linksAt a S x).foldl addL (bfsL a S f m) | none => bfsL a S f m) = _
      rw [h1, List.getElem?_eq_none (by omega)]
theorem bfsL_unique {a : List Int} {S : List Spot} {f L L' : List Int} (h : L = bfsL a S f L.length) (h' : L' = bfsL a S f L'.length) : L = L' := by
  rcases Nat.le_total L.length L'.length with hl | hl
  · have h1 := bfsL_still (a := a) (S := S) (f := f) (n := L.length) (by rw [← h]; exact Nat.le_refl _) _ hl
    rw [h', h1]; exact h
  · have h1 := bfsL_still (a := a) (S := S) (f := f) (n := L'.length) (by rw [← h']; exact Nat.le_refl _) _ hl
    rw [h, h1]; exact h'.symm
structure Ordered (a : List Int) (S : List Spot) (f out : List Int) : Prop where
  search : Search a S f out out.length
  roots : ∀ x ∈ f, x ∈ out
  named : Named a S f out
  fn : out = bfsL a S f out.length
end Go.Proofs.YtbmkbnalembbjaaGreatDoor

namespace Go.Proofs.YtbmkbnalembbjaaGreatDoor
open Go.RowKit
structure ObV where
  t : Int
  A1 : Option Addr
  n1 : Nat
  c1 : Nat
  A2 : Option Addr
  n2 : Nat
  c2 : Nat
  f : Bool
def obvC (v : ObV) : List Value := [.int .i64 v.t, .slice v.A1 v.n1 v.c1, .slice v.A2 v.n2 v.c2, .bool v.f]
def ObR (w : World) (B : Nat) (o : Ob) (v : ObV) : Prop :=
  v.t = o.t ∧ v.f = o.f ∧ v.n1 ≤ v.c1 ∧ v.n2 ≤ v.c2 ∧ v.n1 = o.refs.length ∧ v.n2 = o.body.length ∧ Reads w B 1 v.A1 v.n1 (o.refs.map (.int .i64)) ∧ Reads w B 1 v.A2 v.n2 (o.body.map (.int .u64))
def ObO (w : World) (base : Nat) (o : Ob) (v : ObV) : Prop :=
  v.t = o.t ∧ v.f = o.f ∧ v.n1 = o.refs.length ∧ v.n2 = o.body.length ∧ w.ownsRow base 3 1 (.slice v.A1 v.n1 v.c1) v.n1 (o.refs.map (.int .i64)) ∧ w.ownsRow base 45 1 (.slice v.A2 v.n2 v.c2) v.n2 (o.body.map (.int .u64))
def ObsR (w : World) (B : Nat) (os : List Ob) (vs : List ObV) : Prop := os.length = vs.length ∧ ∀ (i : Nat) (o : Ob) (v : ObV), os[i]? = some o → vs[i]? = some v → ObR w B o v
def ObsO (w : World) (base : Nat) (os : List Ob) (vs : List ObV) : Prop := os.length = vs.length ∧ ∀ (i : Nat) (o : Ob) (v : ObV), os[i]? = some o → vs[i]? = some v → ObO w base o v
theorem ObR.keep {w w' : World} {B B' : Nat} {o : Ob} {v : ObV} (h : ObR w B o v) (hb : Below B w w') (hB : B ≤ B') : ObR w' B' o v := by
  obtain ⟨h1, h2, h3, h4, h5, h6, h7, h8⟩ := h
  exact ⟨h1, h2, h3, h4, h5, h6, (h7.below hb).more hB, (h8.below hb).more hB⟩
theorem ObsR.keep {w w' : World} {B B' : Nat} {os : List Ob} {vs : List ObV} (h : ObsR w B os vs) (hb : Below B w w') (hB : B ≤ B') : ObsR w' B' os vs :=
  ⟨h.1, fun i o v ho hv => (h.2 i o v ho hv).keep hb hB⟩
theorem ObO.reads {w : World} {base : Nat} {o : Ob} {v : ObV} (h : ObO w base o v) : ObR w w.heap.size o v := by
  obtain ⟨h1, h2, h3, h4, h5, h6⟩ := h
  exact ⟨h1, h2, own_cap h5, own_cap h6, h3, h4, Reads.of_own h5, Reads.of_own h6⟩
theorem ObsO.reads {w : World} {base : Nat} {os : List Ob} {vs : List ObV} (h : ObsO w base os vs) : ObsR w w.heap.size os vs :=
  ⟨h.1, fun i o v ho hv => (h.2 i o v ho hv).reads⟩
theorem ObsO.below {w w' : World} {base : Nat} {os : List Ob} {vs : List ObV} (h : ObsO w base os vs) (hb : Below w.heap.size w w') : ObsO w' base os vs :=
  ⟨h.1, fun i o v ho hv => by
    obtain ⟨h1, h2, h3, h4, h5, h6⟩ := h.2 i o v ho hv
    exact ⟨h1, h2, h3, h4, own_below h5 hb, own_below h6 hb⟩⟩
theorem ObsO.mono {w : World} {base base' : Nat} {os : List Ob} {vs : List ObV} (h : ObsO w base' os vs) (hb : base ≤ base') : ObsO w base os vs :=
  ⟨h.1, fun i o v ho hv => by
    obtain ⟨h1, h2, h3, h4, h5, h6⟩ := h.2 i o v ho hv
    exact ⟨h1, h2, h3, h4, own_mono h5 hb, own_mono h6 hb⟩⟩
theorem own_types {w : World} {base base' size size' n n' : Nat} {e e' : TypeId} {v v' : Value} {xs xs' : List Value} (h : w.ownsRow base e size v n xs) (h' : w.ownsRow base' e' size' v' n' xs') (hne : e ≠ e') {g : Nat} (hg : v.ownBlock = some g) : v'.ownBlock ≠ some g := by
  intro hg'
  rcases h.2 with ⟨rfl, _⟩ | ⟨g1, cap, cur, rfl, _, hh, _⟩
  · cases hg
  · rcases h'.2 with ⟨rfl, _⟩ | ⟨g2, cap2, cur2, rfl, _, hh2, _⟩
    · cases hg'
    · simp only [Value.ownBlock, Option.some.injEq] at hg hg'
      subst hg hg'
      rw [hh] at hh2
      injection hh2 with hh2
      injection hh2 with _ ht
      exact hne ht
theorem ObsO.grown {w w' : World} {base base' size n : Nat} {e : TypeId} {v0 : Value} {xs : List Value} {os : List Ob} {vs : List ObV} (h : ObsO w base os vs) (ho : w.ownsRow base' e size v0 n xs) (hg : w.grownBy w' v0.ownBlock) (h1 : e ≠ 3) (h2 : e ≠ 45) : ObsO w' base os vs :=
  ⟨h.1, fun i o v ho' hv => by
    obtain ⟨a1, a2, a3, a4, a5, a6⟩ := h.2 i o v ho' hv
    exact ⟨a1, a2, a3, a4, own_grown a5 hg (fun g hg' => own_types a5 ho h1.symm hg'), own_grown a6 hg (fun g hg' => own_types a6 ho h2.symm hg')⟩⟩
end Go.Proofs.YtbmkbnalembbjaaGreatDoor

namespace Go.Proofs.YtbmkbnalembbjaaGreatDoor
open Go.RowKit
def idxL (L : List Int) (y : Int) : Int := ixOf (fun x => y == x) L
def formO (a : List Int) (S : List Spot) (L : List Int) (x : Int) : Ob :=
  match spotAt S x with | some s => ⟨s.t, (refsOf a s).map (fun v => idxL L (v - 1)), bodyOf a s, s.f⟩ | none => ⟨0, [], [], false⟩
def FormIs (a f : List Int) (os : List Ob) (fr : List Int) : Prop :=
  ∃ L, Ordered a (spotsL a) f L ∧ os = L.map (formO a (spotsL a) L) ∧ fr = f.map (idxL L)
theorem FormIs.unique {a f : List Int} {os os' : List Ob} {fr fr' : List Int} (h : FormIs a f os fr) (h' : FormIs a f os' fr') : os = os' ∧ fr = fr' := by
  obtain ⟨L, h1, h2, h3⟩ := h
  obtain ⟨L', h1', h2', h3'⟩ := h'
  have e : L = L' := bfsL_unique h1.fn h1'.fn
  subst e
  exact ⟨h2.trans h2'.symm, h3.trans h3'.symm⟩
theorem ObsO.far {w : World} {base : Nat} {os : List Ob} {vs : List ObV} (h : ObsO w base os vs) {p : Addr} (hp : p.block < base) (u : Value) : ObsO (w.setCell p u) base os vs :=
  ⟨h.1, fun i o v ho hv => by
    obtain ⟨h1, h2, h3, h4, h5, h6⟩ := h.2 i o v ho hv
    exact ⟨h1, h2, h3, h4, own_far h5 hp u, own_far h6 hp u⟩⟩
theorem ObsO.apart {w w' : World} {base : Nat} {os : List Ob} {vs : List ObV} {row : Option Nat} (h : ObsO w base os vs) (hg : w.grownBy w' row) (hne : ∀ v ∈ vs, ∀ g, ((Value.slice v.A1 v.n1 v.c1).ownBlock = some g ∨ (Value.slice v.A2 v.n2 v.c2).ownBlock = some g) → row ≠ some g) : ObsO w' base os vs :=
  ⟨h.1, fun i o v ho hv => by
    obtain ⟨h1, h2, h3, h4, h5, h6⟩ := h.2 i o v ho hv
    have hm := List.mem_of_getElem? hv
    exact ⟨h1, h2, h3, h4, own_grown h5 hg (fun g hg' => hne v hm g (.inl hg')), own_grown h6 hg (fun g hg' => hne v hm g (.inr hg'))⟩⟩
theorem ObsO.drew {w : World} {base : Nat} {os : List Ob} {vs : List ObV} (h : ObsO w base os vs) : ObsO w.drew base os vs :=
  ⟨h.1, fun i o v ho hv => by
    obtain ⟨h1, h2, h3, h4, h5, h6⟩ := h.2 i o v ho hv
    exact ⟨h1, h2, h3, h4, h5.drew, h6.drew⟩⟩
end Go.Proofs.YtbmkbnalembbjaaGreatDoor

namespace Go.Proofs.YtbmkbnalembbjaaGreatDoor
open Go.RowKit
def refT (φ : Int → Int) (v : Int) : Int := if v = 0 then 0 else φ (v - 1) + 1
structure Iso (a b L : List Int) (φ : Int → Int) : Prop where
  nn : ∀ x ∈ L, 0 ≤ φ x
  inj : ∀ x ∈ L, ∀ y ∈ L, φ x = φ y → x = y
  at_ : ∀ x ∈ L, ∀ s, spotAt (spotsL a) x = some s → ∃ s', spotAt (spotsL b) (φ x) = some s' ∧ s'.r = s.r ∧ s'.b = s.b ∧ s'.t = s.t ∧ bodyOf b s' = bodyOf a s ∧ refsOf b s' = (refsOf a s).map (refT φ)
structure ClosedL (a L : List Int) : Prop where
  begs : ∀ x ∈ L, x ∈ begsL (spotsL a)
  closed : ∀ x ∈ L, ∀ y ∈ linksAt a (spotsL a) x, y ∈ L
  nn : ∀ x ∈ L, 0 ≤ x
theorem linksT {φ : Int → Int} : ∀ (l : List Int), (∀ v ∈ l, v ≠ 0 → 0 ≤ φ (v - 1)) → (((l.map (refT φ)).filter fun v => v != 0).map fun v => v - 1) = ((l.filter fun v => v != 0).map fun v => v - 1).map φ := by
  intro l
  induction l with
  | nil => intro _; rfl
  | cons v l ih =>
    intro h
    have ih' := ih (fun u hu => h u (List.mem_cons_of_mem _ hu))
    rw [List.map_cons]
    by_cases h0 : v = 0
    · have e : refT φ v = 0 := by unfold refT; rw [if_pos h0]
      rw [e, List.filter_cons_of_neg (by simp), List.filter_cons_of_neg (by simp [h0])]
      exact ih'
    · have e : refT φ v = φ (v - 1) + 1 := by unfold refT; rw [if_neg h0]
      have hp := h v List.mem_cons_self h0
      rw [e, List.filter_cons_of_pos (by simp; omega), List.filter_cons_of_pos (by simp [h0]), List.map_cons, List.map_cons, List.map_cons, ih']
      congr 1
      omega
section
variable {a b L : List Int} {φ : Int → Int}
theorem Iso.link_of (hC : ClosedL a L) {x : Int} (hx : x ∈ L) {s : Spot} (hs : spotAt (spotsL a) x = some s) : ∀ v ∈ refsOf a s, v ≠ 0 → v - 1 ∈ L := fun v hv h0 => by
  refine hC.closed x hx (v - 1) ?_
  unfold linksAt
  rw [hs]
  exact List.mem_map.2 ⟨v, List.mem_filter.2 ⟨hv, by simpa using h0⟩, rfl⟩
theorem Iso.links (h : Iso a b L φ) (hC : ClosedL a L) {x : Int} (hx : x ∈ L) : linksAt b (spotsL b) (φ x) = (linksAt a (spotsL a) x).map φ := by
  obtain ⟨s, hs⟩ := begsL_iff.1 (hC.begs x hx)
  obtain ⟨s', hs', -, -, -, -, hr⟩ := h.at_ x hx s hs
  unfold linksAt
  rw [hs, hs']
  show linksL b s' = (linksL a s).map φ
  unfold linksL
  rw [hr]
  exact linksT _ (fun v hv h0 => h.nn _ (Iso.link_of hC hx hs v hv h0))
theorem Iso.addL (h : Iso a b L φ) {out : List Int} (ho : ∀ y ∈ out, y ∈ L) {x : Int} (hx : x ∈ L) : addL (out.map φ) (φ x) = (addL out x).map φ := by
  unfold Proofs.YtbmkbnalembbjaaGreatDoor.addL
  by_cases hm : x ∈ out
  · rw [if_pos hm, if_pos (List.mem_map.2 ⟨x, hm, rfl⟩)]
  · rw [if_neg hm, if_neg (fun hh => by
      obtain ⟨y, hy, e⟩ := List.mem_map.1 hh
      exact hm (h.inj y (ho y hy) x hx e ▸ hy)), List.map_append]
    rfl
theorem Iso.addL_in {out : List Int} (ho : ∀ y ∈ out, y ∈ L) {x : Int} (hx : x ∈ L) : ∀ y ∈ Proofs.YtbmkbnalembbjaaGreatDoor.addL out x, y ∈ L := fun y hy => by
  rcases addL_mem hy with h1 | rfl
  · exact ho y h1
  · exact hx
theorem Iso.fold (h : Iso a b L φ) : ∀ (l out : List Int), (∀ y ∈ out, y ∈ L) → (∀ y ∈ l, y ∈ L) → (l.map φ).foldl Proofs.YtbmkbnalembbjaaGreatDoor.addL (out.map φ) = (l.foldl Proofs.YtbmkbnalembbjaaGreatDoor.addL out).map φ ∧ ∀ y ∈ l.foldl Proofs.YtbmkbnalembbjaaGreatDoor.addL out, y ∈ L
  | [], out, ho, _ => ⟨rfl, ho⟩
  | x :: l, out, ho, hl => by
    have hx := hl x List.mem_cons_self
    have ih := Iso.fold h l (Proofs.YtbmkbnalembbjaaGreatDoor.addL out x) (Iso.addL_in ho hx) (fun y hy => hl y (List.mem_cons_of_mem _ hy))
    rw [List.map_cons, List.foldl_cons, List.foldl_cons, h.addL ho hx]
    exact ih
theorem Iso.bfs (h : Iso a b L φ) (hC : ClosedL a L) {f : List Int} (hf : ∀ y ∈ f, y ∈ L) : ∀ n, bfsL b (spotsL b) (f.map φ) n = (bfsL a (spotsL a) f n).map φ ∧ ∀ y ∈ bfsL a (spotsL a) f n, y ∈ L
  | 0 => by
    have := h.fold f [] (fun y hy => by cases hy) hf
    exact this
  | n + 1 => by
    obtain ⟨i1, i2⟩ := Iso.bfs h hC hf n
    show (match (bfsL b (spotsL b) (f.map φ) n)[n]? with | some x => (linksAt b (spotsL b) x).foldl Proofs.YtbmkbnalembbjaaGreatDoor.addL (bfsL b (spotsL b) (f.map φ) n) | none => bfsL b (spotsL b) (f.map φ) n) = _ ∧ ∀ y ∈ (match (bfsL a (spotsL a) f n)[n]? with | some x => (linksAt a (spotsL a) x).foldl Proofs.YtbmkbnalembbjaaGreatDoor.addL (bfsL a (spotsL a) f n) | none => bfsL a (spotsL a) f n), y ∈ L
    rw [i1, List.getElem?_map]
    have e : bfsL a (spotsL a) f (n + 1) = (match (bfsL a (spotsL a) f n)[n]? with | some x => (linksAt a (spotsL a) x).foldl Proofs.YtbmkbnalembbjaaGreatDoor.addL (bfsL a (spotsL a) f n) | none => bfsL a (spotsL a) f n) := rfl
    rw [e]
    cases hx : (bfsL a (spotsL a) f n)[n]? with
    | none => exact ⟨rfl, i2⟩
    | some x =>
      have hxL := i2 x (List.mem_of_getElem? hx)
      simp only [Option.map_some]
      rw [h.links hC hxL]
      exact h.fold _ _ i2 (hC.closed x hxL)
theorem idxL_map (h : Iso a b L φ) {M : List Int} (hM : ∀ y ∈ M, y ∈ L) {y : Int} (hy : y ∈ L) : idxL (M.map φ) (φ y) = idxL M y := by
  unfold idxL ixOf
  rw [List.findIdx?_map]
  have e : M.findIdx? ((fun x => φ y == x) ∘ φ) = M.findIdx? (fun x => y == x) := by
    revert hM
    induction M with
    | nil => intro _; rfl
    | cons m M ih =>
      intro hM
      have hm := hM m List.mem_cons_self
      rw [List.findIdx?_cons, List.findIdx?_cons, ih (fun z hz => hM z (List.mem_cons_of_mem _ hz))]
      have e : ((fun x => φ y == x) ∘ φ) m = (y == m) := by
        show (φ y == φ m) = (y == m)
        rw [Bool.eq_iff_iff, beq_iff_eq, beq_iff_eq]
        exact ⟨fun e => h.inj y hy m hm e, fun e => by rw [e]⟩
      rw [e]
  rw [e]
theorem idxL_neg {M : List Int} (hM : ∀ y ∈ M, 0 ≤ y) : idxL M (-1) = -1 := ixOf_none (fun x hx => by have := hM x hx; simp; omega)
theorem form_iso (h : Iso a b L φ) (hC : ClosedL a L) {f : List Int} (hf : ∀ y ∈ f, y ∈ L) {os os' : List Ob} {fr fr' : List Int} (hF : FormIs a f os fr) (hF' : FormIs b (f.map φ) os' fr') : os = os' ∧ fr = fr' := by
  obtain ⟨M, h1, rfl, rfl⟩ := hF
  obtain ⟨M', h1', rfl, rfl⟩ := hF'
  have hb := h.bfs hC hf M.length
  have hM : ∀ y ∈ M, y ∈ L := fun y hy => hb.2 y (h1.fn ▸ hy)
  have e : M' = M.map φ := by
    refine bfsL_unique h1'.fn ?_
    rw [List.length_map, hb.1, ← h1.fn]
  subst e
  constructor
  · rw [List.map_map]
    refine List.map_congr_left (fun x hx => ?_)
    have hxL := hM x hx
    obtain ⟨s, hs⟩ := begsL_iff.1 (hC.begs x hxL)
    obtain ⟨s', hs', e1, e2, e3, e4, e5⟩ := h.at_ x hxL s hs
    show formO a (spotsL a) M x = formO b (spotsL b) (M.map φ) (φ x)
    unfold formO
    rw [hs, hs']
    dsimp only
    rw [e3, e4, e5, (spotAt_some hs).2.1, (spotAt_some hs').2.1, List.map_map]
    congr 1
    refine List.map_congr_left (fun v hv => ?_)
    show idxL M (v - 1) = idxL (M.map φ) (refT φ v - 1)
    by_cases h0 : v = 0
    · subst h0
      have e6 : refT φ 0 = 0 := rfl
      rw [e6]
      show idxL M (-1) = idxL (M.map φ) (-1)
      rw [idxL_neg (fun y hy => hC.nn y (hM y hy)), idxL_neg (fun y hy => by
        obtain ⟨z, hz, rfl⟩ := List.mem_map.1 hy
        exact h.nn z (hM z hz))]
    · have e6 : refT φ v - 1 = φ (v - 1) := by unfold refT; rw [if_neg h0]; omega
      rw [e6, idxL_map h hM (Iso.link_of hC hxL hs v hv h0)]
  · rw [List.map_map]
    refine List.map_congr_left (fun x hx => ?_)
    exact (idxL_map h hM (hf x hx)).symm
end
theorem spotsFrom_app : ∀ (cs ds : List Chk) (i : Nat), spotsFrom i (cs ++ ds) = spotsFrom i cs ++ spotsFrom (i + (chunksW cs).length) ds
  | [], ds, i => by simp [spotsFrom, chunksW]
  | c :: cs, ds, i => by
    rw [List.cons_append, chunksW_cons, List.length_append, chkW_length]
    simp only [spotsFrom]
    rw [spotsFrom_app cs ds, List.cons_append, Nat.add_assoc]
theorem spotsFrom_low : ∀ (cs : List Chk) (i : Nat), ∀ s ∈ spotsFrom i cs, (i : Int) ≤ s.loc ∧ s.loc < i + (chunksW cs).length
  | [], i => by simp [spotsFrom]
  | c :: cs, i => by
    intro s hs
    rw [chunksW_cons, List.length_append, chkW_length]
    have hp : 1 ≤ c.len := by unfold Chk.len; omega
    simp only [spotsFrom, List.mem_cons] at hs
    rcases hs with rfl | hs
    · simp only [Chk.spot]; omega
    · have := spotsFrom_low cs (i + c.len) s hs
      omega
theorem split_at (pre suf : List Chk) (c : Chk) (hf : c.f = false) : spotAt (spotsFrom 0 (pre ++ c :: suf)) (chunksW pre).length = some (c.spot (chunksW pre).length) := by
  unfold spotAt
  rw [spotsFrom_app, List.find?_append]
  have h1 : (spotsFrom 0 pre).find? (isBeg (chunksW pre).length) = none := by
    rw [List.find?_eq_none]
    intro s hs
    have := spotsFrom_low pre 0 s hs
    simp only [isBeg, Bool.and_eq_true, beq_iff_eq, not_and]
    intro _
    omega
  rw [h1, Nat.zero_add]
  simp only [spotsFrom, Option.none_or]
  rw [List.find?_cons_of_pos]
  simp [isBeg, Chk.spot, hf]
theorem split_refs (pre suf : List Chk) (c : Chk) (hc : c.ok) : refsOf (chunksW (pre ++ c :: suf)) (c.spot (chunksW pre).length) = c.pay.take c.r.toNat ∧ bodyOf (chunksW (pre ++ c :: suf)) (c.spot (chunksW pre).length) = c.pay.drop c.r.toNat := by
  have hE := headE_ok.1 hc.1
  have hp := hc.2
  rw [chunksW_append, chunksW_cons, chkW]
  simp only [refsOf, bodyOf, Chk.spot, Int.toNat_natCast]
  constructor
  · rw [List.drop_append, List.drop_of_length_le (by omega), List.nil_append, show (chunksW pre).length + 1 - (chunksW pre).length = 1 by omega, List.cons_append, List.drop_succ_cons, List.drop_zero, List.take_append_of_le_length (by omega)]
  · rw [List.drop_append, List.drop_of_length_le (by omega), List.nil_append, show (chunksW pre).length + 1 + c.r.toNat - (chunksW pre).length = c.r.toNat + 1 by omega, List.cons_append, List.drop_succ_cons, List.drop_append_of_le_length (by omega), List.take_append_of_le_length (by rw [List.length_drop]; omega), List.take_of_length_le (by rw [List.length_drop]; omega)]
end Go.Proofs.YtbmkbnalembbjaaGreatDoor
