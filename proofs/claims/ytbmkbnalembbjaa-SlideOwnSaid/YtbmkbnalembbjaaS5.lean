/-
  Texts joined: JoinLaw PlanDefs PlanLaw Objects Form IsoLaw.
-/
import Derived.Deep.RegionHeld3
import Derived.Test.YtbmkbnalembbjaaS0
import Derived.Test.YtbmkbnalembbjaaS1
import Derived.Test.YtbmkbnalembbjaaS3
import Derived.Test.YtbmkbnalembbjaaS4
namespace Go.Proofs.Ytbmkbnalembbjaa
open Go.RowKit
def freeC (p : Nat) : Chk := ⟨0, (p : Int) - 1, 0, true, List.replicate (p - 1) 0⟩
def flushC (p : Nat) : List Chk := if p = 0 then [] else [freeC p]
def joinP : Nat → List Chk → List Chk
  | p, [] => flushC p
  | p, c :: cs => if c.f then joinP (p + c.len) cs else flushC p ++ c :: joinP 0 cs
def flushG (i p : Nat) : List Rn := if p = 0 then [] else [⟨i, p⟩]
def gapsP : Nat → Nat → List Chk → List Rn
  | i, p, [] => flushG (i - p) p
  | i, p, c :: cs => if c.f then gapsP (i + c.len) (p + c.len) cs else flushG (i - p) p ++ gapsP (i + c.len) 0 cs
theorem freeC_len {p : Nat} (h : p ≠ 0) : (freeC p).len = p := by unfold Chk.len freeC; rw [List.length_replicate]; omega
theorem freeC_f (p : Nat) : (freeC p).f = true := rfl
theorem freeC_ok {p : Nat} (h : p ≠ 0) (h2 : p ≤ 256) : (freeC p).ok := by
  refine ⟨headE_ok.2 ?_, ?_⟩
  · unfold freeC; dsimp only; refine ⟨by omega, by omega, by omega, by omega, by omega, by omega, by omega, fun _ => ⟨rfl, rfl⟩⟩
  · unfold freeC; dsimp only; rw [List.length_replicate]; omega
theorem flushC_length (p : Nat) : (chunksW (flushC p)).length = p := by
  unfold flushC
  by_cases h : p = 0
  · rw [if_pos h, h]; rfl
  · rw [if_neg h, chunksW_cons, List.length_append, chkW_length, freeC_len h]; rfl
theorem gapsA_chunks : ∀ (cs : List Chk) (i p : Nat) (acc : List Rn), p ≤ i → (∀ c ∈ cs, c.ok) → gapsA (acc ++ flushG (i - p) p) (decide (0 < p)) (spotsFrom i cs) = acc ++ gapsP i p cs := by
  intro cs
  induction cs with
  | nil => intro i p acc _ _; simp only [spotsFrom, gapsA, gapsP]
  | cons c cs ih =>
    intro i p acc hp hok
    have hc := hok c List.mem_cons_self
    have hok' : ∀ d ∈ cs, d.ok := fun d hd => hok d (List.mem_cons_of_mem _ hd)
    have hpos : 1 ≤ c.len := by unfold Chk.len; omega
    simp only [spotsFrom, gapsA, gapsP]
    rw [Chk.long hc]
    have hsf : (c.spot i).f = c.f := rfl
    have hsl : (c.spot i).loc = i := rfl
    rw [hsf, hsl]
    cases hf : c.f
    · rw [if_pos rfl, if_neg (by decide)]
      have := ih (i + c.len) 0 (acc ++ flushG (i - p) p) (by omega) hok'
      rw [List.append_assoc] at this
      simpa [flushG] using this
    · rw [if_neg (by decide), if_pos rfl]
      have := ih (i + c.len) (p + c.len) acc (by omega) hok'
      rw [show i + c.len - (p + c.len) = i - p by omega] at this
      rw [decide_eq_true (by omega)] at this
      rw [← this]
      by_cases h0 : p = 0
      · rw [if_neg (by simp [h0])]
        subst h0
        have e1 : flushG (i - 0) 0 = [] := rfl
        have e2 : flushG (i - 0) (0 + c.len) = [⟨i, c.len⟩] := by unfold flushG; rw [if_neg (by omega)]; simp
        rw [e1, e2, List.append_nil]
      · rw [if_pos (by simp; omega)]
        simp only [flushG]
        rw [if_neg h0, if_neg (by omega), bump_snoc]
        congr 3
theorem gapsL_chunks {cs : List Chk} (hok : ∀ c ∈ cs, c.ok) : gapsL (spotsFrom 0 cs) = gapsP 0 0 cs := by
  have := gapsA_chunks cs 0 0 [] (by omega) hok
  simpa [flushG, gapsL] using this
theorem gapsP_mem : ∀ (cs : List Chk) (i p : Nat), p ≤ i → ∀ r ∈ gapsP i p cs, ∃ a n : Nat, r = ⟨a, n⟩ ∧ 1 ≤ n ∧ i - p ≤ a ∧ a + n ≤ i + (chunksW cs).length := by
  intro cs
  have hfl : ∀ (i p m : Nat), p ≤ i → ∀ r ∈ flushG (i - p) p, ∃ a n : Nat, r = ⟨a, n⟩ ∧ 1 ≤ n ∧ i - p ≤ a ∧ a + n ≤ i + m := by
    intro i p m hp r h
    unfold flushG at h
    split at h
    · cases h
    · exact ⟨i - p, p, List.mem_singleton.1 h, by omega, by omega, by omega⟩
  induction cs with
  | nil => intro i p hp r h; exact hfl i p _ hp r h
  | cons c cs ih =>
    intro i p hp r h
    simp only [gapsP] at h
    rw [chunksW_cons, List.length_append, chkW_length]
    split at h
    · obtain ⟨a, n, h1, h2, h3, h4⟩ := ih _ _ (by omega) r h
      exact ⟨a, n, h1, h2, by omega, by omega⟩
    · rcases List.mem_append.1 h with h | h
      · exact hfl i p _ hp r h
      · obtain ⟨a, n, h1, h2, h3, h4⟩ := ih _ _ (by omega) r h
        exact ⟨a, n, h1, h2, by omega, by omega⟩
def layL (a : List Int) (i n : Nat) : List Int := if n = 0 then a else (fillL a i n 0).set i (wordOf 0 ((n : Int) - 1) 0 true)
def joinL (a : List Int) (l : List Rn) : List Int := l.foldl (fun a r => layL a r.loc.toNat r.len.toNat) a
structure JoinOk (a b : List Int) (l : List Rn) : Prop where
  len : b.length = a.length
  check : checkE b = 0
  gaps : gapsL (spotsL b) = l
  again : joinL b l = b
  free : ((spotsL b).filter (·.f)).length = l.length
  out : ∀ k : Nat, b[k]? = a[k]? ∨ ∃ r ∈ l, r.loc ≤ (k : Int) ∧ (k : Int) - r.loc < r.len
  runs : ∀ r ∈ l, ∃ i n : Nat, r = ⟨i, n⟩ ∧ 1 ≤ n ∧ i + n ≤ a.length
end Go.Proofs.Ytbmkbnalembbjaa

namespace Go.Proofs.Ytbmkbnalembbjaa
open Go.RowKit
def risesP : List Int → Bool
  | a :: b :: t => decide (a < b) && risesP (b :: t)
  | _ => true
theorem risesP_pairwise : ∀ {l : List Int}, risesP l = true → l.Pairwise (· < ·)
  | [], _ => List.Pairwise.nil
  | [_], _ => by simp
  | a :: b :: t, h => by
    simp only [risesP, Bool.and_eq_true, decide_eq_true_eq] at h
    have ih := risesP_pairwise h.2
    refine List.pairwise_cons.2 ⟨fun x hx => ?_, ih⟩
    rcases List.mem_cons.1 hx with rfl | hx
    · exact h.1
    · have := (List.pairwise_cons.1 ih).1 x hx
      omega
def pL (x : Int) (s : Spot) : Bool := (s.loc == x) && !s.f
def longAt (S : List Spot) (x : Int) : Int := match S[(ixOf (pL x) S).toNat]? with | some s => s.long | none => 0
def longsE (a keep pinned : List Int) : Int :=
  if checkE a ≠ 0 then checkE a else if (!risesP keep || !risesP pinned) = true then 3 else if keep.any (fun x => decide (ixOf (pL x) (spotsL a) < 0)) = true then 5 else if pinned.any (fun x => !decide (x ∈ keep)) = true then 5 else 0
def longsV (a keep pinned : List Int) : List Int := if longsE a keep pinned = 0 then keep.map (longAt (spotsL a)) else []
theorem longsE_ok {a keep pinned : List Int} : longsE a keep pinned = 0 ↔ checkE a = 0 ∧ risesP keep = true ∧ risesP pinned = true ∧ (∀ x ∈ keep, 0 ≤ ixOf (pL x) (spotsL a)) ∧ ∀ x ∈ pinned, x ∈ keep := by
  unfold longsE
  by_cases h1 : checkE a = 0
  · rw [if_neg (by simpa using h1)]
    by_cases h2 : (!risesP keep || !risesP pinned) = true
    · rw [if_pos h2]
      constructor
      · intro h; cases h
      · rintro ⟨_, h3, h4, _⟩; rw [h3, h4] at h2; cases h2
    · rw [if_neg h2]
      have h3 : risesP keep = true ∧ risesP pinned = true := by simpa using h2
      by_cases h4 : keep.any (fun x => decide (ixOf (pL x) (spotsL a) < 0)) = true
      · rw [if_pos h4]
        constructor
        · intro h; cases h
        · rintro ⟨_, _, _, h5, _⟩
          obtain ⟨x, hx, hd⟩ := List.any_eq_true.1 h4
          have := h5 x hx
          simp only [decide_eq_true_eq] at hd
          omega
      · rw [if_neg h4]
        have h5 : ∀ x ∈ keep, 0 ≤ ixOf (pL x) (spotsL a) := by
          intro x hx
          rcases Int.lt_or_le (ixOf (pL x) (spotsL a)) 0 with h | h
          · exact absurd (List.any_eq_true.2 ⟨x, hx, decide_eq_true h⟩) h4
          · exact h
        by_cases h6 : pinned.any (fun x => !decide (x ∈ keep)) = true
        · rw [if_pos h6]
          constructor
          · intro h; cases h
          · rintro ⟨_, _, _, _, h7⟩
            obtain ⟨x, hx, hd⟩ := List.any_eq_true.1 h6
            rw [decide_eq_true (h7 x hx)] at hd
            cases hd
        · rw [if_neg h6]
          refine ⟨fun _ => ⟨h1, h3.1, h3.2, h5, fun x hx => ?_⟩, fun _ => rfl⟩
          by_cases hk : x ∈ keep
          · exact hk
          · exact absurd (List.any_eq_true.2 ⟨x, hx, by rw [decide_eq_false hk]; rfl⟩) h6
  · rw [if_pos h1]
    exact ⟨fun h => absurd h h1, fun h => absurd h.1 h1⟩
def slidGo (pinned : List Int) : Int → List Int → List Int → List Int
  | e, x :: ks, n :: ls => (if x ∈ pinned then x else e) :: slidGo pinned ((if x ∈ pinned then x else e) + n) ks ls
  | _, _, _ => []
def pgaps (N : Int) : Int → List Int → List Int → List Rn
  | e, y :: ys, n :: ns => (if e < y then [⟨e, y - e⟩] else []) ++ pgaps N (y + n) ys ns
  | e, _, _ => if e < N then [⟨e, N - e⟩] else []
structure Kept (N : Int) (keep long : List Int) : Prop where
  same : long.length = keep.length
  at_ : ∀ (j : Nat) (x n : Int), keep[j]? = some x → long[j]? = some n → 0 ≤ x ∧ 1 ≤ n ∧ n ≤ 256 ∧ x + n ≤ N
  next : ∀ (j : Nat) (x n y : Int), keep[j]? = some x → long[j]? = some n → keep[j + 1]? = some y → x + n ≤ y
theorem spots_of_ix {a : List Int} (h : spotsE a = 0) {x : Int} (hx : 0 ≤ ixOf (pL x) (spotsL a)) :
    ∃ (i : Nat) (s : Spot), ixOf (pL x) (spotsL a) = i ∧ (spotsL a)[i]? = some s ∧ s.loc = x ∧ s.f = false ∧ SpotOk a s ∧ longAt (spotsL a) x = s.long ∧ ixOf (fun s => s.loc == x) (spotsL a) = i := by
  rcases ixOf_cases (pL x) (spotsL a) with ⟨h1, -⟩ | ⟨i, s, h1, h2, h3, h4⟩
  · omega
  · have h3' : s.loc = x ∧ s.f = false := by simpa [pL] using h3
    refine ⟨i, s, h1, h2, h3'.1, h3'.2, ((parse_mem (parse_ok h).2) s (List.mem_of_getElem? h2)).1, ?_, ?_⟩
    · unfold longAt
      rw [h1, Int.toNat_natCast, h2]
    · refine ixOf_some h2 (by simp [h3'.1]) (fun y hy => ?_)
      have hr := spots_rise h
      rw [List.mem_take_iff_getElem] at hy
      obtain ⟨j, hj, rfl⟩ := hy
      obtain ⟨hi, rfl⟩ := List.getElem?_eq_some_iff.1 h2
      have := List.pairwise_iff_getElem.1 hr j i (by omega) hi (by omega)
      simp only [beq_eq_false_iff_ne]
      omega
theorem kept_of {a keep pinned : List Int} (h : longsE a keep pinned = 0) : Kept a.length keep (longsV a keep pinned) ∧ (a.length : Int) ≤ 256 := by
  obtain ⟨h1, h2, h3, h4, h5⟩ := longsE_ok.1 h
  have hE := (checkE_ok.1 h1).1
  have hlen := (parse_ok hE).1
  have hV : longsV a keep pinned = keep.map (longAt (spotsL a)) := by unfold longsV; rw [if_pos h]
  have hat : ∀ (j : Nat) (x n : Int), keep[j]? = some x → (longsV a keep pinned)[j]? = some n → ∃ s ∈ spotsL a, s.loc = x ∧ s.long = n ∧ SpotOk a s := by
    intro j x n hx hn
    rw [hV, List.getElem?_map, hx] at hn
    obtain ⟨i, s, -, hs, hl, -, hok, hlg, -⟩ := spots_of_ix hE (h4 x (List.mem_of_getElem? hx))
    refine ⟨s, List.mem_of_getElem? hs, hl, ?_, hok⟩
    rw [← hlg]
    exact Option.some.inj hn
  refine ⟨⟨by rw [hV, List.length_map], fun j x n hx hn => ?_, fun j x n y hx hn hy => ?_⟩, by omega⟩
  · obtain ⟨s, hs, rfl, rfl, hok⟩ := hat j x n hx hn
    have := hok.loc0
    have := hok.r0
    have := hok.b0
    have := hok.fits
    have := hok.fit256
    unfold Spot.long at *
    omega
  · obtain ⟨s, hs, rfl, rfl, hok⟩ := hat j x n hx hn
    obtain ⟨i2, t, -, ht, hl2, -, hok2, -, -⟩ := spots_of_ix hE (h4 y (List.mem_of_getElem? hy))
    have hlt : s.loc < y := by
      obtain ⟨ha, rfl⟩ := List.getElem?_eq_some_iff.1 hy
      obtain ⟨hb, hb2⟩ := List.getElem?_eq_some_iff.1 hx
      have := List.pairwise_iff_getElem.1 (risesP_pairwise h2) j (j + 1) hb ha (by omega)
      rw [hb2] at this
      exact this
    have ho := parse_order (parse_ok hE).2
    have hr := spots_rise hE
    obtain ⟨i1, hi1, e1⟩ := List.mem_iff_getElem.1 hs
    obtain ⟨hi2, e2⟩ := List.getElem?_eq_some_iff.1 ht
    rcases Nat.lt_trichotomy i1 i2 with h | h | h
    · have := List.pairwise_iff_getElem.1 ho i1 i2 hi1 hi2 h
      rw [e1, e2] at this
      omega
    · subst h
      rw [e1] at e2
      subst e2
      omega
    · have := List.pairwise_iff_getElem.1 hr i2 i1 hi2 hi1 h
      rw [e1, e2] at this
      omega
end Go.Proofs.Ytbmkbnalembbjaa

namespace Go.Proofs.Ytbmkbnalembbjaa
open Go.RowKit
theorem Kept.tail {N x n : Int} {ks ls : List Int} (h : Kept N (x :: ks) (n :: ls)) : Kept N ks ls :=
  ⟨by have := h.same; simpa using this, fun j x n h1 h2 => h.at_ (j + 1) x n (by simpa using h1) (by simpa using h2), fun j x n y h1 h2 h3 => h.next (j + 1) x n y (by simpa using h1) (by simpa using h2) (by simpa using h3)⟩
structure Slid (N e : Int) (pinned keep L Y : List Int) : Prop where
  len : Y.length = keep.length
  low : ∀ (j : Nat) (y : Int), Y[j]? = some y → e ≤ y
  at_ : ∀ (j : Nat) (x y k : Int), keep[j]? = some x → L[j]? = some k → Y[j]? = some y → y ≤ x ∧ (x ∈ pinned → y = x) ∧ y + k ≤ N ∧ ∀ y', Y[j + 1]? = some y' → y + k ≤ y'
theorem slid_of (N : Int) (pinned : List Int) : ∀ (keep L : List Int) (e : Int), Kept N keep L → (∀ x, keep[0]? = some x → e ≤ x) → Slid N e pinned keep L (slidGo pinned e keep L) := by
  intro keep
  induction keep with
  | nil => intro L e _ _; exact ⟨by simp [slidGo], fun j y h => by simp [slidGo] at h, fun j x y k h => by simp at h⟩
  | cons x ks ih =>
    intro L e hK he
    cases L with
    | nil => have := hK.same; simp at this
    | cons n ls =>
      obtain ⟨x0, n1, n2, hxn⟩ := hK.at_ 0 x n rfl rfl
      have hex := he x rfl
      obtain ⟨z, hz⟩ : ∃ z, z = (if x ∈ pinned then x else e) := ⟨_, rfl⟩
      have hz1 : e ≤ z ∧ z ≤ x := by rw [hz]; split <;> omega
      have hz2 : x ∈ pinned → z = x := fun h => by rw [hz, if_pos h]
      have ih' := ih ls (z + n) hK.tail (fun y hy => by have := hK.next 0 x n y rfl rfl (by simpa using hy); omega)
      have hY : slidGo pinned e (x :: ks) (n :: ls) = z :: slidGo pinned (z + n) ks ls := by simp only [slidGo]; rw [← hz]
      rw [hY]
      refine ⟨by simp [ih'.len], fun j y h => ?_, fun j x' y k h1 h2 h3 => ?_⟩
      · cases j with
        | zero => obtain rfl : z = y := by simpa using h
                  exact hz1.1
        | succ j => have := ih'.low j y (by simpa using h); omega
      · cases j with
        | zero =>
          obtain rfl : x = x' := by simpa using h1
          obtain rfl : n = k := by simpa using h2
          obtain rfl : z = y := by simpa using h3
          exact ⟨hz1.2, hz2, by omega, fun y' h => ih'.low 0 y' (by simpa using h)⟩
        | succ j =>
          obtain ⟨a1, a2, a3, a4⟩ := ih'.at_ j x' y k (by simpa using h1) (by simpa using h2) (by simpa using h3)
          exact ⟨a1, a2, a3, fun y' h => a4 y' (by simpa using h)⟩
theorem kept_len {N : Int} {keep L : List Int} (h : Kept N keep L) : ∀ (j : Nat) (x : Int), keep[j]? = some x → (j : Int) ≤ x ∧ (j : Int) + 1 ≤ N := by
  intro j
  have hL : ∀ (j : Nat) (x : Int), keep[j]? = some x → ∃ n, L[j]? = some n := fun j x hx => ⟨_, List.getElem?_eq_getElem (by rw [h.same]; exact (List.getElem?_eq_some_iff.1 hx).1)⟩
  induction j with
  | zero =>
    intro x hx
    obtain ⟨n, hn⟩ := hL 0 x hx
    obtain ⟨a, b, c, d⟩ := h.at_ 0 x n hx hn
    exact ⟨by omega, by omega⟩
  | succ j ih =>
    intro x hx
    have hlt := (List.getElem?_eq_some_iff.1 hx).1
    obtain ⟨x0, hx0⟩ : ∃ x0, keep[j]? = some x0 := ⟨_, List.getElem?_eq_getElem (by omega)⟩
    obtain ⟨n0, hn0⟩ := hL j x0 hx0
    obtain ⟨n, hn⟩ := hL (j + 1) x hx
    obtain ⟨a, b, c, d⟩ := h.at_ (j + 1) x n hx hn
    obtain ⟨a0, b0, c0, d0⟩ := h.at_ j x0 n0 hx0 hn0
    have := h.next j x0 n0 x hx0 hn0 hx
    have := (ih x0 hx0).1
    exact ⟨by omega, by omega⟩
theorem kept_len2 {N : Int} {keep L : List Int} (h : Kept N keep L) (hN : 0 ≤ N) : (keep.length : Int) ≤ N := by
  rcases Nat.eq_zero_or_pos keep.length with h0 | h0
  · omega
  · have := kept_len h (keep.length - 1) keep[keep.length - 1] (List.getElem?_eq_getElem (by omega))
    omega
def rsum : List Rn → Int
  | [] => 0
  | r :: l => r.len + rsum l
def isum : List Int → Int
  | [] => 0
  | x :: l => x + isum l
theorem pgaps_count (N : Int) (pinned : List Int) : ∀ (keep L : List Int) (e : Int), (pgaps N e (slidGo pinned e keep L) L).length ≤ (keep.filter (fun x => decide (x ∈ pinned))).length + 1 := by
  intro keep
  induction keep with
  | nil =>
    intro L e
    simp only [slidGo, pgaps]
    split <;> simp
  | cons x ks ih =>
    intro L e
    cases L with
    | nil => simp only [slidGo, pgaps]; split <;> simp
    | cons n ls =>
      simp only [slidGo, pgaps, List.length_append]
      by_cases h : x ∈ pinned
      · rw [if_pos h, List.filter_cons_of_pos (by simpa using h)]
        have := ih ls (x + n)
        have h2 : (if e < x then [(⟨e, x - e⟩ : Rn)] else []).length ≤ 1 := by split <;> simp
        simp only [List.length_cons]
        omega
      · rw [if_neg h, List.filter_cons_of_neg (by simpa using h), if_neg (show ¬ e < e by omega)]
        have := ih ls (e + n)
        simp only [List.length_nil]
        omega
end Go.Proofs.Ytbmkbnalembbjaa

namespace Go.Proofs.Ytbmkbnalembbjaa
open Go.RowKit
structure ObV where
  t : Int
  A1 : Option Addr
  n1 : Nat
  c1 : Nat
  A2 : Option Addr
  n2 : Nat
  c2 : Nat
  f : Bool
def obvC (v : ObV) : List Value := [.int .i64 v.t, .slice v.A1 v.n1 v.c1, .slice v.A2 v.n2 v.c2, .bool v.f]
def ObR (w : World) (B : Nat) (o : Ob) (v : ObV) : Prop :=
  v.t = o.t ∧ v.f = o.f ∧ v.n1 ≤ v.c1 ∧ v.n2 ≤ v.c2 ∧ v.n1 = o.refs.length ∧ v.n2 = o.body.length ∧ Reads w B 1 v.A1 v.n1 (o.refs.map (.int .i64)) ∧ Reads w B 1 v.A2 v.n2 (o.body.map (.int .u64))
def ObO (w : World) (base : Nat) (o : Ob) (v : ObV) : Prop :=
  v.t = o.t ∧ v.f = o.f ∧ v.n1 = o.refs.length ∧ v.n2 = o.body.length ∧ w.ownsRow base 3 1 (.slice v.A1 v.n1 v.c1) v.n1 (o.refs.map (.int .i64)) ∧ w.ownsRow base 37 1 (.slice v.A2 v.n2 v.c2) v.n2 (o.body.map (.int .u64))
def ObsR (w : World) (B : Nat) (os : List Ob) (vs : List ObV) : Prop := os.length = vs.length ∧ ∀ (i : Nat) (o : Ob) (v : ObV), os[i]? = some o → vs[i]? = some v → ObR w B o v
def ObsO (w : World) (base : Nat) (os : List Ob) (vs : List ObV) : Prop := os.length = vs.length ∧ ∀ (i : Nat) (o : Ob) (v : ObV), os[i]? = some o → vs[i]? = some v → ObO w base o v
theorem ObR.keep {w w' : World} {B B' : Nat} {o : Ob} {v : ObV} (h : ObR w B o v) (hb : Below B w w') (hB : B ≤ B') : ObR w' B' o v := by
  obtain ⟨h1, h2, h3, h4, h5, h6, h7, h8⟩ := h
  exact ⟨h1, h2, h3, h4, h5, h6, (h7.below hb).more hB, (h8.below hb).more hB⟩
theorem ObsR.keep {w w' : World} {B B' : Nat} {os : List Ob} {vs : List ObV} (h : ObsR w B os vs) (hb : Below B w w') (hB : B ≤ B') : ObsR w' B' os vs :=
  ⟨h.1, fun i o v ho hv => (h.2 i o v ho hv).keep hb hB⟩
theorem ObO.reads {w : World} {base : Nat} {o : Ob} {v : ObV} (h : ObO w base o v) : ObR w w.heap.size o v := by
  obtain ⟨h1, h2, h3, h4, h5, h6⟩ := h
  exact ⟨h1, h2, own_cap h5, own_cap h6, h3, h4, Reads.of_own h5, Reads.of_own h6⟩
theorem ObsO.reads {w : World} {base : Nat} {os : List Ob} {vs : List ObV} (h : ObsO w base os vs) : ObsR w w.heap.size os vs :=
  ⟨h.1, fun i o v ho hv => (h.2 i o v ho hv).reads⟩
theorem ObsO.below {w w' : World} {base : Nat} {os : List Ob} {vs : List ObV} (h : ObsO w base os vs) (hb : Below w.heap.size w w') : ObsO w' base os vs :=
  ⟨h.1, fun i o v ho hv => by
    obtain ⟨h1, h2, h3, h4, h5, h6⟩ := h.2 i o v ho hv
    exact ⟨h1, h2, h3, h4, own_below h5 hb, own_below h6 hb⟩⟩
theorem ObsO.mono {w : World} {base base' : Nat} {os : List Ob} {vs : List ObV} (h : ObsO w base' os vs) (hb : base ≤ base') : ObsO w base os vs :=
  ⟨h.1, fun i o v ho hv => by
    obtain ⟨h1, h2, h3, h4, h5, h6⟩ := h.2 i o v ho hv
    exact ⟨h1, h2, h3, h4, own_mono h5 hb, own_mono h6 hb⟩⟩
theorem own_types {w : World} {base base' size size' n n' : Nat} {e e' : TypeId} {v v' : Value} {xs xs' : List Value} (h : w.ownsRow base e size v n xs) (h' : w.ownsRow base' e' size' v' n' xs') (hne : e ≠ e') {g : Nat} (hg : v.ownBlock = some g) : v'.ownBlock ≠ some g := by
  intro hg'
  rcases h.2 with ⟨rfl, _⟩ | ⟨g1, cap, cur, rfl, _, hh, _⟩
  · cases hg
  · rcases h'.2 with ⟨rfl, _⟩ | ⟨g2, cap2, cur2, rfl, _, hh2, _⟩
    · cases hg'
    · simp only [Value.ownBlock, Option.some.injEq] at hg hg'
      subst hg hg'
      rw [hh] at hh2
      injection hh2 with hh2
      injection hh2 with _ ht
      exact hne ht
theorem ObsO.grown {w w' : World} {base base' size n : Nat} {e : TypeId} {v0 : Value} {xs : List Value} {os : List Ob} {vs : List ObV} (h : ObsO w base os vs) (ho : w.ownsRow base' e size v0 n xs) (hg : w.grownBy w' v0.ownBlock) (h1 : e ≠ 3) (h2 : e ≠ 37) : ObsO w' base os vs :=
  ⟨h.1, fun i o v ho' hv => by
    obtain ⟨a1, a2, a3, a4, a5, a6⟩ := h.2 i o v ho' hv
    exact ⟨a1, a2, a3, a4, own_grown a5 hg (fun g hg' => own_types a5 ho h1.symm hg'), own_grown a6 hg (fun g hg' => own_types a6 ho h2.symm hg')⟩⟩
end Go.Proofs.Ytbmkbnalembbjaa

namespace Go.Proofs.Ytbmkbnalembbjaa
open Go.RowKit
def idxL (L : List Int) (y : Int) : Int := ixOf (fun x => y == x) L
def formO (a : List Int) (S : List Spot) (L : List Int) (x : Int) : Ob :=
  match spotAt S x with | some s => ⟨s.t, (refsOf a s).map (fun v => idxL L (v - 1)), bodyOf a s, s.f⟩ | none => ⟨0, [], [], false⟩
def FormIs (a f : List Int) (os : List Ob) (fr : List Int) : Prop :=
  ∃ L, Ordered a (spotsL a) f L ∧ os = L.map (formO a (spotsL a) L) ∧ fr = f.map (idxL L)
theorem FormIs.unique {a f : List Int} {os os' : List Ob} {fr fr' : List Int} (h : FormIs a f os fr) (h' : FormIs a f os' fr') : os = os' ∧ fr = fr' := by
  obtain ⟨L, h1, h2, h3⟩ := h
  obtain ⟨L', h1', h2', h3'⟩ := h'
  have e : L = L' := bfsL_unique h1.fn h1'.fn
  subst e
  exact ⟨h2.trans h2'.symm, h3.trans h3'.symm⟩
theorem ObsO.far {w : World} {base : Nat} {os : List Ob} {vs : List ObV} (h : ObsO w base os vs) {p : Addr} (hp : p.block < base) (u : Value) : ObsO (w.setCell p u) base os vs :=
  ⟨h.1, fun i o v ho hv => by
    obtain ⟨h1, h2, h3, h4, h5, h6⟩ := h.2 i o v ho hv
    exact ⟨h1, h2, h3, h4, own_far h5 hp u, own_far h6 hp u⟩⟩
theorem ObsO.apart {w w' : World} {base : Nat} {os : List Ob} {vs : List ObV} {row : Option Nat} (h : ObsO w base os vs) (hg : w.grownBy w' row) (hne : ∀ v ∈ vs, ∀ g, ((Value.slice v.A1 v.n1 v.c1).ownBlock = some g ∨ (Value.slice v.A2 v.n2 v.c2).ownBlock = some g) → row ≠ some g) : ObsO w' base os vs :=
  ⟨h.1, fun i o v ho hv => by
    obtain ⟨h1, h2, h3, h4, h5, h6⟩ := h.2 i o v ho hv
    have hm := List.mem_of_getElem? hv
    exact ⟨h1, h2, h3, h4, own_grown h5 hg (fun g hg' => hne v hm g (.inl hg')), own_grown h6 hg (fun g hg' => hne v hm g (.inr hg'))⟩⟩
theorem ObsO.drew {w : World} {base : Nat} {os : List Ob} {vs : List ObV} (h : ObsO w base os vs) : ObsO w.drew base os vs :=
  ⟨h.1, fun i o v ho hv => by
    obtain ⟨h1, h2, h3, h4, h5, h6⟩ := h.2 i o v ho hv
    exact ⟨h1, h2, h3, h4, h5.drew, h6.drew⟩⟩
end Go.Proofs.Ytbmkbnalembbjaa

namespace Go.Proofs.Ytbmkbnalembbjaa
open Go.RowKit
def refT (φ : Int → Int) (v : Int) : Int := if v = 0 then 0 else φ (v - 1) + 1
structure Iso (a b L : List Int) (φ : Int → Int) : Prop where
  nn : ∀ x ∈ L, 0 ≤ φ x
  inj : ∀ x ∈ L, ∀ y ∈ L, φ x = φ y → x = y
  at_ : ∀ x ∈ L, ∀ s, spotAt (spotsL a) x = some s → ∃ s', spotAt (spotsL b) (φ x) = some s' ∧ s'.r = s.r ∧ s'.b = s.b ∧ s'.t = s.t ∧ bodyOf b s' = bodyOf a s ∧ refsOf b s' = (refsOf a s).map (refT φ)
structure ClosedL (a L : List Int) : Prop where
  begs : ∀ x ∈ L, x ∈ begsL (spotsL a)
  closed : ∀ x ∈ L, ∀ y ∈ linksAt a (spotsL a) x, y ∈ L
  nn : ∀ x ∈ L, 0 ≤ x
theorem linksT {φ : Int → Int} : ∀ (l : List Int), (∀ v ∈ l, v ≠ 0 → 0 ≤ φ (v - 1)) → (((l.map (refT φ)).filter fun v => v != 0).map fun v => v - 1) = ((l.filter fun v => v != 0).map fun v => v - 1).map φ := by
  intro l
  induction l with
  | nil => intro _; rfl
  | cons v l ih =>
    intro h
    have ih' := ih (fun u hu => h u (List.mem_cons_of_mem _ hu))
    rw [List.map_cons]
    by_cases h0 : v = 0
    · have e : refT φ v = 0 := by unfold refT; rw [if_pos h0]
      rw [e, List.filter_cons_of_neg (by simp), List.filter_cons_of_neg (by simp [h0])]
      exact ih'
    · have e : refT φ v = φ (v - 1) + 1 := by unfold refT; rw [if_neg h0]
      have hp := h v List.mem_cons_self h0
      rw [e, List.filter_cons_of_pos (by simp; omega), List.filter_cons_of_pos (by simp [h0]), List.map_cons, List.map_cons, List.map_cons, ih']
      congr 1
      omega
section
variable {a b L : List Int} {φ : Int → Int}
theorem Iso.link_of (hC : ClosedL a L) {x : Int} (hx : x ∈ L) {s : Spot} (hs : spotAt (spotsL a) x = some s) : ∀ v ∈ refsOf a s, v ≠ 0 → v - 1 ∈ L := fun v hv h0 => by
  refine hC.closed x hx (v - 1) ?_
  unfold linksAt
  rw [hs]
  exact List.mem_map.2 ⟨v, List.mem_filter.2 ⟨hv, by simpa using h0⟩, rfl⟩
theorem Iso.links (h : Iso a b L φ) (hC : ClosedL a L) {x : Int} (hx : x ∈ L) : linksAt b (spotsL b) (φ x) = (linksAt a (spotsL a) x).map φ := by
  obtain ⟨s, hs⟩ := begsL_iff.1 (hC.begs x hx)
  obtain ⟨s', hs', -, -, -, -, hr⟩ := h.at_ x hx s hs
  unfold linksAt
  rw [hs, hs']
  show linksL b s' = (linksL a s).map φ
  unfold linksL
  rw [hr]
  exact linksT _ (fun v hv h0 => h.nn _ (Iso.link_of hC hx hs v hv h0))
theorem Iso.addL (h : Iso a b L φ) {out : List Int} (ho : ∀ y ∈ out, y ∈ L) {x : Int} (hx : x ∈ L) : addL (out.map φ) (φ x) = (addL out x).map φ := by
  unfold Proofs.Ytbmkbnalembbjaa.addL
  by_cases hm : x ∈ out
  · rw [if_pos hm, if_pos (List.mem_map.2 ⟨x, hm, rfl⟩)]
  · rw [if_neg hm, if_neg (fun hh => by
      obtain ⟨y, hy, e⟩ := List.mem_map.1 hh
      exact hm (h.inj y (ho y hy) x hx e ▸ hy)), List.map_append]
    rfl
theorem Iso.addL_in {out : List Int} (ho : ∀ y ∈ out, y ∈ L) {x : Int} (hx : x ∈ L) : ∀ y ∈ Proofs.Ytbmkbnalembbjaa.addL out x, y ∈ L := fun y hy => by
  rcases addL_mem hy with h1 | rfl
  · exact ho y h1
  · exact hx
theorem Iso.fold (h : Iso a b L φ) : ∀ (l out : List Int), (∀ y ∈ out, y ∈ L) → (∀ y ∈ l, y ∈ L) → (l.map φ).foldl Proofs.Ytbmkbnalembbjaa.addL (out.map φ) = (l.foldl Proofs.Ytbmkbnalembbjaa.addL out).map φ ∧ ∀ y ∈ l.foldl Proofs.Ytbmkbnalembbjaa.addL out, y ∈ L
  | [], out, ho, _ => ⟨rfl, ho⟩
  | x :: l, out, ho, hl => by
    have hx := hl x List.mem_cons_self
    have ih := Iso.fold h l (Proofs.Ytbmkbnalembbjaa.addL out x) (Iso.addL_in ho hx) (fun y hy => hl y (List.mem_cons_of_mem _ hy))
    rw [List.map_cons, List.foldl_cons, List.foldl_cons, h.addL ho hx]
    exact ih
theorem Iso.bfs (h : Iso a b L φ) (hC : ClosedL a L) {f : List Int} (hf : ∀ y ∈ f, y ∈ L) : ∀ n, bfsL b (spotsL b) (f.map φ) n = (bfsL a (spotsL a) f n).map φ ∧ ∀ y ∈ bfsL a (spotsL a) f n, y ∈ L
  | 0 => by
    have := h.fold f [] (fun y hy => by cases hy) hf
    exact this
  | n + 1 => by
    obtain ⟨i1, i2⟩ := Iso.bfs h hC hf n
    show (match (bfsL b (spotsL b) (f.map φ) n)[n]? with | some x => (linksAt b (spotsL b) x).foldl Proofs.Ytbmkbnalembbjaa.addL (bfsL b (spotsL b) (f.map φ) n) | none => bfsL b (spotsL b) (f.map φ) n) = _ ∧ ∀ y ∈ (match (bfsL a (spotsL a) f n)[n]? with | some x => (linksAt a (spotsL a) x).foldl Proofs.Ytbmkbnalembbjaa.addL (bfsL a (spotsL a) f n) | none => bfsL a (spotsL a) f n), y ∈ L
    rw [i1, List.getElem?_map]
    have e : bfsL a (spotsL a) f (n + 1) = (match (bfsL a (spotsL a) f n)[n]? with | some x => (linksAt a (spotsL a) x).foldl Proofs.Ytbmkbnalembbjaa.addL (bfsL a (spotsL a) f n) | none => bfsL a (spotsL a) f n) := rfl
    rw [e]
    cases hx : (bfsL a (spotsL a) f n)[n]? with
    | none => exact ⟨rfl, i2⟩
    | some x =>
      have hxL := i2 x (List.mem_of_getElem? hx)
      simp only [Option.map_some]
      rw [h.links hC hxL]
      exact h.fold _ _ i2 (hC.closed x hxL)
theorem idxL_map (h : Iso a b L φ) {M : List Int} (hM : ∀ y ∈ M, y ∈ L) {y : Int} (hy : y ∈ L) : idxL (M.map φ) (φ y) = idxL M y := by
  unfold idxL ixOf
  rw [List.findIdx?_map]
  have e : M.findIdx? ((fun x => φ y == x) ∘ φ) = M.findIdx? (fun x => y == x) := by
    revert hM
    induction M with
    | nil => intro _; rfl
    | cons m M ih =>
      intro hM
      have hm := hM m List.mem_cons_self
      rw [List.findIdx?_cons, List.findIdx?_cons, ih (fun z hz => hM z (List.mem_cons_of_mem _ hz))]
      have e : ((fun x => φ y == x) ∘ φ) m = (y == m) := by
        show (φ y == φ m) = (y == m)
        rw [Bool.eq_iff_iff, beq_iff_eq, beq_iff_eq]
        exact ⟨fun e => h.inj y hy m hm e, fun e => by rw [e]⟩
      rw [e]
  rw [e]
theorem idxL_neg {M : List Int} (hM : ∀ y ∈ M, 0 ≤ y) : idxL M (-1) = -1 := ixOf_none (fun x hx => by have := hM x hx; simp; omega)
theorem form_iso (h : Iso a b L φ) (hC : ClosedL a L) {f : List Int} (hf : ∀ y ∈ f, y ∈ L) {os os' : List Ob} {fr fr' : List Int} (hF : FormIs a f os fr) (hF' : FormIs b (f.map φ) os' fr') : os = os' ∧ fr = fr' := by
  obtain ⟨M, h1, rfl, rfl⟩ := hF
  obtain ⟨M', h1', rfl, rfl⟩ := hF'
  have hb := h.bfs hC hf M.length
  have hM : ∀ y ∈ M, y ∈ L := fun y hy => hb.2 y (h1.fn ▸ hy)
  have e : M' = M.map φ := by
    refine bfsL_unique h1'.fn ?_
    rw [List.length_map, hb.1, ← h1.fn]
  subst e
  constructor
  · rw [List.map_map]
    refine List.map_congr_left (fun x hx => ?_)
    have hxL := hM x hx
    obtain ⟨s, hs⟩ := begsL_iff.1 (hC.begs x hxL)
    obtain ⟨s', hs', e1, e2, e3, e4, e5⟩ := h.at_ x hxL s hs
    show formO a (spotsL a) M x = formO b (spotsL b) (M.map φ) (φ x)
    unfold formO
    rw [hs, hs']
    dsimp only
    rw [e3, e4, e5, (spotAt_some hs).2.1, (spotAt_some hs').2.1, List.map_map]
    congr 1
    refine List.map_congr_left (fun v hv => ?_)
    show idxL M (v - 1) = idxL (M.map φ) (refT φ v - 1)
    by_cases h0 : v = 0
    · subst h0
      have e6 : refT φ 0 = 0 := rfl
      rw [e6]
      show idxL M (-1) = idxL (M.map φ) (-1)
      rw [idxL_neg (fun y hy => hC.nn y (hM y hy)), idxL_neg (fun y hy => by
        obtain ⟨z, hz, rfl⟩ := List.mem_map.1 hy
        exact h.nn z (hM z hz))]
    · have e6 : refT φ v - 1 = φ (v - 1) := by unfold refT; rw [if_neg h0]; omega
      rw [e6, idxL_map h hM (Iso.link_of hC hxL hs v hv h0)]
  · rw [List.map_map]
    refine List.map_congr_left (fun x hx => ?_)
    exact (idxL_map h hM (hf x hx)).symm
end
theorem spotsFrom_app : ∀ (cs ds : List Chk) (i : Nat), spotsFrom i (cs ++ ds) = spotsFrom i cs ++ spotsFrom (i + (chunksW cs).length) ds
  | [], ds, i => by simp [spotsFrom, chunksW]
  | c :: cs, ds, i => by
    rw [List.cons_append, chunksW_cons, List.length_append, chkW_length]
    simp only [spotsFrom]
    rw [spotsFrom_app cs ds, List.cons_append, Nat.add_assoc]
theorem spotsFrom_low : ∀ (cs : List Chk) (i : Nat), ∀ s ∈ spotsFrom i cs, (i : Int) ≤ s.loc ∧ s.loc < i + (chunksW cs).length
  | [], i => by simp [spotsFrom]
  | c :: cs, i => by
    intro s hs
    rw [chunksW_cons, List.length_append, chkW_length]
    have hp : 1 ≤ c.len := by unfold Chk.len; omega
    simp only [spotsFrom, List.mem_cons] at hs
    rcases hs with rfl | hs
    · simp only [Chk.spot]; omega
    · have := spotsFrom_low cs (i + c.len) s hs
      omega
theorem split_at (pre suf : List Chk) (c : Chk) (hf : c.f = false) : spotAt (spotsFrom 0 (pre ++ c :: suf)) (chunksW pre).length = some (c.spot (chunksW pre).length) := by
  unfold spotAt
  rw [spotsFrom_app, List.find?_append]
  have h1 : (spotsFrom 0 pre).find? (isBeg (chunksW pre).length) = none := by
    rw [List.find?_eq_none]
    intro s hs
    have := spotsFrom_low pre 0 s hs
    simp only [isBeg, Bool.and_eq_true, beq_iff_eq, not_and]
    intro _
    omega
  rw [h1, Nat.zero_add]
  simp only [spotsFrom, Option.none_or]
  rw [List.find?_cons_of_pos]
  simp [isBeg, Chk.spot, hf]
theorem split_refs (pre suf : List Chk) (c : Chk) (hc : c.ok) : refsOf (chunksW (pre ++ c :: suf)) (c.spot (chunksW pre).length) = c.pay.take c.r.toNat ∧ bodyOf (chunksW (pre ++ c :: suf)) (c.spot (chunksW pre).length) = c.pay.drop c.r.toNat := by
  have hE := headE_ok.1 hc.1
  have hp := hc.2
  rw [chunksW_append, chunksW_cons, chkW]
  simp only [refsOf, bodyOf, Chk.spot, Int.toNat_natCast]
  constructor
  · rw [List.drop_append, List.drop_of_length_le (by omega), List.nil_append, show (chunksW pre).length + 1 - (chunksW pre).length = 1 by omega, List.cons_append, List.drop_succ_cons, List.drop_zero, List.take_append_of_le_length (by omega)]
  · rw [List.drop_append, List.drop_of_length_le (by omega), List.nil_append, show (chunksW pre).length + 1 + c.r.toNat - (chunksW pre).length = c.r.toNat + 1 by omega, List.cons_append, List.drop_succ_cons, List.drop_append_of_le_length (by omega), List.take_append_of_le_length (by rw [List.length_drop]; omega), List.take_of_length_le (by rw [List.length_drop]; omega)]
end Go.Proofs.Ytbmkbnalembbjaa
