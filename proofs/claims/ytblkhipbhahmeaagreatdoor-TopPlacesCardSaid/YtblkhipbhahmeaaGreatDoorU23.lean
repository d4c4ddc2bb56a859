/-
  Texts joined: LayLaw CarryLaw CarriesTrue CopyWf FormCopy PlacesLaw ConcatU64.
-/
import Derived.Test.YtblkhipbhahmeaaGreatDoorRows
import Derived.Lib.AppendZeros
import Derived.Deep.RegionHeld3
import Derived.StillTailTactics
import Derived.Test.YtblkhipbhahmeaaGreatDoorU0
import Derived.Test.YtblkhipbhahmeaaGreatDoorU3
import Derived.Test.YtblkhipbhahmeaaGreatDoorU4
import Derived.Test.YtblkhipbhahmeaaGreatDoorU5
import Derived.Test.YtblkhipbhahmeaaGreatDoorU6
import Derived.Test.YtblkhipbhahmeaaGreatDoorU7
import Derived.Test.YtblkhipbhahmeaaGreatDoorU9
import Derived.Test.YtblkhipbhahmeaaGreatDoorU17
namespace Go.Proofs.YtblkhipbhahmeaaGreatDoor
open Go.RowKit
def obLen (o : Ob) : Nat := 1 + o.refs.length + o.body.length
def totO : List Ob → Nat
 | [] => 0
 | o :: t => obLen o + totO t
def obE (o : Ob) : Int := headE o.refs.length o.body.length o.t o.f
def begO (os : List Ob) (k : Nat) : Nat := totO (os.take k)
def refP (os : List Ob) (k : Int) : Int := if k = -1 then 0 else (begO os k.toNat : Int) + 1
def obChk (os : List Ob) (o : Ob) : Chk := ⟨o.refs.length, o.body.length, o.t, o.f, o.refs.map (refP os) ++ o.body⟩
def refOkO (os : List Ob) (k : Int) : Prop := k = -1 ∨ (0 ≤ k ∧ ∃ o, os[k.toNat]? = some o ∧ o.f = false)
structure LayOk (os : List Ob) (N : Int) : Prop where
 lo : 0 ≤ N
 hi : N ≤ 256
 heads : ∀ o ∈ os, obE o = 0
 fit : (totO os : Int) ≤ N
 refs : ∀ o ∈ os, ∀ k ∈ o.refs, refOkO os k
def layCs (os : List Ob) (N : Nat) : List Chk := os.map (obChk os) ++ flushC (N - totO os)
def layW (os : List Ob) (N : Nat) : List Int := chunksW (layCs os N)
theorem totO_append (l m : List Ob) : totO (l ++ m) = totO l + totO m := by
 induction l with
 | nil => simp [totO]
 | cons o l ih => simp only [List.cons_append, totO, ih]; omega
theorem begO_le (os : List Ob) (k : Nat) : begO os k ≤ totO os := by
 have := totO_append (os.take k) (os.drop k)
 rw [List.take_append_drop] at this
 unfold begO
 omega
theorem begO_succ {os : List Ob} {k : Nat} {o : Ob} (h : os[k]? = some o) : begO os (k + 1) = begO os k + obLen o := by
 obtain ⟨h1, h2⟩ := List.getElem?_eq_some_iff.1 h
 unfold begO
 rw [List.take_succ_eq_append_getElem h1, totO_append, h2]
 simp [totO]
theorem totO_len (os : List Ob) : os.length ≤ totO os := by
 induction os with
 | nil => simp [totO]
 | cons o l ih => simp only [List.length_cons, totO, obLen]; omega
theorem obChk_len (os : List Ob) (o : Ob) : (obChk os o).len = obLen o := by
 unfold Chk.len obChk obLen
 simp only [List.length_append, List.length_map]
 omega
theorem lay_tot (os : List Ob) : ∀ l : List Ob, (chunksW (l.map (obChk os))).length = totO l
 | [] => rfl
 | o :: l => by
   rw [List.map_cons, chunksW_cons, List.length_append, chkW_length, obChk_len, lay_tot os l]
   rfl
def posC (cs : List Chk) (k : Nat) : Nat := (chunksW (cs.take k)).length
theorem spotsFrom_get {cs : List Chk} {k : Nat} {c : Chk} (h : cs[k]? = some c) : (spotsFrom 0 cs)[k]? = some (c.spot (posC cs k)) := by
 have hl : ∀ (l : List Chk) (i : Nat), (spotsFrom i l).length = l.length := by
  intro l
  induction l with
  | nil => intro i; rfl
  | cons d l ih => intro i; simp only [spotsFrom, List.length_cons, ih]
 obtain ⟨h1, h2⟩ := List.getElem?_eq_some_iff.1 h
 have e : cs = cs.take k ++ c :: cs.drop (k + 1) := by rw [← h2, ← List.drop_eq_getElem_cons h1, List.take_append_drop]
 conv => lhs; rw [e]
 rw [spotsFrom_app, List.getElem?_append_right (by rw [hl, List.length_take]; omega), hl, List.length_take, Nat.min_eq_left (by omega), Nat.sub_self, Nat.zero_add]
 rfl
theorem spotsFrom_len2 (cs : List Chk) : ∀ i, (spotsFrom i cs).length = cs.length := by
 induction cs with
 | nil => intro i; rfl
 | cons d l ih => intro i; simp only [spotsFrom, List.length_cons, ih]
theorem posC_lt {cs : List Chk} {j k : Nat} (h : j < k) (hk : k ≤ cs.length) : posC cs j < posC cs k := by
 have e : cs.take k = cs.take j ++ (cs.drop j).take (k - j) := by
  rw [show cs.take k = cs.take (j + (k - j)) by rw [show j + (k - j) = k by omega], List.take_add]
 unfold posC
 rw [e, chunksW_append, List.length_append]
 have : 0 < (chunksW ((cs.drop j).take (k - j))).length := by
  have hd : j < cs.length := by omega
  rw [List.drop_eq_getElem_cons hd, show k - j = (k - j - 1) + 1 by omega, List.take_succ_cons, chunksW_cons, List.length_append, chkW_length]
  unfold Chk.len
  omega
 omega
theorem place_get {cs : List Chk} {k : Nat} {c : Chk} (h : cs[k]? = some c) (hf : c.f = false) : placeF (spotsFrom 0 cs) (posC cs k + 1) = some (k : Int) := by
 have hk := (List.getElem?_eq_some_iff.1 h).1
 unfold placeF
 rw [if_neg (by omega)]
 have : (spotsFrom 0 cs).findIdx? (isPlace ((posC cs k : Int) + 1)) = some k := by
  rw [List.findIdx?_eq_some_iff_getElem]
  refine ⟨by rw [spotsFrom_len2]; exact hk, ?_, fun j hj => ?_⟩
  ·have := spotsFrom_get h
   obtain ⟨q1, q2⟩ := List.getElem?_eq_some_iff.1 this
   rw [q2]
   simp [isPlace, Chk.spot, hf]
  ·have hjl : j < cs.length := by omega
   have := spotsFrom_get (List.getElem?_eq_getElem hjl)
   obtain ⟨q1, q2⟩ := List.getElem?_eq_some_iff.1 this
   rw [q2]
   have := posC_lt (cs := cs) hj (by omega)
   simp [isPlace, Chk.spot]
   omega
 rw [this]
 rfl
theorem chunk_at {cs : List Chk} (hok : ∀ c ∈ cs, c.ok) {k : Nat} {c : Chk} (h : cs[k]? = some c) : refsOf (chunksW cs) (c.spot (posC cs k)) = c.pay.take c.r.toNat ∧ bodyOf (chunksW cs) (c.spot (posC cs k)) = c.pay.drop c.r.toNat := by
 obtain ⟨h1, h2⟩ := List.getElem?_eq_some_iff.1 h
 have e : cs = cs.take k ++ c :: cs.drop (k + 1) := by rw [← h2, ← List.drop_eq_getElem_cons h1, List.take_append_drop]
 have := split_refs (cs.take k) (cs.drop (k + 1)) c (hok c (List.mem_of_getElem? h))
 rw [← e] at this
 exact this
theorem obChk_ok {os : List Ob} {o : Ob} (h : obE o = 0) : (obChk os o).ok := by
 refine ⟨h, ?_⟩
 simp only [obChk, List.length_append, List.length_map]
 omega
theorem layCs_get {os : List Ob} {N k : Nat} {o : Ob} (h : os[k]? = some o) : (layCs os N)[k]? = some (obChk os o) ∧ posC (layCs os N) k = begO os k := by
 have hk := (List.getElem?_eq_some_iff.1 h).1
 unfold layCs posC begO
 rw [List.getElem?_append_left (by rw [List.length_map]; exact hk), List.getElem?_map, h, List.take_append_of_le_length (by rw [List.length_map]; omega), ← List.map_take, lay_tot]
 exact ⟨rfl, rfl⟩
theorem layCs_ok {os : List Ob} {N : Nat} (h : LayOk os N) : ∀ c ∈ layCs os N, c.ok := by
 intro c hc
 rcases List.mem_append.1 hc with hc | hc
 ·obtain ⟨o, ho, rfl⟩ := List.mem_map.1 hc
  exact obChk_ok (h.heads o ho)
 ·unfold flushC at hc
  split at hc
  ·cases hc
  ·rename_i h0
   obtain rfl := List.mem_singleton.1 hc
   have := h.hi
   exact freeC_ok h0 (by omega)
theorem layW_length {os : List Ob} {N : Nat} (h : LayOk os N) : (layW os N).length = N := by
 have := h.fit
 unfold layW layCs
 rw [chunksW_append, List.length_append, lay_tot, flushC_length]
 omega
def restO (os : List Ob) (N : Nat) : List Ob := if totO os < N then [⟨0, [], List.replicate (N - totO os - 1) 0, true⟩] else []
theorem lay_objects {os : List Ob} {N : Nat} (h : LayOk os N) : checkE (layW os N) = 0 ∧ spotsL (layW os N) = spotsFrom 0 (layCs os N) ∧ (spotsL (layW os N)).map (obOf (layW os N) (spotsL (layW os N))) = os ++ restO os N := by
 have hok := layCs_ok h
 have hlen := layW_length h
 have hfit := h.fit
 have hhi := h.hi
 obtain ⟨hs0, hsp⟩ := chunks_spots hok (by show (layW os N).length ≤ 256; rw [hlen]; omega)
 have hsp' : spotsL (layW os N) = spotsFrom 0 (layCs os N) := hsp
 have hplace : ∀ k, refOkO os k → placeF (spotsFrom 0 (layCs os N)) (refP os k) = some k := by
  intro k hk
  rcases hk with rfl | ⟨h0, o, ho, hf⟩
  ·rfl
  ·obtain ⟨g1, g2⟩ := layCs_get (N := N) ho
   have := place_get g1 hf
   unfold refP
   rw [if_neg (by omega), ← g2, this]
   congr 1
   omega
 refine ⟨?_, hsp', ?_⟩
 ·show checkE (chunksW (layCs os N)) = 0
  rw [checkE_chunks hok (by show (layW os N).length ≤ 256; rw [hlen]; omega)]
  intro c hc v hv
  rcases List.mem_append.1 hc with hc | hc
  ·obtain ⟨o, ho, rfl⟩ := List.mem_map.1 hc
   have e : (obChk os o).pay.take (obChk os o).r.toNat = o.refs.map (refP os) := by
    simp only [obChk, Int.toNat_natCast]
    rw [List.take_append_of_le_length (by rw [List.length_map]; exact Nat.le_refl _), List.take_of_length_le (by rw [List.length_map]; exact Nat.le_refl _)]
   rw [e] at hv
   obtain ⟨k, hk, rfl⟩ := List.mem_map.1 hv
   have hp := hplace k (h.refs o ho k hk)
   have : (placeF (spotsFrom 0 (layCs os N)) (refP os k)).isSome = true := by rw [hp]; rfl
   rcases placeC_some.1 this with h1 | h1
   ·exact .inl h1
   ·right
    rwa [starts_mem] at h1
  ·unfold flushC at hc
   split at hc
   ·cases hc
   ·obtain rfl := List.mem_singleton.1 hc
    simp [freeC] at hv
 ·rw [hsp']
  refine List.ext_getElem? (fun k => ?_)
  rw [List.getElem?_map]
  by_cases hk : k < os.length
  ·have ho : os[k]? = some os[k] := List.getElem?_eq_getElem hk
   obtain ⟨g1, g2⟩ := layCs_get (N := N) ho
   rw [spotsFrom_get g1, List.getElem?_append_left hk, ho, Option.map_some]
   congr 1
   obtain ⟨r1, r2⟩ := chunk_at hok g1
   unfold obOf
   have e1 : refIx (spotsFrom 0 (layCs os N)) (layW os N) ((obChk os os[k]).spot (posC (layCs os N) k)) = os[k].refs := by
    unfold refIx layW
    rw [r1]
    have e : (obChk os os[k]).pay.take (obChk os os[k]).r.toNat = os[k].refs.map (refP os) := by
     simp only [obChk, Int.toNat_natCast]
     rw [List.take_append_of_le_length (by rw [List.length_map]; exact Nat.le_refl _), List.take_of_length_le (by rw [List.length_map]; exact Nat.le_refl _)]
    rw [e, List.map_map]
    conv => rhs; rw [← List.map_id os[k].refs]
    refine List.map_congr_left (fun j hj => ?_)
    show (placeF _ (refP os j)).getD 0 = j
    rw [hplace j (h.refs _ (List.getElem_mem hk) j hj)]
    rfl
   have e2 : bodyOf (layW os N) ((obChk os os[k]).spot (posC (layCs os N) k)) = os[k].body := by
    unfold layW
    rw [r2]
    simp only [obChk, Int.toNat_natCast]
    rw [List.drop_append, List.drop_of_length_le (by rw [List.length_map]; exact Nat.le_refl _), List.length_map, Nat.sub_self]
    rfl
   rw [e1, e2]
   rfl
  ·rw [List.getElem?_append_right (by omega)]
   unfold restO
   by_cases hlt : totO os < N
   ·rw [if_pos hlt]
    have hfl : flushC (N - totO os) = [freeC (N - totO os)] := by unfold flushC; rw [if_neg (by omega)]
    have hcl : (layCs os N).length = os.length + 1 := by unfold layCs; rw [hfl, List.length_append, List.length_map]; rfl
    by_cases hk2 : k = os.length
    ·subst hk2
     have g1 : (layCs os N)[os.length]? = some (freeC (N - totO os)) := by
      unfold layCs
      rw [List.getElem?_append_right (by rw [List.length_map]; exact Nat.le_refl _), List.length_map, Nat.sub_self, hfl]
      rfl
     rw [spotsFrom_get g1, Option.map_some, Nat.sub_self, List.getElem?_cons_zero]
     congr 1
     obtain ⟨r1, r2⟩ := chunk_at hok g1
     unfold obOf
     have e1 : refIx (spotsFrom 0 (layCs os N)) (layW os N) ((freeC (N - totO os)).spot (posC (layCs os N) os.length)) = [] := by
      unfold refIx layW
      rw [r1]
      simp [freeC]
     have e2 : bodyOf (layW os N) ((freeC (N - totO os)).spot (posC (layCs os N) os.length)) = List.replicate (N - totO os - 1) 0 := by
      unfold layW
      rw [r2]
      simp [freeC]
     rw [e1, e2]
     rfl
    ·rw [List.getElem?_eq_none (by rw [spotsFrom_len2, hcl]; omega), List.getElem?_eq_none (by simp only [List.length_singleton]; omega)]
     rfl
   ·rw [if_neg hlt]
    have hfl : flushC (N - totO os) = [] := by unfold flushC; rw [if_pos (by omega)]
    rw [List.getElem?_eq_none (by rw [spotsFrom_len2]; unfold layCs; rw [hfl, List.length_append, List.length_map]; simp only [List.length_nil]; omega), List.getElem?_eq_none (by simp)]
    rfl
def sumsY (S : List Spot) : Int → List Int → List Int
 | _, [] => []
 | e, x :: t => e :: sumsY S (e + longW S x) t
theorem sumsY_length (S : List Spot) : ∀ (O : List Int) (e : Int), (sumsY S e O).length = O.length
 | [], _ => rfl
 | x :: t, e => by simp only [sumsY, List.length_cons]; rw [sumsY_length S t]
theorem sumsY_at (S : List Spot) : ∀ (O : List Int) (e : Int) (j : Nat), j < O.length → (sumsY S e O)[j]? = some (e + longsL S (O.take j))
 | x :: t, e, 0, _ => by simp [sumsY, longsL]
 | x :: t, e, j + 1, h => by
   simp only [sumsY, List.getElem?_cons_succ, List.take_succ_cons, longsL]
   rw [sumsY_at S t (e + longW S x) j (by simpa using h)]
   congr 1
   omega
theorem longsL_append (S : List Spot) (l m : List Int) : longsL S (l ++ m) = longsL S l + longsL S m := by
 induction l with
 | nil => simp [longsL]
 | cons x l ih => simp only [List.cons_append, longsL, ih]; omega
theorem longsL_perm (S : List Spot) {l m : List Int} (h : l.Perm m) : longsL S l = longsL S m := by
 induction h with
 | nil => rfl
 | cons x _ ih => simp only [longsL, ih]
 | swap x y l => simp only [longsL]; omega
 | trans _ _ ih1 ih2 => exact ih1.trans ih2
theorem longsL_nn {S : List Spot} {l : List Int} (h : ∀ x ∈ l, 0 ≤ longW S x) : 0 ≤ longsL S l := by
 induction l with
 | nil => simp [longsL]
 | cons x l ih =>
   have := h x List.mem_cons_self
   have := ih (fun y hy => h y (List.mem_cons_of_mem _ hy))
   simp only [longsL]
   omega
theorem longsL_take {S : List Spot} {l : List Int} (h : ∀ x ∈ l, 0 ≤ longW S x) (j : Nat) : 0 ≤ longsL S (l.take j) ∧ longsL S (l.take j) ≤ longsL S l := by
 have h1 := longsL_append S (l.take j) (l.drop j)
 rw [List.take_append_drop] at h1
 have h2 := longsL_nn (S := S) (l := l.take j) (fun x hx => h x (List.mem_of_mem_take hx))
 have h3 := longsL_nn (S := S) (l := l.drop j) (fun x hx => h x (List.mem_of_mem_drop hx))
 omega
theorem rows_sums {a : List Int} {φ : Int → Int} (N : Nat) : ∀ (keep : List Int) (e : Nat), (∀ x ∈ keep, (rowAt a φ x).ok ∧ (rowAt a φ x).f = false ∧ ((rowAt a φ x).len : Int) = longW (spotsL a) x) → e + longsL (spotsL a) keep ≤ N →
  RowsOk N e (List.zipWith (fun x y => (y.toNat, rowAt a φ x)) keep (sumsY (spotsL a) e keep)) ∧ ysOf (List.zipWith (fun x y => (y.toNat, rowAt a φ x)) keep (sumsY (spotsL a) e keep)) = sumsY (spotsL a) e keep ∧
   lensOf (List.zipWith (fun x y => (y.toNat, rowAt a φ x)) keep (sumsY (spotsL a) e keep)) = keep.map (longW (spotsL a)) ∧
   laidC N e (List.zipWith (fun x y => (y.toNat, rowAt a φ x)) keep (sumsY (spotsL a) e keep)) = keep.map (rowAt a φ) ++ flushC (N - (e + longsL (spotsL a) keep).toNat) := by
 intro keep
 induction keep with
 | nil => intro e _ h; refine ⟨by simp only [longsL] at h; show e ≤ N; omega, rfl, rfl, ?_⟩
          show flushC (N - e) = [] ++ flushC (N - ((e : Int) + 0).toNat)
          rw [List.nil_append]
          congr 1
 | cons x ks ih =>
   intro e hrow h
   obtain ⟨r1, r2, r3⟩ := hrow x List.mem_cons_self
   have hle : ∀ (l : List Int), (∀ x ∈ l, x ∈ ks) → 0 ≤ longsL (spotsL a) l := fun l hl => longsL_nn (fun x hx => by have := (hrow x (List.mem_cons_of_mem _ (hl x hx))).2.2; omega)
   have := hle ks (fun _ h => h)
   simp only [longsL] at h
   obtain ⟨i1, i2, i3, i4⟩ := ih (e + (rowAt a φ x).len) (fun y hy => hrow y (List.mem_cons_of_mem _ hy)) (by omega)
   simp only [sumsY]
   rw [show (e : Int) + longW (spotsL a) x = ((e + (rowAt a φ x).len : Nat) : Int) by omega, List.zipWith_cons_cons]
   simp only [ysOf, lensOf] at i2 i3 ⊢
   rw [List.map_cons, List.map_cons, i2, i3, Int.toNat_natCast]
   refine ⟨⟨Nat.le_refl _, r1, r2, i1⟩, rfl, ?_, ?_⟩
   ·rw [List.map_cons, r3]
   ·simp only [laidC]
    rw [i4, Nat.sub_self]
    have e1 : flushC 0 = [] := rfl
    rw [e1, List.nil_append, List.map_cons, List.cons_append]
    congr 3
    simp only [longsL]
    omega
theorem pgaps_sums (S : List Spot) (N : Int) : ∀ (keep : List Int) (e : Int), pgaps N e (sumsY S e keep) (keep.map (longW S)) = if e + longsL S keep < N then [⟨e + longsL S keep, N - (e + longsL S keep)⟩] else []
 | [], e => by simp only [sumsY, List.map_nil, pgaps, longsL, Int.add_zero]
 | x :: t, e => by
   simp only [sumsY, List.map_cons, pgaps, longsL]
   rw [if_neg (by omega), List.nil_append, pgaps_sums S N t (e + longW S x), show e + longW S x + longsL S t = e + (longW S x + longsL S t) by omega]
   rfl
theorem ordered_closed {a f O : List Int} (h0 : checkE a = 0) (h : Ordered a (spotsL a) f O) : ClosedL a O :=
 ⟨h.search.begs, fun x hx y hy => by
   obtain ⟨k, hk⟩ := List.mem_iff_getElem?.1 hx
   exact h.search.seen k x (List.getElem?_eq_some_iff.1 hk).1 hk y hy, fun x hx => (begsL_bounds (checkE_ok.1 h0).1 x (h.search.begs x hx)).1⟩
structure CopyIs (a f : List Int) (N : Nat) (O Y b : List Int) : Prop where
 check : checkE a = 0
 ordered : Ordered a (spotsL a) f O
 fit : longsL (spotsL a) O ≤ N
 le : N ≤ 256
 y : Y = sumsY (spotsL a) 0 O
 b : b = chunksW (laidC N 0 (rowsOf a O Y))
structure Copied (a f : List Int) (N : Nat) (O Y b : List Int) : Prop where
 laid : LaidOk a O Y b N
 closed : ClosedL a O
 rows : RowsOk N 0 (rowsOf a O Y)
 nodup : O.Nodup
 len : Y.length = O.length
 nn : ∀ y ∈ Y, 0 ≤ y
 lenO : O.length ≤ 256
 gaps : gapsL (spotsL b) = if longsL (spotsL a) O < N then [⟨longsL (spotsL a) O, N - longsL (spotsL a) O⟩] else []
 words : b = O.flatMap (fun x => chkW (rowAt a (posL O Y) x)) ++ chunksW (flushC (N - (longsL (spotsL a) O).toNat))
theorem copied_of {a f O Y b : List Int} {N : Nat} (h : CopyIs a f N O Y b) : Copied a f N O Y b := by
 obtain ⟨h1, h2, h3, h4, rfl, rfl⟩ := h
 have h0 := (checkE_ok.1 h1).1
 have hC := ordered_closed h1 h2
 have hmem := parse_mem (parse_ok h0).2
 have hrow : ∀ (φ : Int → Int), ∀ x ∈ O, (rowAt a φ x).ok ∧ (rowAt a φ x).f = false ∧ ((rowAt a φ x).len : Int) = longW (spotsL a) x := by
  intro φ x hx
  obtain ⟨s, hs⟩ := begsL_iff.1 (hC.begs x hx)
  obtain ⟨g1, g2, -⟩ := spotAt_some hs
  obtain ⟨k1, k2, -, -⟩ := kC_ok φ (hmem s g1).1 g2
  rw [rowAt_some hs]
  refine ⟨k1, rfl, ?_⟩
  unfold longW
  rw [hs]
  exact k2
 have hw : ∀ x ∈ O, 0 ≤ longW (spotsL a) x := fun x hx => by have := (hrow id x hx).2.2; omega
 have hl := sumsY_length (spotsL a) O 0
 have hnn : ∀ y ∈ sumsY (spotsL a) 0 O, 0 ≤ y := fun y hy => by
  obtain ⟨j, hj⟩ := List.mem_iff_getElem?.1 hy
  have hjl := (List.getElem?_eq_some_iff.1 hj).1
  rw [hl] at hjl
  rw [sumsY_at _ _ _ _ hjl] at hj
  have := (longsL_take hw j).1
  have := Option.some.inj hj
  omega
 obtain ⟨r1, r2, r3, r4⟩ := rows_sums (a := a) (φ := posL O (sumsY (spotsL a) 0 O)) N O 0 (hrow _) (by simpa using h3)
 have hL := laid_ok h0 hC h2.search.once hl h4 hnn r1
 refine ⟨hL, hC, r1, h2.search.once, hl, hnn, ?_, ?_, ?_⟩
 ·exact nodup_bound 256 O h2.search.once (fun x hx => begsL_bounds h0 x (hC.begs x hx))
 ·have := hL.gaps
  rw [this]
  unfold rowsOf
  have e := pgaps_sums (spotsL a) N O 0
  simp only [Int.zero_add] at e
  rw [← e]
  have r2' : ysOf (List.zipWith (fun x y => (y.toNat, rowAt a (posL O (sumsY (spotsL a) 0 O)) x)) O (sumsY (spotsL a) 0 O)) = sumsY (spotsL a) 0 O := r2
  have r3' : lensOf (List.zipWith (fun x y => (y.toNat, rowAt a (posL O (sumsY (spotsL a) 0 O)) x)) O (sumsY (spotsL a) 0 O)) = O.map (longW (spotsL a)) := r3
  rw [r2', r3']
 ·have r4' : laidC N 0 (rowsOf a O (sumsY (spotsL a) 0 O)) = O.map (rowAt a (posL O (sumsY (spotsL a) 0 O))) ++ flushC (N - ((0 : Nat) + longsL (spotsL a) O : Int).toNat) := r4
  rw [r4', chunksW_append, show ((0 : Nat) + longsL (spotsL a) O : Int).toNat = (longsL (spotsL a) O).toNat by omega]
  congr 1
  unfold chunksW
  rw [List.flatMap_map]
theorem Copied.form {a f O Y b : List Int} {N : Nat} (h : Copied a f N O Y b) (hf : ∀ x ∈ f, x ∈ O) {os os' : List Ob} {fr fr' : List Int} (h1 : FormIs a f os fr) (h2 : FormIs b (f.map (posL O Y)) os' fr') : os = os' ∧ fr = fr' :=
 form_iso h.laid.iso h.closed hf h1 h2
theorem Copied.alive {a f O Y b : List Int} {N : Nat} (h : Copied a f N O Y b) (hf : ∀ x ∈ f, x ∈ O) : ∀ x ∈ f.map (posL O Y), x ∈ begsL (spotsL b) := by
 intro x hx
 obtain ⟨z, hz, rfl⟩ := List.mem_map.1 hx
 have hzL := hf z hz
 obtain ⟨s, hs⟩ := begsL_iff.1 (h.closed.begs z hzL)
 obtain ⟨s', hs', -⟩ := h.laid.iso.at_ z hzL s hs
 exact begsL_iff.2 ⟨s', hs'⟩
def rawW (a : List Int) (x : Int) : List Int := chkW (rowAt a id x)
def newW (a : List Int) (φ : Int → Int) (x : Int) : List Int := chkW (rowAt a φ x)
def eJ (a O : List Int) (j : Nat) : Nat := (longsL (spotsL a) (O.take j)).toNat
structure CopyAt (a O : List Int) (φ : Int → Int) (j : Nat) (x : Int) (s : Spot) (i : Nat) : Prop where
 spot : spotAt (spotsL a) x = some s
 ix : atIx a x = i
 get : (spotsL a)[i]? = some s
 ok : SpotOk a s
 next : (eJ a O (j + 1) : Int) = eJ a O j + s.long
 raw : (O.take (j + 1)).flatMap (rawW a) = (O.take j).flatMap (rawW a) ++ (wordOf s.r s.b s.t s.f :: (refsOf a s ++ bodyOf a s))
 new : (O.take (j + 1)).flatMap (newW a φ) = (O.take j).flatMap (newW a φ) ++ (wordOf s.r s.b s.t s.f :: ((refsOf a s).map (refT φ) ++ bodyOf a s))
 rest : (O.drop j).flatMap (rawW a) = (wordOf s.r s.b s.t s.f :: (refsOf a s ++ bodyOf a s)) ++ (O.drop (j + 1)).flatMap (rawW a)
 links : ∀ v ∈ refsOf a s, v ≠ 0 → v - 1 ∈ O
theorem refT_id (v : Int) : refT id v = v := by
 unfold refT
 by_cases h : v = 0
 ·rw [if_pos h, h]
 ·rw [if_neg h]
  show v - 1 + 1 = v
  omega
theorem copy_facts {a O : List Int} (h0 : checkE a = 0) (hC : ClosedL a O) (φ : Int → Int) :
  (∀ j, ((O.take j).flatMap (rawW a)).length = eJ a O j ∧ ((O.take j).flatMap (newW a φ)).length = eJ a O j ∧ (eJ a O j : Int) = longsL (spotsL a) (O.take j) ∧ eJ a O j ≤ eJ a O O.length ∧ ((O.drop j).flatMap (rawW a)).length = eJ a O O.length - eJ a O j) ∧
  ∀ (j : Nat) (x : Int), O[j]? = some x → ∃ s i, CopyAt a O φ j x s i := by
 have h1 := (checkE_ok.1 h0).1
 have hmem := parse_mem (parse_ok h1).2
 have hrow : ∀ (φ : Int → Int), ∀ x ∈ O, ((chkW (rowAt a φ x)).length : Int) = longW (spotsL a) x := by
  intro φ x hx
  obtain ⟨s, hs⟩ := begsL_iff.1 (hC.begs x hx)
  obtain ⟨g1, g2, -⟩ := spotAt_some hs
  obtain ⟨k1, k2, -, -⟩ := kC_ok φ (hmem s g1).1 g2
  rw [rowAt_some hs, chkW_length]
  unfold longW
  rw [hs]
  exact k2
 have hw : ∀ x ∈ O, 0 ≤ longW (spotsL a) x := fun x hx => by have := hrow id x hx; omega
 have hfl : ∀ (φ : Int → Int) (l : List Int), (∀ x ∈ l, x ∈ O) → ((l.flatMap (fun x => chkW (rowAt a φ x))).length : Int) = longsL (spotsL a) l := by
  intro φ l
  induction l with
  | nil => intro _; rfl
  | cons x l ih =>
    intro hl
    rw [List.flatMap_cons, List.length_append]
    simp only [longsL]
    have := ih (fun y hy => hl y (List.mem_cons_of_mem _ hy))
    have := hrow φ x (hl x List.mem_cons_self)
    omega
 have hej : ∀ j, (eJ a O j : Int) = longsL (spotsL a) (O.take j) := fun j => by
  have := (longsL_take hw j).1
  unfold eJ
  omega
 have hE : eJ a O O.length = (longsL (spotsL a) O).toNat := by unfold eJ; rw [List.take_length]
 refine ⟨fun j => ⟨?_, ?_, hej j, ?_, ?_⟩, fun j x hx => ?_⟩
 ·have := hfl id (O.take j) (fun x hx => List.mem_of_mem_take hx)
  have e := hej j
  have : (((O.take j).flatMap (rawW a)).length : Int) = eJ a O j := by rw [e]; exact this
  omega
 ·have := hfl φ (O.take j) (fun x hx => List.mem_of_mem_take hx)
  have e := hej j
  have : (((O.take j).flatMap (newW a φ)).length : Int) = eJ a O j := by rw [e]; exact this
  omega
 ·have := (longsL_take hw j).2
  have := hej j
  rw [hE]
  omega
 ·have h2 := hfl id (O.drop j) (fun x hx => List.mem_of_mem_drop hx)
  have h3 := longsL_append (spotsL a) (O.take j) (O.drop j)
  rw [List.take_append_drop] at h3
  have e := hej j
  have h4 := longsL_nn hw
  have h5 : (((O.drop j).flatMap (rawW a)).length : Int) = longsL (spotsL a) (O.drop j) := h2
  omega
 ·obtain ⟨q1, q2⟩ := List.getElem?_eq_some_iff.1 hx
  have hxO := List.mem_of_getElem? hx
  obtain ⟨s, hs⟩ := begsL_iff.1 (hC.begs x hxO)
  obtain ⟨g1, g2, -⟩ := spotAt_some hs
  obtain ⟨i, e1, e2⟩ := spotAt_ix h1 hs
  have hraw : rawW a x = wordOf s.r s.b s.t s.f :: (refsOf a s ++ bodyOf a s) := by
   unfold rawW
   rw [rowAt_some hs]
   show wordOf s.r s.b s.t false :: ((refsOf a s).map (refT id) ++ bodyOf a s) = _
   rw [g2]
   congr 2
   conv => rhs; rw [← List.map_id (refsOf a s)]
   exact List.map_congr_left (fun v _ => refT_id v)
  have hnew : newW a φ x = wordOf s.r s.b s.t s.f :: ((refsOf a s).map (refT φ) ++ bodyOf a s) := by
   unfold newW
   rw [rowAt_some hs, g2]
   rfl
  refine ⟨s, i, hs, e1, e2, (hmem s g1).1, ?_, ?_, ?_, ?_, Iso.link_of hC hxO hs⟩
  ·rw [hej, hej, List.take_succ_eq_append_getElem q1, q2, longsL_append]
   simp only [longsL]
   unfold longW
   rw [hs]
   dsimp only
   omega
  ·rw [List.take_succ_eq_append_getElem q1, q2, List.flatMap_append, List.flatMap_cons, List.flatMap_nil, List.append_nil, hraw]
  ·rw [List.take_succ_eq_append_getElem q1, q2, List.flatMap_append, List.flatMap_cons, List.flatMap_nil, List.append_nil, hnew]
  ·rw [List.drop_eq_getElem_cons q1, q2, List.flatMap_cons, hraw]
theorem CopyIs.yb {a f O Y b : List Int} {N : Nat} (hI : CopyIs a f N O Y b) : ∀ y ∈ Y, 0 ≤ y ∧ y ≤ 256 := fun y hy => by
 have hD := copied_of hI
 have hM := hI.le
 have hfit := hI.fit
 obtain ⟨j, hj⟩ := List.mem_iff_getElem?.1 hy
 have hjl : j < O.length := by rw [← hD.len]; exact (List.getElem?_eq_some_iff.1 hj).1
 rw [hI.y, sumsY_at _ _ _ _ hjl] at hj
 have h1 := (copy_facts hI.check hD.closed id).1 j
 have h2 := (copy_facts hI.check hD.closed id).1 O.length
 rw [List.take_length] at h2
 have := Option.some.inj hj
 have := h1.2.2.1
 have := h1.2.2.2.1
 have := h2.2.2.1
 omega
theorem CopyIs.wf {a f O Y b : List Int} {N : Nat} (hI : CopyIs a f N O Y b) (ha : ∀ x ∈ a, (Lit.int .u64 x).wf = true) : ∀ x ∈ b, (Lit.int .u64 x).wf = true := by
 have hD := copied_of hI
 have := laid_wf ha hD.rows hI.le (fun y hy => (hI.yb y hy).2) hD.nodup hD.len hD.closed hD.nn
 rw [hI.b]
 exact this
theorem CopyIs.ix {a f O Y b : List Int} {N : Nat} (hI : CopyIs a f N O Y b) : ∀ x ∈ O, ∃ (q : Nat) (y : Int), q < O.length ∧ ixOf (fun z => x == z) O = q ∧ Y[q]? = some y ∧ posL O Y x = y := fun x hx => by
 have hD := copied_of hI
 obtain ⟨q, y, h1, h2, h3⟩ := posL_ex (keep := O) (Y := Y) hD.nodup hD.len hx
 exact ⟨q, y, (List.getElem?_eq_some_iff.1 h1).1, idxL_at hD.nodup h1, h2, h3⟩
theorem CopyIs.nowf {a f O Y b : List Int} {N : Nat} (hI : CopyIs a f N O Y b) : ∀ x ∈ f.map (posL O Y), (Lit.int .i64 x).wf = true := fun x hx => by
 obtain ⟨z, hz, rfl⟩ := List.mem_map.1 hx
 obtain ⟨q, y, -, -, h1, h2⟩ := hI.ix z (hI.ordered.roots z hz)
 have := hI.yb y (List.mem_of_getElem? h1)
 rw [h2]
 simp [Lit.wf, IntKind.min, IntKind.max, IntKind.signed, IntKind.bits]
 omega
theorem reached_fits {a f L : List Int} (h0 : checkE a = 0) (h : Reached a (spotsL a) f L) : longsL (spotsL a) L ≤ a.length := by
 have h' : Reached a (spotsL a) (f ++ []) L := by rw [List.append_nil]; exact h
 have hI : CleanIs a f [] L (slidGo [] 0 L (longsV a L [])) (slidW a L []) (f.map (posL L (slidGo [] 0 L (longsV a L [])))) := ⟨h0, rfl, h', (clean_longs h0 h').1 rfl, rfl, rfl, rfl⟩
 have hD := cleaned_of hI
 obtain ⟨-, g2, g3, -⟩ := hD.gaps hI
 have := (rsum_takeG g3 (ggL (slidW a L [])).length (Nat.le_refl _)).1
 rw [List.take_length] at this
 omega
theorem ordered_fits {a f O : List Int} (h0 : checkE a = 0) (h : Ordered a (spotsL a) f O) : longsL (spotsL a) O ≤ a.length := by
 have := reached_fits h0 (h.search.done h.roots)
 rwa [longsL_perm (spotsL a) (sortL_perm O)] at this
theorem form_copy {a f O : List Int} {os : List Ob} {N : Nat} (h0 : checkE a = 0) (hO : Ordered a (spotsL a) f O) (hos : os = O.map (formO a (spotsL a) O)) (hL : LayOk os N) :
  CopyIs a f N O (sumsY (spotsL a) 0 O) (layW os N) ∧ ∀ x ∈ O, ((begO os (idxL O x).toNat : Nat) : Int) = posL O (sumsY (spotsL a) 0 O) x := by
 have hC := ordered_closed h0 hO
 have h1 := (checkE_ok.1 h0).1
 have hmem := parse_mem (parse_ok h1).2
 have hn := hO.search.once
 have hlen : os.length = O.length := by rw [hos, List.length_map]
 have hyl := sumsY_length (spotsL a) O 0
 have hat : ∀ x ∈ O, ∃ s, spotAt (spotsL a) x = some s ∧ SpotOk a s ∧ s.f = false ∧ formO a (spotsL a) O x = ⟨s.t, (refsOf a s).map (fun v => idxL O (v - 1)), bodyOf a s, s.f⟩ := by
  intro x hx
  obtain ⟨s, hs⟩ := begsL_iff.1 (hC.begs x hx)
  obtain ⟨g1, g2, -⟩ := spotAt_some hs
  refine ⟨s, hs, (hmem s g1).1, g2, ?_⟩
  unfold formO
  rw [hs]
 have hobl : ∀ x ∈ O, ((obLen (formO a (spotsL a) O x) : Nat) : Int) = longW (spotsL a) x := by
  intro x hx
  obtain ⟨s, hs, hok, -, e⟩ := hat x hx
  rw [e]
  unfold obLen longW
  rw [hs]
  dsimp only
  rw [List.length_map, refsOf_length hok, bodyOf_length hok]
  have := hok.r0
  have := hok.b0
  unfold Spot.long
  omega
 have htot : ∀ l : List Int, (∀ x ∈ l, x ∈ O) → ((totO (l.map (formO a (spotsL a) O)) : Nat) : Int) = longsL (spotsL a) l := by
  intro l
  induction l with
  | nil => intro _; rfl
  | cons x l ih =>
    intro hl
    have e1 := ih (fun y hy => hl y (List.mem_cons_of_mem _ hy))
    have e2 := hobl x (hl x List.mem_cons_self)
    simp only [List.map_cons, totO, longsL]
    omega
 have hbeg : ∀ j, ((begO os j : Nat) : Int) = longsL (spotsL a) (O.take j) := by
  intro j
  unfold begO
  rw [hos, ← List.map_take]
  exact htot _ (fun x hx => List.mem_of_mem_take hx)
 have hT : ((totO os : Nat) : Int) = longsL (spotsL a) O := by rw [hos]; exact htot O (fun x hx => hx)
 have hpos : ∀ x ∈ O, ∃ j : Nat, idxL O x = j ∧ ((begO os j : Nat) : Int) = posL O (sumsY (spotsL a) 0 O) x := by
  intro x hx
  obtain ⟨j, y, g1, g2, g3⟩ := posL_ex hn hyl hx
  refine ⟨j, idxL_at hn g1, ?_⟩
  rw [g3, hbeg]
  rw [sumsY_at _ _ _ _ ((List.getElem?_eq_some_iff.1 g1).1)] at g2
  have := Option.some.inj g2
  omega
 have hfit := hL.fit
 refine ⟨⟨h0, hO, by omega, by have := hL.hi; omega, rfl, ?_⟩, fun x hx => ?_⟩
 ·obtain ⟨r1, r2, r3, r4⟩ := rows_sums (a := a) (φ := posL O (sumsY (spotsL a) 0 O)) N O 0 (fun x hx => by
   obtain ⟨s, hs, hok, hf, -⟩ := hat x hx
   obtain ⟨k1, k2, -, -⟩ := kC_ok (posL O (sumsY (spotsL a) 0 O)) hok hf
   rw [rowAt_some hs]
   refine ⟨k1, rfl, ?_⟩
   unfold longW
   rw [hs]
   exact k2) (by simp only [Int.natCast_zero, Int.zero_add]; omega)
  have r4' : laidC N 0 (rowsOf a O (sumsY (spotsL a) 0 O)) = O.map (rowAt a (posL O (sumsY (spotsL a) 0 O))) ++ flushC (N - ((0 : Nat) + longsL (spotsL a) O : Int).toNat) := r4
  rw [r4']
  unfold layW layCs
  have e1 : ((0 : Nat) + longsL (spotsL a) O : Int).toNat = totO os := by omega
  rw [e1]
  congr 2
  rw [show os.map (obChk os) = (O.map (formO a (spotsL a) O)).map (obChk os) from congrArg (List.map (obChk os)) hos, List.map_map]
  refine List.map_congr_left (fun x hx => ?_)
  obtain ⟨s, hs, hok, hf, e⟩ := hat x hx
  show obChk os (formO a (spotsL a) O x) = rowAt a _ x
  rw [e, rowAt_some hs]
  unfold obChk kC
  dsimp only
  rw [List.length_map, refsOf_length hok, bodyOf_length hok, hf, List.map_map]
  have r0 := hok.r0
  have b0 := hok.b0
  have q1 : ((s.r.toNat : Nat) : Int) = s.r := by omega
  have q2 : ((s.b.toNat : Nat) : Int) = s.b := by omega
  rw [q1, q2]
  congr 2
  refine List.map_congr_left (fun v hv => ?_)
  show refP os (idxL O (v - 1)) = refT _ v
  by_cases hv0 : v = 0
  ·subst hv0
   have : idxL O (0 - 1) = -1 := idxL_neg (fun y hy => hC.nn y hy)
   rw [this]
   rfl
  ·obtain ⟨j, g1, g2⟩ := hpos (v - 1) (Iso.link_of hC hx hs v hv hv0)
   rw [g1]
   unfold refP refT
   rw [if_neg (by omega), if_neg hv0, Int.toNat_natCast, g2]
 ·obtain ⟨j, g1, g2⟩ := hpos x hx
  rw [g1, Int.toNat_natCast]
  exact g2
theorem idxL_bd {O : List Int} (y : Int) : -1 ≤ idxL O y ∧ idxL O y < O.length := by
 unfold idxL
 rcases ixOf_cases (fun x => y == x) O with ⟨h, -⟩ | ⟨i, s, h1, h2, -⟩
 ·rw [h]; omega
 ·rw [h1]
  have := (List.getElem?_eq_some_iff.1 h2).1
  omega
structure FormOk (a f : List Int) (os : List Ob) (fr : List Int) (O : List Int) : Prop where
 ord : Ordered a (spotsL a) f O
 os_ : os = O.map (formO a (spotsL a) O)
 fr_ : fr = f.map (idxL O)
 len : os.length ≤ 256
 wf : ∀ o ∈ os, (∀ x ∈ o.refs, (Lit.int .i64 x).wf = true) ∧ ∀ x ∈ o.body, (Lit.int .u64 x).wf = true
 at_ : ∀ k ∈ fr, 0 ≤ k ∧ ∃ o, os[k.toNat]? = some o ∧ o.f = false
theorem form_good {a f : List Int} {os : List Ob} {fr : List Int} (h0 : checkE a = 0) (ha : ∀ x ∈ a, (Lit.int .u64 x).wf = true) (h : FormIs a f os fr) : ∃ O, FormOk a f os fr O := by
 obtain ⟨O, h1, h2, h3⟩ := h
 have hC := ordered_closed h0 h1
 have hl : O.length ≤ 256 := nodup_bound 256 O h1.search.once (fun x hx => begsL_bounds (checkE_ok.1 h0).1 x (hC.begs x hx))
 have hat : ∀ x ∈ O, ∃ s, spotAt (spotsL a) x = some s ∧ s.f = false ∧ formO a (spotsL a) O x = ⟨s.t, (refsOf a s).map (fun v => idxL O (v - 1)), bodyOf a s, s.f⟩ := by
  intro x hx
  obtain ⟨s, hs⟩ := begsL_iff.1 (hC.begs x hx)
  refine ⟨s, hs, (spotAt_some hs).2.1, ?_⟩
  unfold formO
  rw [hs]
 refine ⟨O, h1, h2, h3, by rw [h2, List.length_map]; exact hl, fun o ho => ?_, fun k hk => ?_⟩
 ·rw [h2] at ho
  obtain ⟨x, hx, rfl⟩ := List.mem_map.1 ho
  obtain ⟨s, hs, hf, e⟩ := hat x hx
  rw [e]
  constructor
  ·intro y hy
   obtain ⟨v, hv, rfl⟩ := List.mem_map.1 hy
   have := idxL_bd (O := O) (v - 1)
   simp [Lit.wf, IntKind.min, IntKind.max, IntKind.signed, IntKind.bits]
   omega
  ·intro y hy
   have hy' : y ∈ bodyOf a s := hy
   unfold bodyOf at hy'
   exact ha y (List.mem_of_mem_drop (List.mem_of_mem_take hy'))
 ·rw [h3] at hk
  obtain ⟨x, hx, rfl⟩ := List.mem_map.1 hk
  obtain ⟨j, hj⟩ := List.mem_iff_getElem?.1 (h1.roots x hx)
  rw [idxL_at h1.search.once hj, Int.toNat_natCast]
  refine ⟨by omega, formO a (spotsL a) O x, by rw [h2, List.getElem?_map, hj]; rfl, ?_⟩
  obtain ⟨s, hs, hf, e⟩ := hat x (h1.roots x hx)
  rw [e]
  exact hf
theorem built_form {a f : List Int} {os : List Ob} {fr O : List Int} {M : Nat} (h0 : checkE a = 0) (h : FormOk a f os fr O) (hL : LayOk os M) :
  CopyIs a f M O (sumsY (spotsL a) 0 O) (layW os M) ∧ (fr.map fun k => ((begO os k.toNat : Nat) : Int)) = f.map (posL O (sumsY (spotsL a) 0 O)) ∧
   AliveF (layW os M) (f.map (posL O (sumsY (spotsL a) 0 O))) ∧ ∀ os' fr', FormIs (layW os M) (f.map (posL O (sumsY (spotsL a) 0 O))) os' fr' → os = os' ∧ fr = fr' := by
 obtain ⟨h1, h2⟩ := form_copy h0 h.ord h.os_ hL
 have hD := copied_of h1
 refine ⟨h1, ?_, ⟨hD.laid.check, hD.alive h.ord.roots⟩, fun os' fr' hF => hD.form h.ord.roots ⟨O, h.ord, h.os_, h.fr_⟩ hF⟩
 rw [h.fr_, List.map_map]
 exact List.map_congr_left (fun x hx => h2 x (h.ord.roots x hx))
theorem CopyIs.unique {a f O Y b O' Y' b' : List Int} {N : Nat} (h : CopyIs a f N O Y b) (h' : CopyIs a f N O' Y' b') : O = O' ∧ Y = Y' ∧ b = b' := by
 have e : O = O' := bfsL_unique h.ordered.fn h'.ordered.fn
 subst e
 have e2 : Y = Y' := h.y.trans h'.y.symm
 subst e2
 exact ⟨rfl, rfl, h.b.trans h'.b.symm⟩
theorem form_lays {a f O : List Int} {os : List Ob} (h0 : checkE a = 0) (hO : Ordered a (spotsL a) f O) (hos : os = O.map (formO a (spotsL a) O)) : LayOk os a.length := by
 have hC := ordered_closed h0 hO
 have h1 := (checkE_ok.1 h0).1
 have h256 := (parse_ok h1).1
 have hmem := parse_mem (parse_ok h1).2
 have hn := hO.search.once
 have hat : ∀ x ∈ O, ∃ s, spotAt (spotsL a) x = some s ∧ SpotOk a s ∧ s.f = false ∧ formO a (spotsL a) O x = ⟨s.t, (refsOf a s).map (fun v => idxL O (v - 1)), bodyOf a s, s.f⟩ := by
  intro x hx
  obtain ⟨s, hs⟩ := begsL_iff.1 (hC.begs x hx)
  obtain ⟨g1, g2, -⟩ := spotAt_some hs
  refine ⟨s, hs, (hmem s g1).1, g2, ?_⟩
  unfold formO
  rw [hs]
 have hobl : ∀ x ∈ O, ((obLen (formO a (spotsL a) O x) : Nat) : Int) = longW (spotsL a) x := by
  intro x hx
  obtain ⟨s, hs, hok, -, e⟩ := hat x hx
  rw [e]
  unfold obLen longW
  rw [hs]
  dsimp only
  rw [List.length_map, refsOf_length hok, bodyOf_length hok]
  have := hok.r0
  have := hok.b0
  unfold Spot.long
  omega
 have htot : ∀ l : List Int, (∀ x ∈ l, x ∈ O) → ((totO (l.map (formO a (spotsL a) O)) : Nat) : Int) = longsL (spotsL a) l := by
  intro l
  induction l with
  | nil => intro _; rfl
  | cons x l ih =>
    intro hl
    have e1 := ih (fun y hy => hl y (List.mem_cons_of_mem _ hy))
    have e2 := hobl x (hl x List.mem_cons_self)
    simp only [List.map_cons, totO, longsL]
    omega
 refine ⟨by omega, by omega, fun o ho => ?_, ?_, fun o ho k hk => ?_⟩
 ·rw [hos] at ho
  obtain ⟨x, hx, rfl⟩ := List.mem_map.1 ho
  obtain ⟨s, hs, hok, hf, e⟩ := hat x hx
  rw [e]
  unfold obE
  dsimp only
  rw [List.length_map, refsOf_length hok, bodyOf_length hok, Int.toNat_of_nonneg hok.r0, Int.toNat_of_nonneg hok.b0]
  exact hok.head
 ·rw [hos, htot O (fun x hx => hx)]
  exact ordered_fits h0 hO
 ·rw [hos] at ho
  obtain ⟨x, hx, rfl⟩ := List.mem_map.1 ho
  obtain ⟨s, hs, hok, hf, e⟩ := hat x hx
  rw [e] at hk
  obtain ⟨v, hv, rfl⟩ := List.mem_map.1 hk
  by_cases hv0 : v = 0
  ·left
   subst hv0
   unfold idxL
   rcases ixOf_cases (fun x => (0 - 1 : Int) == x) O with ⟨h, -⟩ | ⟨i, z, g1, g2, g3⟩
   ·exact h
   ·exfalso
    have hz := hC.nn z (List.mem_of_getElem? g2)
    simp at g3
    omega
  ·right
   have hm : v - 1 ∈ O := hC.closed x hx _ (by unfold linksAt; rw [hs]; exact List.mem_map.2 ⟨v, List.mem_filter.2 ⟨hv, by simpa using hv0⟩, rfl⟩)
   obtain ⟨j, hj⟩ := List.mem_iff_getElem?.1 hm
   rw [idxL_at hn hj, Int.toNat_natCast]
   obtain ⟨s2, hs2, -, hf2, e2⟩ := hat _ hm
   exact ⟨by omega, formO a (spotsL a) O (v - 1), by rw [hos, List.getElem?_map, hj]; rfl, by rw [e2]; exact hf2⟩
set_option maxRecDepth 100000 in
set_option maxHeartbeats 400000 in
theorem growU64_nil (n : Nat) (w : World) (hn : n ≤ 35184372088832) :
  Calls Tryz.prog 60 #[.slice none 0 0, .int .i64 n] w fun e w' => ∃ A' c', e = .returned (.slice A' 0 c') ∧ w'.ownsRow w.heap.size 40 1 (.slice A' 0 c') 0 [] ∧ n ≤ c' ∧ Below w.heap.size w w' := by
 obtain ⟨i0, hi, hz0, hz1, hz2⟩ := info_parts info_u64
 by_cases h0 : n = 0
 ·subst h0
  go_enter Tryz.func60, Tryz.ntmps60
  go_wp2
  go_ret
  exact ⟨none, 0, rfl, World.ownsRow_nil _ _ _ _, Nat.le_refl _, Below.refl _ _⟩
 ·have hw : IntKind.i64.wrap (n : Int) = n := IntWalk.i64_in _ (by omega)
  have g1 : decide (0 < n) = true := decide_eq_true (by omega)
  have hrun := fun ty => Lib.run_append_nil_zeros (P := Tryz.prog) w 22 3 ty 40 i0 _ .i64 .i64 Tryz.underlying22 Tryz.underlying3 hi hz0 n (by omega) (by rw [hz1]; decide) (by omega) (by rw [hz2]; omega)
  obtain ⟨cap, hcap, hc1, hc2⟩ : ∃ cap, cap = grownCap w n 0 40 ∧ n ≤ cap ∧ cap ≤ maxLen := ⟨_, rfl, grownCap_ge .., grownCap_le_maxLen _ _ _ _ (by unfold maxLen; omega)⟩
  rw [← hcap] at hrun
  have hsz : (Builtin.zeroCells (Value.int .u64 0).cells n ++ Builtin.zeroCells (Value.int .u64 0).cells (cap - n)).size = cap * 1 := by
   rw [Array.size_append, size_zeroCells, size_zeroCells]
   have : (Value.int .u64 0).cells.size = 1 := rfl
   rw [this]; omega
  generalize hcs : Builtin.zeroCells (Value.int .u64 0).cells n ++ Builtin.zeroCells (Value.int .u64 0).cells (cap - n) = cs at *
  have hfin : (w.drew.alloc (.cells cs 40)).ownsRow w.heap.size 40 1 (.slice (some ⟨w.heap.size, 0, none⟩) 0 cap) 0 [] := by
   have := own_close (w := w.drew.alloc (.cells cs 40)) (base := w.heap.size) (e := 40) (size := 1) (n := 0) (c := cap) (g := w.heap.size) cs.toList (Nat.le_refl _) (by simpa using heap_alloc_new w.drew _) (Nat.zero_le _) hc2 (by simpa using hsz)
   simpa using this
  have HF := Lib.hid hfin
  clear hfin hsz hcs hcap
  go_enter Tryz.func60, Tryz.ntmps60
  go_wp2_with (at_builtin; refine Lib.wpList_append_run _ rfl _ _ _ _ rfl _ _ rfl rfl _ _ (hrun _) ?_)
  go_ret
  exact ⟨_, _, rfl, HF.out, hc1, (Below.refl _ _).drew.alloc (Nat.le_refl _) _⟩
set_option maxRecDepth 100000 in
set_option maxHeartbeats 1000000 in
theorem concat2_u64 (A1 : Option Addr) (q1 c1 : Nat) (xs1 : List Value) (A2 : Option Addr) (q2 c2 : Nat) (xs2 : List Value) (Av : Option Addr) (cv : Nat) (w : World)
  (hv : Reads w w.heap.size 1 Av 2 [.slice A1 q1 c1, .slice A2 q2 c2]) (h1 : Reads w w.heap.size 1 A1 q1 xs1) (h2 : Reads w w.heap.size 1 A2 q2 xs2)
  (o1 : ∀ u ∈ xs1, u.oneCell' = true) (o2 : ∀ u ∈ xs2, u.oneCell' = true) (hq : q1 + q2 ≤ 35184372088832) :
  Calls Tryz.prog 46 #[.slice Av 2 cv] w fun e w' => ∃ A' c', e = .returned (.slice A' (q1 + q2) c') ∧ w'.ownsRow w.heap.size 40 1 (.slice A' (q1 + q2) c') (q1 + q2) (xs1 ++ xs2) ∧ Below w.heap.size w w' := by
 obtain ⟨i0, hi, hz0, hz1, hz2⟩ := info_parts info_u64
 obtain ⟨ad, rfl, hbl, k0, k1⟩ := hv.pair
 obtain ⟨S, hS⟩ : ∃ S, S = q1 + q2 := ⟨_, rfl⟩
 have wS : IntKind.i64.wrap ((q1 : Int) + q2) = (S : Int) := by rw [IntWalk.i64_in _ (by omega)]; omega
 have wQ : IntKind.i64.wrap (q1 : Int) = (q1 : Int) := IntWalk.i64_in _ (by omega)
 have HG := Lib.hid (fun w => growU64_nil S w (by omega))
 have HS := Lib.hid hS
 rw [← hS]
 clear hS hv
 go_enter Tryz.func46, Tryz.ntmps46
 go_wp2_with fail
 go_loop [3, 5, 11] (fun sz _ i => (i = .int .i64 0 ∧ sz = .int .i64 0) ∨ (i = .int .i64 1 ∧ sz = .int .i64 q1) ∨ (i = .int .i64 2 ∧ sz = .int .i64 S)) (fun _ _ i => 2 - (intOf i).toNat)
 case atStart => exact .inl ⟨rfl, rfl⟩
 case round =>
  rcases hrel with ⟨rfl, rfl⟩ | ⟨rfl, rfl⟩ | ⟨rfl, rfl⟩
  ·go_wp2_with fail
   go_round
   case rel => exact .inr (.inl ⟨rfl, rfl⟩)
   case measure => simp [intOf]
  ·go_wp2_with fail
   go_round
   case rel => exact .inr (.inr ⟨rfl, rfl⟩)
   case measure => simp [intOf]
  ·go_wp2_with fail
   refine (HG.out _).mono ?_
   rintro e w1 ⟨A', c', rfl, hown, hcap, hb⟩
   rw [HS.out] at hcap
   go_wp2
   go_loopw [6, 8, 27] (fun ns _ i wr => Below w.heap.size w wr ∧ ((∃ A' c', i = .int .i64 0 ∧ ns = .slice A' 0 c' ∧ wr.ownsRow w.heap.size 40 1 (.slice A' 0 c') 0 [] ∧ q1 + q2 ≤ c') ∨
    (∃ A' c', i = .int .i64 1 ∧ ns = .slice A' q1 c' ∧ wr.ownsRow w.heap.size 40 1 (.slice A' q1 c') q1 xs1 ∧ q1 + q2 ≤ c') ∨
    (∃ A' c', i = .int .i64 2 ∧ ns = .slice A' S c' ∧ wr.ownsRow w.heap.size 40 1 (.slice A' S c') S (xs1 ++ xs2)))) (fun _ _ i _ => 2 - (intOf i).toNat)
   case atStart => exact ⟨hb, .inl ⟨_, _, rfl, rfl, hown, hcap⟩⟩
   case round =>
    obtain ⟨hb, ⟨A', c', rfl, rfl, hown, hcap⟩ | ⟨A', c', rfl, rfl, hown, hcap⟩ | ⟨A', c', rfl, rfl, hown⟩⟩ := hrel
    ·have m0 := (hb.cell (p := ad) hbl).trans k0
     obtain ⟨w2, hrun, hown2, hgr⟩ := run_append_fit (P := Tryz.prog) wr w.heap.size 22 22 40 i0 1 Tryz.underlying22 hi hz1 A' 0 c' [] hown w.heap.size A1 q1 c1 xs1 (h1.below hb) o1 (by decide) (by omega)
     go_wp2_with (at_builtin; refine Lib.wpList_append_run _ rfl _ _ _ _ rfl _ _ rfl rfl _ _ hrun ?_)
     have hb2 : Below w.heap.size w w2 := hb.grown hgr hb.size (fun g hg => (hown.lt g hg).1)
     rw [Nat.zero_add, List.nil_append] at hown2
     go_roundw
     case rel => exact ⟨hb2, .inr (.inl ⟨_, _, rfl, by simp, hown2, hcap⟩)⟩
     case measure => simp [intOf]
    ·have m0 := (hb.cell (p := ⟨ad.block, ad.off + 1, none⟩) hbl).trans k1
     obtain ⟨w2, hrun, hown2, hgr⟩ := run_append_fit (P := Tryz.prog) wr w.heap.size 22 22 40 i0 1 Tryz.underlying22 hi hz1 A' q1 c' xs1 hown w.heap.size A2 q2 c2 xs2 (h2.below hb) o2 (by decide) hcap
     go_wp2_with (at_builtin; refine Lib.wpList_append_run _ rfl _ _ _ _ rfl _ _ rfl rfl _ _ hrun ?_)
     have hb2 : Below w.heap.size w w2 := hb.grown hgr hb.size (fun g hg => (hown.lt g hg).1)
     rw [← HS.out] at hown2
     go_roundw
     case rel => exact ⟨hb2, .inr (.inr ⟨_, _, rfl, by rw [HS.out], hown2⟩)⟩
     case measure => simp [intOf]
    ·go_wp2
     go_ret
     exact ⟨A', c', rfl, hown, hb⟩
end Go.Proofs.YtblkhipbhahmeaaGreatDoor
