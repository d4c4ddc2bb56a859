/-
  Texts joined: SlideLaw SlidePlan SpliceLaw GapFits Plan Gaps GapFirst WalksTrue.
-/
import Derived.Laws.CopyOwn
import Derived.KernelRfl
import Derived.Test.YtbmkbnalembbjaaRows
import Derived.Deep.RegionHeld3
import Derived.IntWalk
import Derived.Test.YtbmkbnalembbjaaK0
import Derived.Test.YtbmkbnalembbjaaK1
import Derived.Test.YtbmkbnalembbjaaK2
import Derived.Test.YtbmkbnalembbjaaK3
import Derived.Test.YtbmkbnalembbjaaK4
import Derived.Test.YtbmkbnalembbjaaK5
import Derived.Test.YtbmkbnalembbjaaK6
namespace Go.Proofs.Ytbmkbnalembbjaa
open Go.RowKit
def rawL (N : Nat) : Nat → List (Nat × Chk) → List Int
  | e, [] => List.replicate (N - e) 0
  | e, (y, c) :: t => List.replicate (y - e) 0 ++ (chkW c ++ rawL N (y + c.len) t)
def laidC (N : Nat) : Nat → List (Nat × Chk) → List Chk
  | e, [] => flushC (N - e)
  | e, (y, c) :: t => flushC (y - e) ++ c :: laidC N (y + c.len) t
def RowsOk (N : Nat) : Nat → List (Nat × Chk) → Prop
  | e, [] => e ≤ N
  | e, (y, c) :: t => e ≤ y ∧ c.ok ∧ c.f = false ∧ RowsOk N (y + c.len) t
def setG (o : List Int) (g : Rn) : List Int := o.set g.loc.toNat (wordOf 0 (g.len - 1) 0 true)
def ysOf (rows : List (Nat × Chk)) : List Int := rows.map fun p => (p.1 : Int)
def lensOf (rows : List (Nat × Chk)) : List Int := rows.map fun p => (p.2.len : Int)
theorem RowsOk.le {N : Nat} : ∀ {rows : List (Nat × Chk)} {e : Nat}, RowsOk N e rows → e ≤ N
  | [], _, h => h
  | (y, c) :: t, e, ⟨h1, _, _, h3⟩ => by have := RowsOk.le h3; omega
theorem RowsOk.left {N : Nat} : ∀ {rows t : List (Nat × Chk)} {e : Nat}, RowsOk N e (rows ++ t) → RowsOk N e rows
  | [], _, _, h => h.le
  | (_, _) :: _, _, _, ⟨h1, h2, h3, h4⟩ => ⟨h1, h2, h3, RowsOk.left h4⟩
theorem laidC_length {N : Nat} : ∀ {rows : List (Nat × Chk)} {e : Nat}, RowsOk N e rows → (chunksW (laidC N e rows)).length = N - e
  | [], e, _ => flushC_length _
  | (y, c) :: t, e, ⟨h1, h2, h2', h3⟩ => by
    have := RowsOk.le h3
    simp only [laidC]
    rw [chunksW_append, chunksW_cons, List.length_append, List.length_append, flushC_length, chkW_length, laidC_length h3]
    omega
theorem flushC_mem {p : Nat} {d : Chk} (h : d ∈ flushC p) : p ≠ 0 ∧ d = freeC p := by
  unfold flushC at h
  split at h
  · cases h
  · rename_i h0; exact ⟨h0, List.mem_singleton.1 h⟩
theorem laidC_mem {N : Nat} : ∀ {rows : List (Nat × Chk)} {e : Nat}, RowsOk N e rows → ∀ d ∈ laidC N e rows, (∃ q, q ≠ 0 ∧ q ≤ N ∧ d = freeC q) ∨ ∃ y, (y, d) ∈ rows
  | [], e, h, d, hd => by
    obtain ⟨h1, h2⟩ := flushC_mem hd
    exact .inl ⟨_, h1, by omega, h2⟩
  | (y, c) :: t, e, ⟨h1, h2, h2', h3⟩, d, hd => by
    have := RowsOk.le h3
    simp only [laidC] at hd
    rcases List.mem_append.1 hd with hd | hd
    · obtain ⟨h1, h2⟩ := flushC_mem hd
      exact .inl ⟨_, h1, by omega, h2⟩
    · rcases List.mem_cons.1 hd with rfl | hd
      · exact .inr ⟨y, List.mem_cons_self⟩
      · rcases laidC_mem h3 d hd with h4 | ⟨z, h4⟩
        · exact .inl h4
        · exact .inr ⟨z, List.mem_cons_of_mem _ h4⟩
theorem RowsOk.mem {N : Nat} : ∀ {rows : List (Nat × Chk)} {e : Nat}, RowsOk N e rows → ∀ p ∈ rows, p.2.ok ∧ p.2.f = false
  | (y, c) :: t, e, ⟨h1, h2, h2', h3⟩, p, hp => by
    rcases List.mem_cons.1 hp with rfl | hp
    · exact ⟨h2, h2'⟩
    · exact RowsOk.mem h3 p hp
theorem laidC_ok {N : Nat} {rows : List (Nat × Chk)} {e : Nat} (h : RowsOk N e rows) (hN : N ≤ 256) : ∀ d ∈ laidC N e rows, d.ok := by
  intro d hd
  rcases laidC_mem h d hd with ⟨q, h1, h2, rfl⟩ | ⟨y, h1⟩
  · exact freeC_ok h1 (by omega)
  · exact (RowsOk.mem h _ h1).1
theorem laidC_split {N : Nat} : ∀ {rows : List (Nat × Chk)} {e j y : Nat} {c : Chk}, RowsOk N e rows → rows[j]? = some (y, c) → ∃ pre suf, laidC N e rows = pre ++ c :: suf ∧ e + (chunksW pre).length = y
  | (z, d) :: t, e, 0, y, c, ⟨h1, h2, h2', h3⟩, h => by
    simp only [List.getElem?_cons_zero, Option.some.injEq, Prod.mk.injEq] at h
    obtain ⟨rfl, rfl⟩ := h
    exact ⟨flushC (z - e), _, rfl, by rw [flushC_length]; omega⟩
  | (z, d) :: t, e, j + 1, y, c, ⟨h1, h2, h2', h3⟩, h => by
    rw [List.getElem?_cons_succ] at h
    obtain ⟨pre, suf, e1, e2⟩ := laidC_split h3 h
    refine ⟨flushC (z - e) ++ d :: pre, suf, ?_, ?_⟩
    · simp only [laidC]
      rw [e1, List.append_assoc, List.cons_append]
    · rw [chunksW_append, chunksW_cons, List.length_append, List.length_append, flushC_length, chkW_length]
      omega
theorem gapsP_laid (N : Nat) : ∀ (rows : List (Nat × Chk)) (e : Nat), RowsOk N e rows → gapsP e 0 (laidC N e rows) = pgaps N e (ysOf rows) (lensOf rows)
  | [], e, h => by
    have hle : e ≤ N := h
    simp only [ysOf, lensOf, List.map_nil, pgaps, laidC]
    unfold flushC
    by_cases hlt : (e : Int) < N
    · rw [if_neg (by omega), if_pos hlt]
      simp only [gapsP, freeC_f, if_true]
      rw [freeC_len (by omega)]
      unfold flushG
      rw [if_neg (by omega)]
      simp only [List.cons.injEq, Rn.mk.injEq, and_true]
      omega
    · rw [if_pos (by omega), if_neg hlt]
      rfl
  | (y, c) :: t, e, ⟨h1, h2, h2', h3⟩ => by
    have ih := gapsP_laid N t (y + c.len) h3
    simp only [ysOf, lensOf, List.map_cons, pgaps, laidC]
    rw [show ((y : Int) + (c.len : Int)) = ((y + c.len : Nat) : Int) by omega]
    unfold flushC
    by_cases hlt : (e : Int) < y
    · rw [if_neg (by omega), if_pos hlt]
      simp only [List.cons_append, List.nil_append, gapsP, freeC_f, if_true, h2']
      rw [freeC_len (by omega), Nat.zero_add, show e + (y - e) = y by omega]
      simp only [Bool.false_eq_true, if_false]
      unfold flushG
      rw [if_neg (show ¬ y - e = 0 by omega), ih, show y - (y - e) = e by omega, show ((y - e : Nat) : Int) = (y : Int) - e by omega]
      rfl
    · have : e = y := by omega
      subst this
      rw [if_pos (by omega), if_neg hlt]
      simp only [List.nil_append, gapsP, h2']
      unfold flushG
      rw [if_pos rfl, if_neg (by decide), ih]
      rfl
def kC (a : List Int) (φ : Int → Int) (s : Spot) : Chk := ⟨s.r, s.b, s.t, false, (refsOf a s).map (refT φ) ++ bodyOf a s⟩
def rowAt (a : List Int) (φ : Int → Int) (x : Int) : Chk := match spotAt (spotsL a) x with | some s => kC a φ s | none => ⟨0, 0, 0, false, []⟩
def posL (keep Y : List Int) (x : Int) : Int := Y.getD (idxL keep x).toNat 0
def rowsOf (a keep Y : List Int) : List (Nat × Chk) := List.zipWith (fun x y => (y.toNat, rowAt a (posL keep Y) x)) keep Y
theorem idxL_at {keep : List Int} (hn : keep.Nodup) {j : Nat} {x : Int} (hx : keep[j]? = some x) : idxL keep x = j := by
  refine ixOf_some hx (by simp) (fun y hy => ?_)
  rw [List.mem_take_iff_getElem] at hy
  obtain ⟨i, hi, rfl⟩ := hy
  obtain ⟨hj, rfl⟩ := List.getElem?_eq_some_iff.1 hx
  have := (List.nodup_iff_pairwise_ne.1 hn)
  have := List.pairwise_iff_getElem.1 this i j (by omega) hj (by omega)
  simp only [beq_eq_false_iff_ne]
  exact fun e => this e.symm
theorem posL_at {keep Y : List Int} (hn : keep.Nodup) {j : Nat} {x y : Int} (hx : keep[j]? = some x) (hy : Y[j]? = some y) : posL keep Y x = y := by
  unfold posL
  rw [idxL_at hn hx, Int.toNat_natCast, List.getD_eq_getElem?_getD, hy]
  rfl
theorem posL_map {keep Y : List Int} (hn : keep.Nodup) (hl : Y.length = keep.length) : keep.map (posL keep Y) = Y := by
  refine List.ext_getElem (by rw [List.length_map, hl]) (fun i h1 h2 => ?_)
  rw [List.getElem_map]
  rw [List.length_map] at h1
  exact posL_at hn (List.getElem?_eq_getElem h1) (List.getElem?_eq_getElem h2)
theorem posL_ex {keep Y : List Int} (hn : keep.Nodup) (hl : Y.length = keep.length) {x : Int} (hx : x ∈ keep) : ∃ (j : Nat) (y : Int), keep[j]? = some x ∧ Y[j]? = some y ∧ posL keep Y x = y := by
  obtain ⟨j, hj⟩ := List.mem_iff_getElem?.1 hx
  have hlt := (List.getElem?_eq_some_iff.1 hj).1
  have hy : Y[j]? = some (Y[j]'(by omega)) := List.getElem?_eq_getElem _
  exact ⟨j, _, hj, hy, posL_at hn hj hy⟩
theorem rowsOf_at {a keep Y : List Int} {j : Nat} {x y : Int} (hx : keep[j]? = some x) (hy : Y[j]? = some y) : (rowsOf a keep Y)[j]? = some (y.toNat, rowAt a (posL keep Y) x) := by
  unfold rowsOf
  rw [List.getElem?_zipWith, hx, hy]
theorem rowsOf_length {a keep Y : List Int} (hl : Y.length = keep.length) : (rowsOf a keep Y).length = keep.length := by
  unfold rowsOf
  rw [List.length_zipWith, hl, Nat.min_self]
theorem kC_ok {a : List Int} (φ : Int → Int) {s : Spot} (h : SpotOk a s) (hf : s.f = false) : (kC a φ s).ok ∧ ((kC a φ s).len : Int) = s.long ∧ (kC a φ s).pay.take (kC a φ s).r.toNat = (refsOf a s).map (refT φ) ∧ (kC a φ s).pay.drop (kC a φ s).r.toNat = bodyOf a s := by
  have h1 := refsOf_length h
  have h2 := bodyOf_length h
  have h3 := h.head
  have r0 := h.r0
  have b0 := h.b0
  rw [hf] at h3
  have hl : ((refsOf a s).map (refT φ) ++ bodyOf a s).length = s.r.toNat + s.b.toNat := by rw [List.length_append, List.length_map, h1, h2]
  refine ⟨⟨h3, ?_⟩, ?_, ?_, ?_⟩
  · show ((((refsOf a s).map (refT φ) ++ bodyOf a s).length : Nat) : Int) = s.r + s.b
    rw [hl]; omega
  · show (((1 + ((refsOf a s).map (refT φ) ++ bodyOf a s).length : Nat)) : Int) = s.long
    rw [hl]; unfold Spot.long; omega
  · show ((refsOf a s).map (refT φ) ++ bodyOf a s).take s.r.toNat = _
    rw [List.take_append_of_le_length (by rw [List.length_map, h1]; exact Nat.le_refl _), List.take_of_length_le (by rw [List.length_map, h1]; exact Nat.le_refl _)]
  · show ((refsOf a s).map (refT φ) ++ bodyOf a s).drop s.r.toNat = _
    rw [List.drop_append, List.drop_of_length_le (by rw [List.length_map, h1]; exact Nat.le_refl _), List.length_map, h1, Nat.sub_self]
    rfl
theorem rowAt_some {a : List Int} {φ : Int → Int} {x : Int} {s : Spot} (h : spotAt (spotsL a) x = some s) : rowAt a φ x = kC a φ s := by
  unfold rowAt
  rw [h]
structure LaidOk (a keep Y b : List Int) (N : Nat) : Prop where
  iso : Iso a b keep (posL keep Y)
  check : checkE b = 0
  len : b.length = N
  gaps : gapsL (spotsL b) = pgaps N 0 (ysOf (rowsOf a keep Y)) (lensOf (rowsOf a keep Y))
theorem laid_ok {a keep Y : List Int} {N : Nat} (h0 : spotsE a = 0) (hC : ClosedL a keep) (hn : keep.Nodup) (hl : Y.length = keep.length) (hN : N ≤ 256) (hY : ∀ y ∈ Y, 0 ≤ y) (hR : RowsOk N 0 (rowsOf a keep Y)) :
    LaidOk a keep Y (chunksW (laidC N 0 (rowsOf a keep Y))) N := by
  have hlen := laidC_length hR
  have hok := laidC_ok hR hN
  obtain ⟨-, hsp⟩ := chunks_spots hok (by omega)
  have hmem := parse_mem (parse_ok h0).2
  have hat : ∀ x ∈ keep, ∀ s, spotAt (spotsL a) x = some s → ∃ pre suf, laidC N 0 (rowsOf a keep Y) = pre ++ kC a (posL keep Y) s :: suf ∧ ((chunksW pre).length : Int) = posL keep Y x := by
    intro x hx s hs
    obtain ⟨j, y, hj, hy, e⟩ := posL_ex hn hl hx
    have hr := rowsOf_at (a := a) hj hy
    obtain ⟨pre, suf, e1, e2⟩ := laidC_split hR hr
    rw [rowAt_some hs] at e1
    refine ⟨pre, suf, e1, ?_⟩
    have := hY y (List.mem_of_getElem? hy)
    rw [e]
    omega
  have hiso : Iso a (chunksW (laidC N 0 (rowsOf a keep Y))) keep (posL keep Y) := by
    refine ⟨fun x hx => ?_, fun x hx y hy e => ?_, fun x hx s hs => ?_⟩
    · obtain ⟨j, y, -, hy, e⟩ := posL_ex hn hl hx
      rw [e]; exact hY y (List.mem_of_getElem? hy)
    · obtain ⟨j, u, hj, hu, e1⟩ := posL_ex hn hl hx
      obtain ⟨k, v, hk, hv, e2⟩ := posL_ex hn hl hy
      obtain ⟨s, hs⟩ := begsL_iff.1 (hC.begs x hx)
      obtain ⟨t, ht⟩ := begsL_iff.1 (hC.begs y hy)
      have r1 := rowsOf_at (a := a) hj hu
      have r2 := rowsOf_at (a := a) hk hv
      have hinc : ∀ (rows : List (Nat × Chk)) (e i j y z : Nat) (c d : Chk), RowsOk N e rows → i < j → rows[i]? = some (y, c) → rows[j]? = some (z, d) → e ≤ y ∧ y < z := by
        intro rows
        induction rows with
        | nil => intro e i j y z c d _ _ h; simp at h
        | cons p t ih =>
          obtain ⟨p1, p2⟩ := p
          rintro e i j y z c d ⟨h1, h2, h2', h3⟩ hij hi hj
          obtain ⟨j, rfl⟩ : ∃ j', j = j' + 1 := ⟨j - 1, by omega⟩
          rw [List.getElem?_cons_succ] at hj
          have hlow : ∀ (rows : List (Nat × Chk)) (e j z : Nat) (d : Chk), RowsOk N e rows → rows[j]? = some (z, d) → e ≤ z := by
            intro rows
            induction rows with
            | nil => intro e j z d _ h; simp at h
            | cons p t ih =>
              obtain ⟨p1, p2⟩ := p
              rintro e j z d ⟨h1, h2, h2', h3⟩ hj
              cases j with
              | zero => simp only [List.getElem?_cons_zero, Option.some.injEq, Prod.mk.injEq] at hj; omega
              | succ j => have := ih _ j z d h3 (by simpa using hj); omega
          have hp : 1 ≤ p2.len := by unfold Chk.len; omega
          cases i with
          | zero =>
            simp only [List.getElem?_cons_zero, Option.some.injEq, Prod.mk.injEq] at hi
            have := hlow t _ j z d h3 hj
            omega
          | succ i =>
            rw [List.getElem?_cons_succ] at hi
            have := ih _ i j y z c d h3 (by omega) hi hj
            omega
      have u0 := hY u (List.mem_of_getElem? hu)
      have v0 := hY v (List.mem_of_getElem? hv)
      rcases Nat.lt_trichotomy j k with h | h | h
      · have := hinc _ _ _ _ _ _ _ _ hR h r1 r2
        omega
      · subst h; rw [hj] at hk; exact Option.some.inj hk
      · have := hinc _ _ _ _ _ _ _ _ hR h r2 r1
        omega
    · obtain ⟨pre, suf, e1, e2⟩ := hat x hx s hs
      obtain ⟨hsS, hsf, -⟩ := spotAt_some hs
      obtain ⟨k1, k2, k3, k4⟩ := kC_ok (posL keep Y) (hmem s hsS).1 hsf
      have h1 := split_at pre suf (kC a (posL keep Y) s) rfl
      have h2 := split_refs pre suf (kC a (posL keep Y) s) k1
      rw [hsp, e1, ← e2]
      exact ⟨_, h1, rfl, rfl, rfl, h2.2.trans k4, h2.1.trans k3⟩
  refine ⟨hiso, ?_, by omega, ?_⟩
  · rw [checkE_chunks hok (by omega)]
    intro c hc v hv
    rcases laidC_mem hR c hc with ⟨q, -, -, rfl⟩ | ⟨y, hy⟩
    · simp [freeC] at hv
    · obtain ⟨j, hj⟩ := List.mem_iff_getElem?.1 hy
      have hjl : j < keep.length := by have := (List.getElem?_eq_some_iff.1 hj).1; rw [rowsOf_length hl] at this; exact this
      have hx : keep[j]? = some keep[j] := List.getElem?_eq_getElem hjl
      have hyy : Y[j]? = some (Y[j]'(by omega)) := List.getElem?_eq_getElem _
      have := rowsOf_at (a := a) hx hyy
      rw [hj] at this
      simp only [Option.some.injEq, Prod.mk.injEq] at this
      obtain ⟨-, rfl⟩ := this
      have hxk : keep[j] ∈ keep := List.getElem_mem hjl
      obtain ⟨s, hs⟩ := begsL_iff.1 (hC.begs _ hxk)
      obtain ⟨hsS, hsf, -⟩ := spotAt_some hs
      rw [rowAt_some hs] at hv
      rw [(kC_ok (posL keep Y) (hmem s hsS).1 hsf).2.2.1] at hv
      obtain ⟨u, hu, rfl⟩ := List.mem_map.1 hv
      by_cases hu0 : u = 0
      · left; unfold refT; rw [if_pos hu0]
      · right
        have hk := Iso.link_of hC hxk hs u hu hu0
        obtain ⟨t, ht⟩ := begsL_iff.1 (hC.begs _ hk)
        obtain ⟨t', ht', -⟩ := hiso.at_ _ hk t ht
        rw [hsp] at ht'
        rw [← starts_mem]
        obtain ⟨g1, g2, g3⟩ := spotAt_some ht'
        refine ⟨t', g1, ?_⟩
        unfold refT
        rw [if_neg hu0]
        simp [isPlace, g2, g3]
  · rw [hsp, gapsL_chunks hok]
    exact gapsP_laid N _ 0 hR
theorem reached_iso {a b L : List Int} {φ : Int → Int} {f : List Int} (h : Iso a b L φ) (hL0 : ∀ x ∈ L, 0 ≤ x) (hL : Reached a (spotsL a) f L) (hs : (L.map φ).Pairwise (fun x y => x ≤ y)) : Reached b (spotsL b) (f.map φ) (L.map φ) := by
  have hC : ClosedL a L := ⟨hL.begs, hL.closed, hL0⟩
  refine ⟨fun x hx => ?_, fun x hx => ?_, fun x hx y hy => ?_, fun X h1 h2 x hx => ?_, hs, ?_⟩
  · obtain ⟨z, hz, rfl⟩ := List.mem_map.1 hx
    obtain ⟨s, hs⟩ := begsL_iff.1 (hL.begs z hz)
    obtain ⟨s', hs', -⟩ := h.at_ z hz s hs
    exact begsL_iff.2 ⟨s', hs'⟩
  · obtain ⟨z, hz, rfl⟩ := List.mem_map.1 hx
    exact List.mem_map.2 ⟨z, hL.roots z hz, rfl⟩
  · obtain ⟨z, hz, rfl⟩ := List.mem_map.1 hx
    rw [h.links hC hz] at hy
    obtain ⟨u, hu, rfl⟩ := List.mem_map.1 hy
    exact List.mem_map.2 ⟨u, hL.closed z hz u hu, rfl⟩
  · obtain ⟨z, hz, rfl⟩ := List.mem_map.1 hx
    have := hL.least (fun x => x ∈ L ∧ X (φ x)) (fun x hx => ⟨hL.roots x hx, h1 _ (List.mem_map.2 ⟨x, hx, rfl⟩)⟩) (fun x ⟨hxL, hX⟩ y hy => ⟨hL.closed x hxL y hy, h2 _ hX _ (by
      rw [h.links hC hxL]
      exact List.mem_map.2 ⟨y, hy, rfl⟩)⟩) z hz
    exact this.2
  · have h1 := hL.once
    have h2 := h.inj
    clear hs hC hL
    rw [List.nodup_iff_pairwise_ne, List.pairwise_map]
    rw [List.nodup_iff_pairwise_ne] at h1
    exact h1.imp_of_mem (fun {x y} hx hy hne e => hne (h2 x hx y hy e))
end Go.Proofs.Ytbmkbnalembbjaa

namespace Go.Proofs.Ytbmkbnalembbjaa
open Go.RowKit
theorem rows_slid {a : List Int} {φ : Int → Int} (N : Nat) (pinned : List Int) : ∀ (keep L : List Int) (e : Nat), Kept N keep L → (∀ x, keep[0]? = some x → (e : Int) ≤ x) → e ≤ N →
    (∀ (j : Nat) (x k : Int), keep[j]? = some x → L[j]? = some k → (rowAt a φ x).ok ∧ (rowAt a φ x).f = false ∧ ((rowAt a φ x).len : Int) = k) →
    RowsOk N e (List.zipWith (fun x y => (y.toNat, rowAt a φ x)) keep (slidGo pinned e keep L)) ∧ ysOf (List.zipWith (fun x y => (y.toNat, rowAt a φ x)) keep (slidGo pinned e keep L)) = slidGo pinned e keep L ∧
      lensOf (List.zipWith (fun x y => (y.toNat, rowAt a φ x)) keep (slidGo pinned e keep L)) = L := by
  intro keep
  induction keep with
  | nil =>
    intro L e hK _ he _
    cases L with
    | nil => exact ⟨he, rfl, rfl⟩
    | cons n ls => have := hK.same; simp at this
  | cons x ks ih =>
    intro L e hK he heN hrow
    cases L with
    | nil => have := hK.same; simp at this
    | cons n ls =>
      obtain ⟨x0, n1, n2, hxn⟩ := hK.at_ 0 x n rfl rfl
      have hex := he x rfl
      obtain ⟨r1, r2, r3⟩ := hrow 0 x n rfl rfl
      obtain ⟨z, hz⟩ : ∃ z : Nat, (z : Int) = (if x ∈ pinned then x else (e : Int)) := by
        by_cases h : x ∈ pinned
        · rw [if_pos h]; exact ⟨x.toNat, by omega⟩
        · rw [if_neg h]; exact ⟨e, rfl⟩
      have hz1 : e ≤ z ∧ (z : Int) ≤ x := by
        by_cases h : x ∈ pinned
        · rw [if_pos h] at hz; omega
        · rw [if_neg h] at hz; omega
      have hY : slidGo pinned e (x :: ks) (n :: ls) = (z : Int) :: slidGo pinned ((z + (rowAt a φ x).len : Nat) : Int) ks ls := by
        simp only [slidGo]
        rw [← hz, show ((z + (rowAt a φ x).len : Nat) : Int) = (z : Int) + n by omega]
      obtain ⟨i1, i2, i3⟩ := ih ls (z + (rowAt a φ x).len) hK.tail (fun y hy => by have := hK.next 0 x n y rfl rfl (by simpa using hy); omega) (by omega) (fun j x' k h1 h2 => hrow (j + 1) x' k (by simpa using h1) (by simpa using h2))
      rw [hY, List.zipWith_cons_cons]
      simp only [ysOf, lensOf] at i2 i3 ⊢
      rw [List.map_cons, List.map_cons, i2, i3]
      refine ⟨⟨?_, r1, r2, ?_⟩, ?_, ?_⟩
      · rw [Int.toNat_natCast]; exact hz1.1
      · rw [Int.toNat_natCast]; exact i1
      · rw [Int.toNat_natCast]
      · rw [r3]
structure Planned (a keep pinned L Y : List Int) : Prop where
  nodup : keep.Nodup
  len : Y.length = keep.length
  lenL : L.length = keep.length
  nn : ∀ y ∈ Y, 0 ≤ y
  rows : RowsOk a.length 0 (rowsOf a keep Y)
  ys : ysOf (rowsOf a keep Y) = Y
  lens : lensOf (rowsOf a keep Y) = L
  begs : ∀ x ∈ keep, x ∈ begsL (spotsL a)
  nn2 : ∀ x ∈ keep, 0 ≤ x
  at_ : ∀ (j : Nat) (x y : Int), keep[j]? = some x → Y[j]? = some y → ∃ (s : Spot) (i : Nat), spotAt (spotsL a) x = some s ∧ atIx a x = i ∧ (spotsL a)[i]? = some s ∧ SpotOk a s ∧ y + s.long ≤ a.length ∧ L[j]? = some s.long ∧ 0 ≤ y ∧ y ≤ x
theorem pL_isBeg (x : Int) : pL x = isBeg x := by
  funext s
  unfold pL isBeg
  rw [Bool.and_comm]
theorem planned_of {a keep pinned : List Int} (hE : longsE a keep pinned = 0) : Planned a keep pinned (longsV a keep pinned) (slidGo pinned 0 keep (longsV a keep pinned)) := by
  obtain ⟨hK, hN⟩ := kept_of hE
  obtain ⟨h1, h2, h3, h4, h5⟩ := longsE_ok.1 hE
  have h0 := (checkE_ok.1 h1).1
  have hV : longsV a keep pinned = keep.map (longAt (spotsL a)) := by unfold longsV; rw [if_pos hE]
  have hspot : ∀ x ∈ keep, ∃ (s : Spot) (i : Nat), spotAt (spotsL a) x = some s ∧ atIx a x = i ∧ (spotsL a)[i]? = some s ∧ SpotOk a s ∧ longAt (spotsL a) x = s.long := by
    intro x hx
    obtain ⟨i, s, e1, e2, e3, e4, e5, e6, e7⟩ := spots_of_ix h0 (h4 x hx)
    refine ⟨s, i, ?_, e7, e2, e5, e6⟩
    unfold spotAt
    rw [← pL_isBeg]
    rcases ixOf_cases (pL x) (spotsL a) with ⟨f1, f2⟩ | ⟨i', s', f1, f2, f3, f4⟩
    · have := f2 s (List.mem_of_getElem? e2)
      simp [pL, e3, e4] at this
    · have : i' = i := by omega
      subst this
      obtain rfl := Option.some.inj (f2.symm.trans e2)
      rw [List.find?_eq_some_iff_append]
      refine ⟨f3, (spotsL a).take i', (spotsL a).drop (i' + 1), ?_, fun y hy => by simp [f4 y hy]⟩
      obtain ⟨q1, q2⟩ := List.getElem?_eq_some_iff.1 f2
      rw [← q2, ← List.drop_eq_getElem_cons q1, List.take_append_drop]
  have hn : keep.Nodup := by
    rw [List.nodup_iff_pairwise_ne]
    exact (risesP_pairwise h2).imp (fun h => by omega)
  have he : ∀ x, keep[0]? = some x → (0 : Int) ≤ x := fun x hx => by
    obtain ⟨s, i, e1, -, -, e4, -⟩ := hspot x (List.mem_of_getElem? hx)
    have := e4.loc0
    have := (spotAt_some e1).2.2
    omega
  have hS := slid_of a.length pinned keep (longsV a keep pinned) 0 hK he
  have hrows := rows_slid (a := a) (φ := posL keep (slidGo pinned 0 keep (longsV a keep pinned))) a.length pinned keep (longsV a keep pinned) 0 hK he (Nat.zero_le _) (fun j x k hx hk => by
    obtain ⟨s, i, e1, -, -, e4, e5⟩ := hspot x (List.mem_of_getElem? hx)
    rw [rowAt_some e1]
    obtain ⟨k1, k2, -, -⟩ := kC_ok (posL keep (slidGo pinned 0 keep (longsV a keep pinned))) e4 (spotAt_some e1).2.1
    refine ⟨k1, rfl, ?_⟩
    rw [hV, List.getElem?_map, hx] at hk
    have := Option.some.inj hk
    omega)
  refine ⟨hn, hS.len, hK.same, fun y hy => ?_, hrows.1, hrows.2.1, hrows.2.2, fun x hx => ?_, fun x hx => ?_, fun j x y hx hy => ?_⟩
  · obtain ⟨j, hj⟩ := List.mem_iff_getElem?.1 hy
    exact hS.low j y hj
  · obtain ⟨s, i, e1, -⟩ := hspot x hx
    exact begsL_iff.2 ⟨s, e1⟩
  · obtain ⟨s, i, e1, -, -, e4, -⟩ := hspot x hx
    have := e4.loc0
    have := (spotAt_some e1).2.2
    omega
  · obtain ⟨s, i, e1, e2, e3, e4, e5⟩ := hspot x (List.mem_of_getElem? hx)
    have hk : (longsV a keep pinned)[j]? = some s.long := by rw [hV, List.getElem?_map, hx, Option.map_some, e5]
    obtain ⟨g1, g2, g3, g4⟩ := hS.at_ j x y s.long hx hk hy
    exact ⟨s, i, e1, e2, e3, e4, g3, hk, hS.low j y hy, g1⟩
def nowM (keep Y : List Int) (j : Nat) : Int → Option Value := fun v => if v = 0 then some (.int .u64 0) else if v - 1 ∈ keep.take j then some (.int .u64 (posL keep Y (v - 1) + 1)) else none
end Go.Proofs.Ytbmkbnalembbjaa

namespace Go.Proofs.Ytbmkbnalembbjaa
open Go.RowKit
end Go.Proofs.Ytbmkbnalembbjaa

namespace Go.Proofs.Ytbmkbnalembbjaa
open Go.RowKit
def fitsL (l : List Rn) (n : Int) : List Int := if fitsE l n = 0 then fitIx n 0 l else []
end Go.Proofs.Ytbmkbnalembbjaa

namespace Go.Proofs.Ytbmkbnalembbjaa
open Go.RowKit
end Go.Proofs.Ytbmkbnalembbjaa

namespace Go.Proofs.Ytbmkbnalembbjaa
open Go.RowKit
def gspotsL (a : List Int) : List Spot := if checkE a = 0 then spotsL a else []
end Go.Proofs.Ytbmkbnalembbjaa

namespace Go.Proofs.Ytbmkbnalembbjaa
open Go.RowKit
def firstV (l : List Rn) (n : Int) : Int := (fitsL l n).headD 0
def lenAt (l : List Rn) (i : Int) : Int := match l[i.toNat]? with | some r => r.len | none => 0
def bestGo (l : List Rn) (b : Int) : List Int → Int
  | [] => b
  | i :: t => bestGo l (if lenAt l i < lenAt l b then i else b) t
def bestV (l : List Rn) (n : Int) : Int := bestGo l (firstV l n) (fitsL l n)
def ggL (a : List Int) : List Rn := if checkE a = 0 then gapsL (spotsL a) else []
end Go.Proofs.Ytbmkbnalembbjaa

namespace Go.Proofs.Ytbmkbnalembbjaa
open Go.RowKit
end Go.Proofs.Ytbmkbnalembbjaa
