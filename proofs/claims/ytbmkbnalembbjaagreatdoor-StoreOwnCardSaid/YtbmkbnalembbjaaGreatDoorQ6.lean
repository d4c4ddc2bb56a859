/-
  Texts joined: SlideLaw SlidePlan SpliceLaw GapFits Plan.
-/
import Derived.Laws.CopyOwn
import Derived.KernelRfl
import Derived.Test.YtbmkbnalembbjaaGreatDoorRows
import Derived.Test.YtbmkbnalembbjaaGreatDoorQ0
import Derived.Test.YtbmkbnalembbjaaGreatDoorQ2
import Derived.Test.YtbmkbnalembbjaaGreatDoorQ3
import Derived.Test.YtbmkbnalembbjaaGreatDoorQ4
import Derived.Test.YtbmkbnalembbjaaGreatDoorQ5
namespace Go.Proofs.YtbmkbnalembbjaaGreatDoor
open Go.RowKit
def rawL (N : Nat) : Nat → List (Nat × Chk) → List Int
  | e, [] => List.replicate (N - e) 0
  | e, (y, c) :: t => List.replicate (y - e) 0 ++ (chkW c ++ rawL N (y + c.len) t)
def laidC (N : Nat) : Nat → List (Nat × Chk) → List Chk
  | e, [] => flushC (N - e)
  | e, (y, c) :: t => flushC (y - e) ++ c :: laidC N (y + c.len) t
def RowsOk (N : Nat) : Nat → List (Nat × Chk) → Prop
  | e, [] => e ≤ N
  | e, (y, c) :: t => e ≤ y ∧ c.ok ∧ c.f = false ∧ RowsOk N (y + c.len) t
def setG (o : List Int) (g : Rn) : List Int := o.set g.loc.toNat (wordOf 0 (g.len - 1) 0 true)
def ysOf (rows : List (Nat × Chk)) : List Int := rows.map fun p => (p.1 : Int)
def lensOf (rows : List (Nat × Chk)) : List Int := rows.map fun p => (p.2.len : Int)
theorem RowsOk.le {N : Nat} : ∀ {rows : List (Nat × Chk)} {e : Nat}, RowsOk N e rows → e ≤ N
  | [], _, h => h
  | (y, c) :: t, e, ⟨h1, _, _, h3⟩ => by have := RowsOk.le h3; omega
theorem RowsOk.left {N : Nat} : ∀ {rows t : List (Nat × Chk)} {e : Nat}, RowsOk N e (rows ++ t) → RowsOk N e rows
  | [], _, _, h => h.le
  | (_, _) :: _, _, _, ⟨h1, h2, h3, h4⟩ => ⟨h1, h2, h3, RowsOk.left h4⟩
theorem rawL_length {N : Nat} : ∀ {rows : List (Nat × Chk)} {e : Nat}, RowsOk N e rows → (rawL N e rows).length = N - e
  | [], e, _ => by simp [rawL]
  | (y, c) :: t, e, ⟨h1, h2, h2', h3⟩ => by
    have := RowsOk.le h3
    simp only [rawL, List.length_append, List.length_replicate, chkW_length, rawL_length h3]
    omega
theorem laidC_length {N : Nat} : ∀ {rows : List (Nat × Chk)} {e : Nat}, RowsOk N e rows → (chunksW (laidC N e rows)).length = N - e
  | [], e, _ => flushC_length _
  | (y, c) :: t, e, ⟨h1, h2, h2', h3⟩ => by
    have := RowsOk.le h3
    simp only [laidC]
    rw [chunksW_append, chunksW_cons, List.length_append, List.length_append, flushC_length, chkW_length, laidC_length h3]
    omega
theorem flushC_mem {p : Nat} {d : Chk} (h : d ∈ flushC p) : p ≠ 0 ∧ d = freeC p := by
  unfold flushC at h
  split at h
  · cases h
  · rename_i h0; exact ⟨h0, List.mem_singleton.1 h⟩
theorem laidC_mem {N : Nat} : ∀ {rows : List (Nat × Chk)} {e : Nat}, RowsOk N e rows → ∀ d ∈ laidC N e rows, (∃ q, q ≠ 0 ∧ q ≤ N ∧ d = freeC q) ∨ ∃ y, (y, d) ∈ rows
  | [], e, h, d, hd => by
    obtain ⟨h1, h2⟩ := flushC_mem hd
    exact .inl ⟨_, h1, by omega, h2⟩
  | (y, c) :: t, e, ⟨h1, h2, h2', h3⟩, d, hd => by
    have := RowsOk.le h3
    simp only [laidC] at hd
    rcases List.mem_append.1 hd with hd | hd
    · obtain ⟨h1, h2⟩ := flushC_mem hd
      exact .inl ⟨_, h1, by omega, h2⟩
    · rcases List.mem_cons.1 hd with rfl | hd
      · exact .inr ⟨y, List.mem_cons_self⟩
      · rcases laidC_mem h3 d hd with h4 | ⟨z, h4⟩
        · exact .inl h4
        · exact .inr ⟨z, List.mem_cons_of_mem _ h4⟩
theorem RowsOk.mem {N : Nat} : ∀ {rows : List (Nat × Chk)} {e : Nat}, RowsOk N e rows → ∀ p ∈ rows, p.2.ok ∧ p.2.f = false
  | (y, c) :: t, e, ⟨h1, h2, h2', h3⟩, p, hp => by
    rcases List.mem_cons.1 hp with rfl | hp
    · exact ⟨h2, h2'⟩
    · exact RowsOk.mem h3 p hp
theorem laidC_ok {N : Nat} {rows : List (Nat × Chk)} {e : Nat} (h : RowsOk N e rows) (hN : N ≤ 256) : ∀ d ∈ laidC N e rows, d.ok := by
  intro d hd
  rcases laidC_mem h d hd with ⟨q, h1, h2, rfl⟩ | ⟨y, h1⟩
  · exact freeC_ok h1 (by omega)
  · exact (RowsOk.mem h _ h1).1
theorem laidC_split {N : Nat} : ∀ {rows : List (Nat × Chk)} {e j y : Nat} {c : Chk}, RowsOk N e rows → rows[j]? = some (y, c) → ∃ pre suf, laidC N e rows = pre ++ c :: suf ∧ e + (chunksW pre).length = y
  | (z, d) :: t, e, 0, y, c, ⟨h1, h2, h2', h3⟩, h => by
    simp only [List.getElem?_cons_zero, Option.some.injEq, Prod.mk.injEq] at h
    obtain ⟨rfl, rfl⟩ := h
    exact ⟨flushC (z - e), _, rfl, by rw [flushC_length]; omega⟩
  | (z, d) :: t, e, j + 1, y, c, ⟨h1, h2, h2', h3⟩, h => by
    rw [List.getElem?_cons_succ] at h
    obtain ⟨pre, suf, e1, e2⟩ := laidC_split h3 h
    refine ⟨flushC (z - e) ++ d :: pre, suf, ?_, ?_⟩
    · simp only [laidC]
      rw [e1, List.append_assoc, List.cons_append]
    · rw [chunksW_append, chunksW_cons, List.length_append, List.length_append, flushC_length, chkW_length]
      omega
theorem flush_set {pre rest : List Int} {e p : Nat} (he : pre.length = e) (hp : p ≠ 0) : (pre ++ (List.replicate p 0 ++ rest)).set e (wordOf 0 ((p : Int) - 1) 0 true) = pre ++ (chunksW (flushC p) ++ rest) := by
  obtain ⟨q, rfl⟩ : ∃ q, p = q + 1 := ⟨p - 1, by omega⟩
  have e2 : chunksW (flushC (q + 1)) = wordOf 0 (((q + 1 : Nat) : Int) - 1) 0 true :: List.replicate q 0 := by
    unfold flushC
    rw [if_neg hp]
    simp [chunksW, chkW, freeC]
  rw [e2, List.set_append_right _ _ (by omega), he, Nat.sub_self, List.replicate_succ, List.cons_append, List.set_cons_zero, List.cons_append]
theorem fold_gaps (N : Nat) : ∀ (rows : List (Nat × Chk)) (e : Nat) (pre : List Int), RowsOk N e rows → pre.length = e → (pgaps N e (ysOf rows) (lensOf rows)).foldl setG (pre ++ rawL N e rows) = pre ++ chunksW (laidC N e rows)
  | [], e, pre, h, hp => by
    have hle : e ≤ N := h
    simp only [ysOf, lensOf, List.map_nil, pgaps, rawL, laidC]
    by_cases hlt : (e : Int) < N
    · rw [if_pos hlt, List.foldl_cons, List.foldl_nil]
      unfold setG
      have := flush_set (pre := pre) (rest := []) (e := e) (p := N - e) hp (by omega)
      simp only [List.append_nil] at this
      rw [← this]
      simp only [Int.toNat_natCast]
      rw [show ((N - e : Nat) : Int) = (N : Int) - e by omega]
    · rw [if_neg hlt, List.foldl_nil]
      have : N - e = 0 := by omega
      rw [this]
      rfl
  | (y, c) :: t, e, pre, ⟨h1, h2, h2', h3⟩, hp => by
    have hle := RowsOk.le h3
    have ih := fold_gaps N t (y + c.len) (pre ++ (chunksW (flushC (y - e)) ++ chkW c)) h3 (by rw [List.length_append, List.length_append, flushC_length, chkW_length, hp]; omega)
    simp only [ysOf, lensOf, List.map_cons, pgaps, rawL, laidC]
    rw [List.foldl_append]
    have e1 : (if (e : Int) < (y : Int) then [(⟨e, (y : Int) - e⟩ : Rn)] else []).foldl setG (pre ++ (List.replicate (y - e) 0 ++ (chkW c ++ rawL N (y + c.len) t))) = pre ++ (chunksW (flushC (y - e)) ++ chkW c) ++ rawL N (y + c.len) t := by
      by_cases hlt : (e : Int) < y
      · rw [if_pos hlt, List.foldl_cons, List.foldl_nil]
        unfold setG
        have := flush_set (pre := pre) (rest := chkW c ++ rawL N (y + c.len) t) (e := e) (p := y - e) hp (by omega)
        simp only [Int.toNat_natCast]
        rw [show ((y - e : Nat) : Int) = (y : Int) - e by omega] at this
        rw [this]
        simp
      · rw [if_neg hlt, List.foldl_nil]
        have : y - e = 0 := by omega
        rw [this]
        simp [flushC, chunksW]
    rw [e1]
    have e2 : ((y : Int) + (c.len : Int)) = ((y + c.len : Nat) : Int) := by omega
    rw [e2]
    refine ih.trans ?_
    rw [chunksW_append, chunksW_cons]
    simp
theorem gapsP_laid (N : Nat) : ∀ (rows : List (Nat × Chk)) (e : Nat), RowsOk N e rows → gapsP e 0 (laidC N e rows) = pgaps N e (ysOf rows) (lensOf rows)
  | [], e, h => by
    have hle : e ≤ N := h
    simp only [ysOf, lensOf, List.map_nil, pgaps, laidC]
    unfold flushC
    by_cases hlt : (e : Int) < N
    · rw [if_neg (by omega), if_pos hlt]
      simp only [gapsP, freeC_f, if_true]
      rw [freeC_len (by omega)]
      unfold flushG
      rw [if_neg (by omega)]
      simp only [List.cons.injEq, Rn.mk.injEq, and_true]
      omega
    · rw [if_pos (by omega), if_neg hlt]
      rfl
  | (y, c) :: t, e, ⟨h1, h2, h2', h3⟩ => by
    have ih := gapsP_laid N t (y + c.len) h3
    simp only [ysOf, lensOf, List.map_cons, pgaps, laidC]
    rw [show ((y : Int) + (c.len : Int)) = ((y + c.len : Nat) : Int) by omega]
    unfold flushC
    by_cases hlt : (e : Int) < y
    · rw [if_neg (by omega), if_pos hlt]
      simp only [List.cons_append, List.nil_append, gapsP, freeC_f, if_true, h2']
      rw [freeC_len (by omega), Nat.zero_add, show e + (y - e) = y by omega]
      simp only [Bool.false_eq_true, if_false]
      unfold flushG
      rw [if_neg (show ¬ y - e = 0 by omega), ih, show y - (y - e) = e by omega, show ((y - e : Nat) : Int) = (y : Int) - e by omega]
      rfl
    · have : e = y := by omega
      subst this
      rw [if_pos (by omega), if_neg hlt]
      simp only [List.nil_append, gapsP, h2']
      unfold flushG
      rw [if_pos rfl, if_neg (by decide), ih]
      rfl
theorem rawL_snoc (N : Nat) (y : Nat) (c : Chk) : ∀ (rows : List (Nat × Chk)) (e : Nat) (pre : List Int), pre.length = e → RowsOk N e (rows ++ [(y, c)]) → pre ++ rawL N e (rows ++ [(y, c)]) = splice (pre ++ rawL N e rows) y (chkW c)
  | [], e, pre, hp, ⟨h1, h2, h2', h3⟩ => by
    have hle : y + c.len ≤ N := h3
    simp only [List.nil_append, rawL]
    unfold splice
    rw [chkW_length, List.take_append, List.take_of_length_le (by omega), List.drop_append, List.drop_of_length_le (by omega), List.nil_append, hp, List.take_replicate, List.drop_replicate, Nat.min_eq_left (by omega), show N - e - (y + c.len - e) = N - (y + c.len) by omega]
    simp
  | (z, d) :: t, e, pre, hp, ⟨h1, h2, h2', h3⟩ => by
    have := rawL_snoc N y c t (z + d.len) (pre ++ (List.replicate (z - e) 0 ++ chkW d)) (by rw [List.length_append, List.length_append, List.length_replicate, chkW_length, hp]; omega) h3
    simp only [List.cons_append, rawL]
    simpa using this
def kC (a : List Int) (φ : Int → Int) (s : Spot) : Chk := ⟨s.r, s.b, s.t, false, (refsOf a s).map (refT φ) ++ bodyOf a s⟩
def rowAt (a : List Int) (φ : Int → Int) (x : Int) : Chk := match spotAt (spotsL a) x with | some s => kC a φ s | none => ⟨0, 0, 0, false, []⟩
def posL (keep Y : List Int) (x : Int) : Int := Y.getD (idxL keep x).toNat 0
def rowsOf (a keep Y : List Int) : List (Nat × Chk) := List.zipWith (fun x y => (y.toNat, rowAt a (posL keep Y) x)) keep Y
theorem idxL_at {keep : List Int} (hn : keep.Nodup) {j : Nat} {x : Int} (hx : keep[j]? = some x) : idxL keep x = j := by
  refine ixOf_some hx (by simp) (fun y hy => ?_)
  rw [List.mem_take_iff_getElem] at hy
  obtain ⟨i, hi, rfl⟩ := hy
  obtain ⟨hj, rfl⟩ := List.getElem?_eq_some_iff.1 hx
  have := (List.nodup_iff_pairwise_ne.1 hn)
  have := List.pairwise_iff_getElem.1 this i j (by omega) hj (by omega)
  simp only [beq_eq_false_iff_ne]
  exact fun e => this e.symm
theorem posL_at {keep Y : List Int} (hn : keep.Nodup) {j : Nat} {x y : Int} (hx : keep[j]? = some x) (hy : Y[j]? = some y) : posL keep Y x = y := by
  unfold posL
  rw [idxL_at hn hx, Int.toNat_natCast, List.getD_eq_getElem?_getD, hy]
  rfl
theorem posL_map {keep Y : List Int} (hn : keep.Nodup) (hl : Y.length = keep.length) : keep.map (posL keep Y) = Y := by
  refine List.ext_getElem (by rw [List.length_map, hl]) (fun i h1 h2 => ?_)
  rw [List.getElem_map]
  rw [List.length_map] at h1
  exact posL_at hn (List.getElem?_eq_getElem h1) (List.getElem?_eq_getElem h2)
theorem posL_ex {keep Y : List Int} (hn : keep.Nodup) (hl : Y.length = keep.length) {x : Int} (hx : x ∈ keep) : ∃ (j : Nat) (y : Int), keep[j]? = some x ∧ Y[j]? = some y ∧ posL keep Y x = y := by
  obtain ⟨j, hj⟩ := List.mem_iff_getElem?.1 hx
  have hlt := (List.getElem?_eq_some_iff.1 hj).1
  have hy : Y[j]? = some (Y[j]'(by omega)) := List.getElem?_eq_getElem _
  exact ⟨j, _, hj, hy, posL_at hn hj hy⟩
theorem rowsOf_at {a keep Y : List Int} {j : Nat} {x y : Int} (hx : keep[j]? = some x) (hy : Y[j]? = some y) : (rowsOf a keep Y)[j]? = some (y.toNat, rowAt a (posL keep Y) x) := by
  unfold rowsOf
  rw [List.getElem?_zipWith, hx, hy]
theorem rowsOf_length {a keep Y : List Int} (hl : Y.length = keep.length) : (rowsOf a keep Y).length = keep.length := by
  unfold rowsOf
  rw [List.length_zipWith, hl, Nat.min_self]
theorem kC_ok {a : List Int} (φ : Int → Int) {s : Spot} (h : SpotOk a s) (hf : s.f = false) : (kC a φ s).ok ∧ ((kC a φ s).len : Int) = s.long ∧ (kC a φ s).pay.take (kC a φ s).r.toNat = (refsOf a s).map (refT φ) ∧ (kC a φ s).pay.drop (kC a φ s).r.toNat = bodyOf a s := by
  have h1 := refsOf_length h
  have h2 := bodyOf_length h
  have h3 := h.head
  have r0 := h.r0
  have b0 := h.b0
  rw [hf] at h3
  have hl : ((refsOf a s).map (refT φ) ++ bodyOf a s).length = s.r.toNat + s.b.toNat := by rw [List.length_append, List.length_map, h1, h2]
  refine ⟨⟨h3, ?_⟩, ?_, ?_, ?_⟩
  · show ((((refsOf a s).map (refT φ) ++ bodyOf a s).length : Nat) : Int) = s.r + s.b
    rw [hl]; omega
  · show (((1 + ((refsOf a s).map (refT φ) ++ bodyOf a s).length : Nat)) : Int) = s.long
    rw [hl]; unfold Spot.long; omega
  · show ((refsOf a s).map (refT φ) ++ bodyOf a s).take s.r.toNat = _
    rw [List.take_append_of_le_length (by rw [List.length_map, h1]; exact Nat.le_refl _), List.take_of_length_le (by rw [List.length_map, h1]; exact Nat.le_refl _)]
  · show ((refsOf a s).map (refT φ) ++ bodyOf a s).drop s.r.toNat = _
    rw [List.drop_append, List.drop_of_length_le (by rw [List.length_map, h1]; exact Nat.le_refl _), List.length_map, h1, Nat.sub_self]
    rfl
theorem rowAt_some {a : List Int} {φ : Int → Int} {x : Int} {s : Spot} (h : spotAt (spotsL a) x = some s) : rowAt a φ x = kC a φ s := by
  unfold rowAt
  rw [h]
structure LaidOk (a keep Y b : List Int) (N : Nat) : Prop where
  iso : Iso a b keep (posL keep Y)
  check : checkE b = 0
  len : b.length = N
  gaps : gapsL (spotsL b) = pgaps N 0 (ysOf (rowsOf a keep Y)) (lensOf (rowsOf a keep Y))
theorem laid_ok {a keep Y : List Int} {N : Nat} (h0 : spotsE a = 0) (hC : ClosedL a keep) (hn : keep.Nodup) (hl : Y.length = keep.length) (hN : N ≤ 256) (hY : ∀ y ∈ Y, 0 ≤ y) (hR : RowsOk N 0 (rowsOf a keep Y)) :
    LaidOk a keep Y (chunksW (laidC N 0 (rowsOf a keep Y))) N := by
  have hlen := laidC_length hR
  have hok := laidC_ok hR hN
  obtain ⟨-, hsp⟩ := chunks_spots hok (by omega)
  have hmem := parse_mem (parse_ok h0).2
  have hat : ∀ x ∈ keep, ∀ s, spotAt (spotsL a) x = some s → ∃ pre suf, laidC N 0 (rowsOf a keep Y) = pre ++ kC a (posL keep Y) s :: suf ∧ ((chunksW pre).length : Int) = posL keep Y x := by
    intro x hx s hs
    obtain ⟨j, y, hj, hy, e⟩ := posL_ex hn hl hx
    have hr := rowsOf_at (a := a) hj hy
    obtain ⟨pre, suf, e1, e2⟩ := laidC_split hR hr
    rw [rowAt_some hs] at e1
    refine ⟨pre, suf, e1, ?_⟩
    have := hY y (List.mem_of_getElem? hy)
    rw [e]
    omega
  have hiso : Iso a (chunksW (laidC N 0 (rowsOf a keep Y))) keep (posL keep Y) := by
    refine ⟨fun x hx => ?_, fun x hx y hy e => ?_, fun x hx s hs => ?_⟩
    · obtain ⟨j, y, -, hy, e⟩ := posL_ex hn hl hx
      rw [e]; exact hY y (List.mem_of_getElem? hy)
    · obtain ⟨j, u, hj, hu, e1⟩ := posL_ex hn hl hx
      obtain ⟨k, v, hk, hv, e2⟩ := posL_ex hn hl hy
      obtain ⟨s, hs⟩ := begsL_iff.1 (hC.begs x hx)
      obtain ⟨t, ht⟩ := begsL_iff.1 (hC.begs y hy)
      have r1 := rowsOf_at (a := a) hj hu
      have r2 := rowsOf_at (a := a) hk hv
      have hinc : ∀ (rows : List (Nat × Chk)) (e i j y z : Nat) (c d : Chk), RowsOk N e rows → i < j → rows[i]? = some (y, c) → rows[j]? = some (z, d) → e ≤ y ∧ y < z := by
        intro rows
        induction rows with
        | nil => intro e i j y z c d _ _ h; simp at h
        | cons p t ih =>
          obtain ⟨p1, p2⟩ := p
          rintro e i j y z c d ⟨h1, h2, h2', h3⟩ hij hi hj
          obtain ⟨j, rfl⟩ : ∃ j', j = j' + 1 := ⟨j - 1, by omega⟩
          rw [List.getElem?_cons_succ] at hj
          have hlow : ∀ (rows : List (Nat × Chk)) (e j z : Nat) (d : Chk), RowsOk N e rows → rows[j]? = some (z, d) → e ≤ z := by
            intro rows
            induction rows with
            | nil => intro e j z d _ h; simp at h
            | cons p t ih =>
              obtain ⟨p1, p2⟩ := p
              rintro e j z d ⟨h1, h2, h2', h3⟩ hj
              cases j with
              | zero => simp only [List.getElem?_cons_zero, Option.some.injEq, Prod.mk.injEq] at hj; omega
              | succ j => have := ih _ j z d h3 (by simpa using hj); omega
          have hp : 1 ≤ p2.len := by unfold Chk.len; omega
          cases i with
          | zero =>
            simp only [List.getElem?_cons_zero, Option.some.injEq, Prod.mk.injEq] at hi
            have := hlow t _ j z d h3 hj
            omega
          | succ i =>
            rw [List.getElem?_cons_succ] at hi
            have := ih _ i j y z c d h3 (by omega) hi hj
            omega
      have u0 := hY u (List.mem_of_getElem? hu)
      have v0 := hY v (List.mem_of_getElem? hv)
      rcases Nat.lt_trichotomy j k with h | h | h
      · have := hinc _ _ _ _ _ _ _ _ hR h r1 r2
        omega
      · subst h; rw [hj] at hk; exact Option.some.inj hk
      · have := hinc _ _ _ _ _ _ _ _ hR h r2 r1
        omega
    · obtain ⟨pre, suf, e1, e2⟩ := hat x hx s hs
      obtain ⟨hsS, hsf, -⟩ := spotAt_some hs
      obtain ⟨k1, k2, k3, k4⟩ := kC_ok (posL keep Y) (hmem s hsS).1 hsf
      have h1 := split_at pre suf (kC a (posL keep Y) s) rfl
      have h2 := split_refs pre suf (kC a (posL keep Y) s) k1
      rw [hsp, e1, ← e2]
      exact ⟨_, h1, rfl, rfl, rfl, h2.2.trans k4, h2.1.trans k3⟩
  refine ⟨hiso, ?_, by omega, ?_⟩
  · rw [checkE_chunks hok (by omega)]
    intro c hc v hv
    rcases laidC_mem hR c hc with ⟨q, -, -, rfl⟩ | ⟨y, hy⟩
    · simp [freeC] at hv
    · obtain ⟨j, hj⟩ := List.mem_iff_getElem?.1 hy
      have hjl : j < keep.length := by have := (List.getElem?_eq_some_iff.1 hj).1; rw [rowsOf_length hl] at this; exact this
      have hx : keep[j]? = some keep[j] := List.getElem?_eq_getElem hjl
      have hyy : Y[j]? = some (Y[j]'(by omega)) := List.getElem?_eq_getElem _
      have := rowsOf_at (a := a) hx hyy
      rw [hj] at this
      simp only [Option.some.injEq, Prod.mk.injEq] at this
      obtain ⟨-, rfl⟩ := this
      have hxk : keep[j] ∈ keep := List.getElem_mem hjl
      obtain ⟨s, hs⟩ := begsL_iff.1 (hC.begs _ hxk)
      obtain ⟨hsS, hsf, -⟩ := spotAt_some hs
      rw [rowAt_some hs] at hv
      rw [(kC_ok (posL keep Y) (hmem s hsS).1 hsf).2.2.1] at hv
      obtain ⟨u, hu, rfl⟩ := List.mem_map.1 hv
      by_cases hu0 : u = 0
      · left; unfold refT; rw [if_pos hu0]
      · right
        have hk := Iso.link_of hC hxk hs u hu hu0
        obtain ⟨t, ht⟩ := begsL_iff.1 (hC.begs _ hk)
        obtain ⟨t', ht', -⟩ := hiso.at_ _ hk t ht
        rw [hsp] at ht'
        rw [← starts_mem]
        obtain ⟨g1, g2, g3⟩ := spotAt_some ht'
        refine ⟨t', g1, ?_⟩
        unfold refT
        rw [if_neg hu0]
        simp [isPlace, g2, g3]
  · rw [hsp, gapsL_chunks hok]
    exact gapsP_laid N _ 0 hR
theorem reached_iso {a b L : List Int} {φ : Int → Int} {f : List Int} (h : Iso a b L φ) (hL0 : ∀ x ∈ L, 0 ≤ x) (hL : Reached a (spotsL a) f L) (hs : (L.map φ).Pairwise (fun x y => x ≤ y)) : Reached b (spotsL b) (f.map φ) (L.map φ) := by
  have hC : ClosedL a L := ⟨hL.begs, hL.closed, hL0⟩
  refine ⟨fun x hx => ?_, fun x hx => ?_, fun x hx y hy => ?_, fun X h1 h2 x hx => ?_, hs, ?_⟩
  · obtain ⟨z, hz, rfl⟩ := List.mem_map.1 hx
    obtain ⟨s, hs⟩ := begsL_iff.1 (hL.begs z hz)
    obtain ⟨s', hs', -⟩ := h.at_ z hz s hs
    exact begsL_iff.2 ⟨s', hs'⟩
  · obtain ⟨z, hz, rfl⟩ := List.mem_map.1 hx
    exact List.mem_map.2 ⟨z, hL.roots z hz, rfl⟩
  · obtain ⟨z, hz, rfl⟩ := List.mem_map.1 hx
    rw [h.links hC hz] at hy
    obtain ⟨u, hu, rfl⟩ := List.mem_map.1 hy
    exact List.mem_map.2 ⟨u, hL.closed z hz u hu, rfl⟩
  · obtain ⟨z, hz, rfl⟩ := List.mem_map.1 hx
    have := hL.least (fun x => x ∈ L ∧ X (φ x)) (fun x hx => ⟨hL.roots x hx, h1 _ (List.mem_map.2 ⟨x, hx, rfl⟩)⟩) (fun x ⟨hxL, hX⟩ y hy => ⟨hL.closed x hxL y hy, h2 _ hX _ (by
      rw [h.links hC hxL]
      exact List.mem_map.2 ⟨y, hy, rfl⟩)⟩) z hz
    exact this.2
  · have h1 := hL.once
    have h2 := h.inj
    clear hs hC hL
    rw [List.nodup_iff_pairwise_ne, List.pairwise_map]
    rw [List.nodup_iff_pairwise_ne] at h1
    exact h1.imp_of_mem (fun {x y} hx hy hne e => hne (h2 x hx y hy e))
end Go.Proofs.YtbmkbnalembbjaaGreatDoor

namespace Go.Proofs.YtbmkbnalembbjaaGreatDoor
open Go.RowKit
theorem rows_slid {a : List Int} {φ : Int → Int} (N : Nat) (pinned : List Int) : ∀ (keep L : List Int) (e : Nat), Kept N keep L → (∀ x, keep[0]? = some x → (e : Int) ≤ x) → e ≤ N →
    (∀ (j : Nat) (x k : Int), keep[j]? = some x → L[j]? = some k → (rowAt a φ x).ok ∧ (rowAt a φ x).f = false ∧ ((rowAt a φ x).len : Int) = k) →
    RowsOk N e (List.zipWith (fun x y => (y.toNat, rowAt a φ x)) keep (slidGo pinned e keep L)) ∧ ysOf (List.zipWith (fun x y => (y.toNat, rowAt a φ x)) keep (slidGo pinned e keep L)) = slidGo pinned e keep L ∧
      lensOf (List.zipWith (fun x y => (y.toNat, rowAt a φ x)) keep (slidGo pinned e keep L)) = L := by
  intro keep
  induction keep with
  | nil =>
    intro L e hK _ he _
    cases L with
    | nil => exact ⟨he, rfl, rfl⟩
    | cons n ls => have := hK.same; simp at this
  | cons x ks ih =>
    intro L e hK he heN hrow
    cases L with
    | nil => have := hK.same; simp at this
    | cons n ls =>
      obtain ⟨x0, n1, n2, hxn⟩ := hK.at_ 0 x n rfl rfl
      have hex := he x rfl
      obtain ⟨r1, r2, r3⟩ := hrow 0 x n rfl rfl
      obtain ⟨z, hz⟩ : ∃ z : Nat, (z : Int) = (if x ∈ pinned then x else (e : Int)) := by
        by_cases h : x ∈ pinned
        · rw [if_pos h]; exact ⟨x.toNat, by omega⟩
        · rw [if_neg h]; exact ⟨e, rfl⟩
      have hz1 : e ≤ z ∧ (z : Int) ≤ x := by
        by_cases h : x ∈ pinned
        · rw [if_pos h] at hz; omega
        · rw [if_neg h] at hz; omega
      have hY : slidGo pinned e (x :: ks) (n :: ls) = (z : Int) :: slidGo pinned ((z + (rowAt a φ x).len : Nat) : Int) ks ls := by
        simp only [slidGo]
        rw [← hz, show ((z + (rowAt a φ x).len : Nat) : Int) = (z : Int) + n by omega]
      obtain ⟨i1, i2, i3⟩ := ih ls (z + (rowAt a φ x).len) hK.tail (fun y hy => by have := hK.next 0 x n y rfl rfl (by simpa using hy); omega) (by omega) (fun j x' k h1 h2 => hrow (j + 1) x' k (by simpa using h1) (by simpa using h2))
      rw [hY, List.zipWith_cons_cons]
      simp only [ysOf, lensOf] at i2 i3 ⊢
      rw [List.map_cons, List.map_cons, i2, i3]
      refine ⟨⟨?_, r1, r2, ?_⟩, ?_, ?_⟩
      · rw [Int.toNat_natCast]; exact hz1.1
      · rw [Int.toNat_natCast]; exact i1
      · rw [Int.toNat_natCast]
      · rw [r3]
structure Planned (a keep pinned L Y : List Int) : Prop where
  nodup : keep.Nodup
  len : Y.length = keep.length
  lenL : L.length = keep.length
  nn : ∀ y ∈ Y, 0 ≤ y
  rows : RowsOk a.length 0 (rowsOf a keep Y)
  ys : ysOf (rowsOf a keep Y) = Y
  lens : lensOf (rowsOf a keep Y) = L
  begs : ∀ x ∈ keep, x ∈ begsL (spotsL a)
  nn2 : ∀ x ∈ keep, 0 ≤ x
  at_ : ∀ (j : Nat) (x y : Int), keep[j]? = some x → Y[j]? = some y → ∃ (s : Spot) (i : Nat), spotAt (spotsL a) x = some s ∧ atIx a x = i ∧ (spotsL a)[i]? = some s ∧ SpotOk a s ∧ y + s.long ≤ a.length ∧ L[j]? = some s.long ∧ 0 ≤ y ∧ y ≤ x
theorem pL_isBeg (x : Int) : pL x = isBeg x := by
  funext s
  unfold pL isBeg
  rw [Bool.and_comm]
theorem planned_of {a keep pinned : List Int} (hE : longsE a keep pinned = 0) : Planned a keep pinned (longsV a keep pinned) (slidGo pinned 0 keep (longsV a keep pinned)) := by
  obtain ⟨hK, hN⟩ := kept_of hE
  obtain ⟨h1, h2, h3, h4, h5⟩ := longsE_ok.1 hE
  have h0 := (checkE_ok.1 h1).1
  have hV : longsV a keep pinned = keep.map (longAt (spotsL a)) := by unfold longsV; rw [if_pos hE]
  have hspot : ∀ x ∈ keep, ∃ (s : Spot) (i : Nat), spotAt (spotsL a) x = some s ∧ atIx a x = i ∧ (spotsL a)[i]? = some s ∧ SpotOk a s ∧ longAt (spotsL a) x = s.long := by
    intro x hx
    obtain ⟨i, s, e1, e2, e3, e4, e5, e6, e7⟩ := spots_of_ix h0 (h4 x hx)
    refine ⟨s, i, ?_, e7, e2, e5, e6⟩
    unfold spotAt
    rw [← pL_isBeg]
    rcases ixOf_cases (pL x) (spotsL a) with ⟨f1, f2⟩ | ⟨i', s', f1, f2, f3, f4⟩
    · have := f2 s (List.mem_of_getElem? e2)
      simp [pL, e3, e4] at this
    · have : i' = i := by omega
      subst this
      obtain rfl := Option.some.inj (f2.symm.trans e2)
      rw [List.find?_eq_some_iff_append]
      refine ⟨f3, (spotsL a).take i', (spotsL a).drop (i' + 1), ?_, fun y hy => by simp [f4 y hy]⟩
      obtain ⟨q1, q2⟩ := List.getElem?_eq_some_iff.1 f2
      rw [← q2, ← List.drop_eq_getElem_cons q1, List.take_append_drop]
  have hn : keep.Nodup := by
    rw [List.nodup_iff_pairwise_ne]
    exact (risesP_pairwise h2).imp (fun h => by omega)
  have he : ∀ x, keep[0]? = some x → (0 : Int) ≤ x := fun x hx => by
    obtain ⟨s, i, e1, -, -, e4, -⟩ := hspot x (List.mem_of_getElem? hx)
    have := e4.loc0
    have := (spotAt_some e1).2.2
    omega
  have hS := slid_of a.length pinned keep (longsV a keep pinned) 0 hK he
  have hrows := rows_slid (a := a) (φ := posL keep (slidGo pinned 0 keep (longsV a keep pinned))) a.length pinned keep (longsV a keep pinned) 0 hK he (Nat.zero_le _) (fun j x k hx hk => by
    obtain ⟨s, i, e1, -, -, e4, e5⟩ := hspot x (List.mem_of_getElem? hx)
    rw [rowAt_some e1]
    obtain ⟨k1, k2, -, -⟩ := kC_ok (posL keep (slidGo pinned 0 keep (longsV a keep pinned))) e4 (spotAt_some e1).2.1
    refine ⟨k1, rfl, ?_⟩
    rw [hV, List.getElem?_map, hx] at hk
    have := Option.some.inj hk
    omega)
  refine ⟨hn, hS.len, hK.same, fun y hy => ?_, hrows.1, hrows.2.1, hrows.2.2, fun x hx => ?_, fun x hx => ?_, fun j x y hx hy => ?_⟩
  · obtain ⟨j, hj⟩ := List.mem_iff_getElem?.1 hy
    exact hS.low j y hj
  · obtain ⟨s, i, e1, -⟩ := hspot x hx
    exact begsL_iff.2 ⟨s, e1⟩
  · obtain ⟨s, i, e1, -, -, e4, -⟩ := hspot x hx
    have := e4.loc0
    have := (spotAt_some e1).2.2
    omega
  · obtain ⟨s, i, e1, e2, e3, e4, e5⟩ := hspot x (List.mem_of_getElem? hx)
    have hk : (longsV a keep pinned)[j]? = some s.long := by rw [hV, List.getElem?_map, hx, Option.map_some, e5]
    obtain ⟨g1, g2, g3, g4⟩ := hS.at_ j x y s.long hx hk hy
    exact ⟨s, i, e1, e2, e3, e4, g3, hk, hS.low j y hy, g1⟩
def nowM (keep Y : List Int) (j : Nat) : Int → Option Value := fun v => if v = 0 then some (.int .u64 0) else if v - 1 ∈ keep.take j then some (.int .u64 (posL keep Y (v - 1) + 1)) else none
theorem nowM_zero (keep Y : List Int) : nowM keep Y 0 = upd (fun _ => none) 0 (.int .u64 0) := by
  funext v
  simp [nowM, upd]
theorem nowM_succ {keep Y : List Int} (hn : keep.Nodup) {j : Nat} {x y : Int} (hx : keep[j]? = some x) (hy : Y[j]? = some y) (h0 : 0 ≤ x) : nowM keep Y (j + 1) = upd (nowM keep Y j) (x + 1) (.int .u64 (y + 1)) := by
  funext v
  unfold nowM upd
  obtain ⟨h1, h2⟩ := List.getElem?_eq_some_iff.1 hx
  rw [List.take_succ_eq_append_getElem h1, h2]
  by_cases hv : v = x + 1
  · subst hv
    rw [if_neg (by omega), if_pos rfl, show x + 1 - 1 = x by omega, if_pos (by simp), posL_at hn hx hy]
  · rw [if_neg hv]
    have : (v - 1 ∈ keep.take j ++ [x]) ↔ v - 1 ∈ keep.take j := by
      rw [List.mem_append, List.mem_singleton]
      exact ⟨fun h => h.resolve_right (by omega), .inl⟩
    simp only [this]
theorem nowM_at {keep Y : List Int} {v : Int} (h : v ≠ 0 → v - 1 ∈ keep) : nowM keep Y keep.length v = some (.int .u64 (refT (posL keep Y) v)) := by
  unfold nowM refT
  by_cases h0 : v = 0
  · rw [if_pos h0, if_pos h0]
  · rw [if_neg h0, if_neg h0, List.take_length, if_pos (h h0)]
end Go.Proofs.YtbmkbnalembbjaaGreatDoor

namespace Go.Proofs.YtbmkbnalembbjaaGreatDoor
open Go.RowKit
theorem splice_set {α : Type} {L cs : List α} {off k : Nat} (v : α) (h : off ≤ L.length) (hk : k < cs.length) : (splice L off cs).set (off + k) v = splice L off (cs.set k v) := by
  unfold splice
  rw [List.set_append_right _ _ (by rw [List.length_take]; omega), List.length_take, Nat.min_eq_left h, show off + k - off = k by omega, List.set_append_left _ _ hk, List.length_set]
theorem splice_at {α : Type} {L cs : List α} {off k : Nat} (h : off ≤ L.length) (hk : k < cs.length) : (splice L off cs)[off + k]? = cs[k]? := by
  unfold splice
  rw [List.getElem?_append_right (by rw [List.length_take]; omega), List.length_take, Nat.min_eq_left h, show off + k - off = k by omega, List.getElem?_append_left hk]
theorem splice_map {α β : Type} (f : α → β) (L cs : List α) (off : Nat) : (splice L off cs).map f = splice (L.map f) off (cs.map f) := by
  unfold splice
  simp
theorem obj_words {a : List Int} {s : Spot} (h : SpotOk a s) : (a.drop s.loc.toNat).take s.long.toNat = wordOf s.r s.b s.t s.f :: (refsOf a s ++ bodyOf a s) := by
  have l0 := h.loc0
  have r0 := h.r0
  have b0 := h.b0
  have ft := h.fits
  unfold Spot.long at ft ⊢
  obtain ⟨h1, h2⟩ := List.getElem?_eq_some_iff.1 h.word
  rw [List.drop_eq_getElem_cons h1, h2, show (1 + s.r + s.b).toNat = (s.r.toNat + s.b.toNat) + 1 by omega, List.take_succ_cons]
  congr 1
  unfold refsOf bodyOf
  rw [List.take_add, List.drop_drop]
theorem zero_u64 (w : World) : (zeroValue 45).run Tryz.prog w = .ok (.int .u64 0) w := by kernel_rfl
theorem mid_set {Wd z : Int} {A rs bs : List Int} {q : Nat} (hA : A.length = q) (hq : q < rs.length) : (Wd :: (A ++ (rs.drop q ++ bs))).set (1 + q) z = Wd :: ((A ++ [z]) ++ (rs.drop (q + 1) ++ bs)) := by
  rw [Nat.add_comm 1 q, List.set_cons_succ, List.set_append_right _ _ (by omega), hA, Nat.sub_self, List.drop_eq_getElem_cons hq, List.cons_append, List.set_cons_zero]
  simp
end Go.Proofs.YtbmkbnalembbjaaGreatDoor

namespace Go.Proofs.YtbmkbnalembbjaaGreatDoor
open Go.RowKit
theorem info_intG : (Tryz.prog.info? 3).map (fun i => (i.zero, i.size, i.bytes)) = some (some (.int .i64 0), 1, 8) := by kernel_rfl
def fitsL (l : List Rn) (n : Int) : List Int := if fitsE l n = 0 then fitIx n 0 l else []
set_option maxHeartbeats 400000 in
theorem fits_arg (A : Option Addr) (m c : Nat) (n : Int) (w : World) (hn : n < 1) :
    Calls Tryz.prog 100 #[.slice A m c, .int .i64 n] w fun e w' => e = .returned (.tuple #[.slice none 0 0, .int .i64 1]) ∧ w = w' := by
  go_enter Tryz.func100, Tryz.ntmps100
  go_wp2
  go_ret2
  exact ⟨rfl, rfl⟩
set_option maxRecDepth 100000 in
set_option maxHeartbeats 1000000 in
theorem fits_any (A : Option Addr) (m c : Nat) (l : List Rn) (n : Int) (w : World) (hr : Reads w w.heap.size 2 A m (runsC l)) (hm : m * 16 ≤ 140737488351232) :
    Calls Tryz.prog 100 #[.slice A m c, .int .i64 n] w fun e w' => Below w.heap.size w w' ∧ ∃ A' c', e = .returned (.tuple #[.slice A' (fitsL l n).length c', .int .i64 (fitsE l n)]) ∧ w'.ownsRow w.heap.size 3 1 (.slice A' (fitsL l n).length c') (fitsL l n).length ((fitsL l n).map (.int .i64)) := by
  by_cases hn : n < 1
  · have he : fitsE l n = 1 := by unfold fitsE; rw [if_pos hn]
    have hl : fitsL l n = [] := by unfold fitsL; rw [he]; rfl
    rw [he, hl]
    refine (fits_arg A m c n w hn).mono ?_
    rintro e w' ⟨rfl, rfl⟩
    exact ⟨Below.refl _ _, none, 0, rfl, World.ownsRow_nil _ _ _ _⟩
  · have hn1 : 1 ≤ n := by omega
    have hll : l.length = m := by have := hr.1; rw [runsC_length] at this; omega
    have HL := Lib.hid hll
    obtain ⟨i0, hi, hz0, hz1, hz2⟩ := info_parts info_intG
    clear hll hn
    go_enter Tryz.func100, Tryz.ntmps100
    go_wp2
    go_loopw [6, 7, 8, 13] (fun o _ _ i wr => ∃ (j : Nat) (A' : Option Addr) (k c' : Nat), j ≤ m ∧ i = .int .i64 j ∧ o = .slice A' k c' ∧ k ≤ j ∧ Hid (k = (fitIx n 0 (l.take j)).length) ∧ Hid ((l.take j).any badRun = false) ∧ wr.ownsRow w.heap.size 3 1 (.slice A' k c') k ((fitIx n 0 (l.take j)).map (.int .i64)) ∧ Below w.heap.size w wr) (fun _ _ _ i _ => m - (intOf i).toNat)
    case atStart => exact ⟨0, none, 0, 0, Nat.zero_le _, rfl, rfl, Nat.le_refl _, rfl, rfl, World.ownsRow_nil _ _ _ _, Below.refl _ _⟩
    case round =>
      obtain ⟨j, A', k, c', hj, rfl, rfl, hkj, hk, hB, hown, hb⟩ := hrel
      by_cases hlt : j < m
      · obtain ⟨ad, r, rfl, had, hs, c0, c1⟩ := (hr.below hb).run hlt
        have HT : Hid (l.take (j + 1) = l.take j ++ [r]) := by
          show _ = _
          obtain ⟨h1, rfl⟩ := List.getElem?_eq_some_iff.1 hs
          exact List.take_succ_eq_append_getElem h1
        have HLen : Hid ((l.take j).length = j) := by show _ = _; rw [List.length_take, HL.out]; omega
        have HSM : Hid (r ∈ l) := List.mem_of_getElem? hs
        clear hs
        obtain ⟨loc, ln⟩ := r
        dsimp only at c0 c1
        have hown0 := hown.alloc (.cells #[.int .i64 loc, .int .i64 ln] 133)
        have hb0 := hb.alloc hb.size (.cells #[.int .i64 loc, .int .i64 ln] 133)
        clear hown hb
        by_cases hbad : badRun ⟨loc, ln⟩ = true
        · have hE : Hid (fitsE l n = 4) := by
            show _ = _
            unfold fitsE
            rw [if_neg (by omega), if_pos (List.any_eq_true.2 ⟨_, HSM.out, hbad⟩)]
          have hbad' : loc < 0 ∨ ln < 1 := by simpa [badRun] using hbad
          clear hbad
          by_cases h0 : loc < 0
          all_goals
            try have h1 : ln < 1 := by omega
            go_wp2
            go_ret2
            have hl : fitsL l n = [] := by unfold fitsL; rw [hE.out]; rfl
            rw [hE.out, hl]
            exact ⟨hb0, none, 0, rfl, World.ownsRow_nil _ _ _ _⟩
        · have HB2 : Hid ((l.take (j + 1)).any badRun = false) := by
            show _ = _
            rw [HT.out, List.any_append, hB.out]
            simp at hbad
            simp [hbad]
          have hg : ¬ loc < 0 ∧ ¬ ln < 1 := by simpa [badRun] using hbad
          obtain ⟨g0, g1⟩ := hg
          clear hbad
          by_cases hfit : n ≤ ln
          · have HQ : Hid (fitIx n 0 (l.take (j + 1)) = fitIx n 0 (l.take j) ++ [(j : Int)]) := by
              show _ = _
              rw [HT.out, fitIx_snoc, if_pos hfit, HLen.out, Nat.zero_add]
            have hown2 := hown0.alloc (.cells #[.int .i64 j] 3)
            have hb2 := hb0.alloc hb0.size (.cells #[.int .i64 j] 3)
            have hnew := reads_new (wr.alloc (.cells #[.int .i64 loc, .int .i64 ln] 133)) [.int .i64 j] 3 1 1 rfl
            simp only [World.size_alloc] at hnew
            clear hown0 hb0
            go_wp2_with (at_builtin; refine wpList_append_any _ rfl (.tmp 32) (.tmp 34) 23 rfl w.heap.size 3 i0 (.int .i64 0) 1 8 Tryz.underlying23 hi hz0 hz1 hz2 rfl (by decide) (.slice A' k c') k _ rfl hown2 (wr.heap.size + 1 + 1) (some ⟨wr.heap.size + 1, 0, none⟩) 1 1 [.int .i64 j] rfl hnew (by simp [Value.oneCell']) (by simp [maxLen]; omega) (by omega) (by have := hb2.size; exact this) ?_; rintro v' w3 hown3 hgr hbl -; obtain ⟨A'', c'', rfl⟩ := own_slice hown3)
            have hb3 : Below w.heap.size w w3 := hb2.grown hgr hb2.size (fun g hg => (hown2.lt g hg).1)
            go_roundw
            case rel => exact ⟨j + 1, A'', k + 1, c'', by omega, by go_num, rfl, by omega, by show _ = _; rw [HQ.out, List.length_append, ← hk.out]; rfl, HB2, by rw [HQ.out, List.map_append]; exact hown3, hb3⟩
            case measure => simp [intOf]; omega
          · have HQ : Hid (fitIx n 0 (l.take (j + 1)) = fitIx n 0 (l.take j)) := by
              show _ = _
              rw [HT.out, fitIx_snoc, if_neg hfit, List.append_nil]
            go_wp2
            go_roundw
            case rel => exact ⟨j + 1, A', k, c', by omega, by go_num, rfl, by omega, by show _ = _; rw [HQ.out]; exact hk.out, HB2, by rw [HQ.out]; exact hown0, hb0⟩
            case measure => simp [intOf]; omega
      · have hjm : j = m := by omega
        subst hjm
        rw [List.take_of_length_le (by rw [HL.out]; exact Nat.le_refl _)] at hk hB hown
        by_cases hk0 : k = 0
        · have he : Hid (fitsE l n = 7) := by
            show _ = _
            unfold fitsE
            rw [if_neg (by omega), if_neg (by rw [hB.out]; decide), if_pos (List.length_eq_zero_iff.1 (hk.out.symm.trans hk0))]
          subst hk0
          go_wp2
          go_ret2
          have hl : fitsL l n = [] := by unfold fitsL; rw [he.out]; rfl
          rw [he.out, hl]
          exact ⟨hb, none, 0, rfl, World.ownsRow_nil _ _ _ _⟩
        · have he : Hid (fitsE l n = 0) := by
            show _ = _
            refine fitsE_ok.2 ⟨hn1, hB.out, fun h => hk0 (by rw [hk.out, h]; rfl)⟩
          have hk1 : ((k : Int) == 0) = false := by simpa using hk0
          go_wp2
          go_ret2
          have hl : fitsL l n = fitIx n 0 l := by unfold fitsL; rw [if_pos he.out]
          rw [he.out, hl, ← hk.out]
          exact ⟨hb, A', c', rfl, hown⟩
end Go.Proofs.YtbmkbnalembbjaaGreatDoor

namespace Go.Proofs.YtbmkbnalembbjaaGreatDoor
open Go.RowKit
set_option maxHeartbeats 400000 in
theorem rises_any (A : Option Addr) (n c B : Nat) (l : List Int) (w : World) (hr : Reads w B 1 A n (l.map (.int .i64))) (hn : n ≤ 1000000000000000000) :
    Calls Tryz.prog 162 #[.slice A n c] w fun e w' => e = .returned (.bool (risesP l)) ∧ ∃ q, w' = w.drewN q := by
  have hll : l.length = n := by have := hr.1; simpa using this
  have HL := Lib.hid hll
  clear hll
  go_enter Tryz.func162, Tryz.ntmps162
  go_wp2
  go_loopw [3] (fun i wr => ∃ j : Nat, j ≤ n ∧ i = .int .i64 (j + 1) ∧ Hid (risesP l = risesP (l.drop j)) ∧ ∃ q, wr = w.drewN q) (fun i _ => n + 1 - (intOf i).toNat)
  case atStart => exact ⟨0, Nat.zero_le _, rfl, rfl, 0, rfl⟩
  case round =>
    obtain ⟨j, hj, rfl, hR, q, rfl⟩ := hrel
    by_cases hlt : j + 1 < n
    · obtain ⟨ad, x, rfl, _, hx, cx⟩ := hr.num (k := j) (by omega)
      obtain ⟨ad2, y, e2, _, hy, cy⟩ := hr.num (k := j + 1) (by omega)
      obtain rfl : ad = ad2 := by injection e2
      rw [addr_add_pos _ _ (Nat.succ_pos _)] at cy
      have HD : Hid (l.drop j = x :: y :: l.drop (j + 1 + 1)) := by show _ = _; rw [drop_of_get hx, drop_of_get hy]
      have HD2 := Lib.hid (drop_of_get hy)
      have hlt2 : ((j : Int) + 1) < n := by omega
      have hw1 : IntKind.i64.wrap (j : Int) = j := IntWalk.i64_in _ (by omega)
      have hw2 : IntKind.i64.wrap ((j : Int) + 1 + 1) = (j : Int) + 1 + 1 := IntWalk.i64_in _ (by omega)
      have ht : ((j : Int) + 1).toNat = j + 1 := by omega
      have hp : (0 : Int) ≤ (j : Int) + 1 := by omega
      have hlt3 : (j : Int) < n := by omega
      clear hx hy e2
      by_cases hxy : x < y
      · have hd : decide (y ≤ x) = false := decide_eq_false (by omega)
        have HR2 : Hid (risesP l = risesP (l.drop (j + 1))) := by
          show _ = _
          rw [hR.out, HD.out, HD2.out]
          simp only [risesP]
          rw [decide_eq_true hxy, Bool.true_and]
        go_wp2
        go_quiet (fail)
        go_wp2
        go_roundw
        case rel => exact ⟨j + 1, by omega, by simp, HR2, _, rfl⟩
        case measure => simp [intOf]; omega
      · have hd : decide (y ≤ x) = true := decide_eq_true (by omega)
        have HR2 : Hid (risesP l = false) := by
          show _ = _
          rw [hR.out, HD.out]
          simp only [risesP]
          rw [decide_eq_false hxy, Bool.false_and]
        go_wp2
        go_quiet (fail)
        go_wp2
        go_ret
        rw [HR2.out]
        exact ⟨rfl, _, drewN_add _ _ _⟩
    · have HR2 : Hid (risesP l = true) := by
        show _ = _
        rw [hR.out]
        match hm : l.drop j with
        | [] => rfl
        | [_] => rfl
        | a :: b :: t =>
          have := congrArg List.length hm
          rw [List.length_drop, HL.out] at this
          simp only [List.length_cons] at this
          omega
      have hge : ¬ (j : Int) + 1 < n := by omega
      go_wp2
      go_ret
      rw [HR2.out]
      exact ⟨rfl, _, rfl⟩
set_option maxHeartbeats 400000 in
theorem longsC1_any (g : Nat) (x : Int) (s : Spot) (w : World) (hg : g < w.heap.size) (hc : w.cell? ⟨g, 0, none⟩ = some (.int .i64 x)) :
    Calls Tryz.prog 163 #[.agg #[.int .i64 s.loc, .int .i64 s.r, .int .i64 s.b, .int .i64 s.t, .bool s.f], .pointer (some ⟨g, 0, none⟩)] w fun e w' => e = .returned (.bool (pL x s)) ∧ Below w.heap.size w w' := by
  obtain ⟨loc, r, b, t, f⟩ := s
  have hc' : ∀ o, (w.alloc o).cell? ⟨g, 0, none⟩ = some (.int .i64 x) := fun o => by rw [World.cell?_alloc_lt _ _ _ (by exact hg)]; exact hc
  unfold pL
  dsimp only
  by_cases h : loc = x
  · subst h
    go_enter Tryz.func163, Tryz.ntmps163
    go_wp2
    go_ret
    exact ⟨by simp, below_new _ _⟩
  · have h1 : (loc == x) = false := by simpa using h
    rw [h1, Bool.false_and]
    go_enter Tryz.func163, Tryz.ntmps163
    go_wp2
    go_ret
    exact ⟨rfl, below_new _ _⟩
set_option maxHeartbeats 400000 in
theorem longsC2_any (g B : Nat) (A : Option Addr) (n c : Nat) (keep : List Int) (x : Int) (w : World) (hc : w.cell? ⟨g, 0, none⟩ = some (.slice A n c)) (hr : Reads w B 1 A n (keep.map (.int .i64))) (hn : n ≤ 1000000000000000000) :
    Calls Tryz.prog 164 #[.int .i64 x, .pointer (some ⟨g, 0, none⟩)] w fun e w' => e = .returned (.bool (!decide (x ∈ keep))) ∧ Below w.heap.size w w' := by
  have H := Lib.hid (contains_int A n c B keep x _ w hr hn rfl)
  generalize decide (x ∈ keep) = b at *
  go_enter Tryz.func164, Tryz.ntmps164
  go_wp2_with fail
  refine H.out.mono ?_
  rintro e w1 ⟨rfl, rfl⟩
  go_wp2
  go_ret
  exact ⟨rfl, Below.refl _ _⟩
set_option maxRecDepth 100000 in
set_option maxHeartbeats 1000000 in
theorem slid_any (A A2 A3 : Option Addr) (n c c2 m c3 _ : Nat) (N : Int) (keep long pinned : List Int) (w : World) (hr : Reads w w.heap.size 1 A n (keep.map (.int .i64))) (hr2 : Reads w w.heap.size 1 A2 n (long.map (.int .i64))) (hr3 : Reads w w.heap.size 1 A3 m (pinned.map (.int .i64)))
    (hn : n * 8 ≤ 140737488351232) (hm : m ≤ 1000000000000000000) (hK : Kept N keep long) (hN : 0 ≤ N ∧ N ≤ 256) :
    Calls Tryz.prog 153 #[.slice A n c, .slice A2 n c2, .slice A3 m c3] w fun e w' => Below w.heap.size w w' ∧ ∃ A' c', e = .returned (.slice A' n c') ∧ w'.ownsRow w.heap.size 3 1 (.slice A' n c') n ((slidGo pinned 0 keep long).map (.int .i64)) := by
  have hkl : keep.length = n := by have := hr.1; simpa using this
  have hll : long.length = n := by have := hr2.1; simpa using this
  have HL := Lib.hid hkl
  have HL2 := Lib.hid hll
  have HK := Lib.hid hK
  obtain ⟨i0, hi, hz0, hz1, hz2⟩ := info_parts info_intG
  clear hkl hll hK
  go_enter Tryz.func153, Tryz.ntmps153
  go_wp2
  go_loopw [7, 8, 9, 10, 13] (fun o e _ _ i wr => ∃ (j : Nat) (A' : Option Addr) (c' : Nat) (acc : List Int) (y : Int), j ≤ n ∧ i = .int .i64 j ∧ o = .slice A' j c' ∧ e = .int .i64 y ∧ 0 ≤ y ∧ y ≤ 256 ∧ Hid (∀ x, keep[j]? = some x → y ≤ x) ∧
    Hid (slidGo pinned 0 keep long = acc ++ slidGo pinned y (keep.drop j) (long.drop j)) ∧ wr.ownsRow w.heap.size 3 1 (.slice A' j c') j (acc.map (.int .i64)) ∧ Below w.heap.size w wr) (fun _ _ _ _ i _ => n - (intOf i).toNat)
  case atStart => exact ⟨0, none, 0, [], 0, Nat.zero_le _, rfl, rfl, rfl, by omega, by omega, (fun x hx => by
    have hx2 : ∃ n0, long[0]? = some n0 := ⟨_, List.getElem?_eq_getElem (by rw [HL2.out]; have := (List.getElem?_eq_some_iff.1 hx).1; rw [HL.out] at this; exact this)⟩
    obtain ⟨n0, hn0⟩ := hx2
    exact (HK.out.at_ 0 x n0 hx hn0).1), rfl, World.ownsRow_nil _ _ _ _, Below.refl _ _⟩
  case round =>
    obtain ⟨j, A', c', acc, y, hj, rfl, rfl, rfl, hy0, hy1, hle, hG, hown, hb⟩ := hrel
    by_cases hlt : j < n
    · obtain ⟨ad, x, rfl, had, hx, cx⟩ := (hr.below hb).num hlt
      obtain ⟨ad2, k, rfl, had2, hk, ck⟩ := (hr2.below hb).num hlt
      obtain ⟨x0, k1, k2, hxk⟩ := HK.out.at_ j x k hx hk
      have hyx := hle.out x hx
      have HNX := Lib.hid (fun y => HK.out.next j x k y hx hk)
      obtain ⟨z, hz⟩ : ∃ z, z = (if x ∈ pinned then x else y) := ⟨_, rfl⟩
      have hz0' : 0 ≤ z ∧ z ≤ x := by rw [hz]; split <;> omega
      have HG2 : Hid (slidGo pinned 0 keep long = (acc ++ [z]) ++ slidGo pinned (z + k) (keep.drop (j + 1)) (long.drop (j + 1))) := by
        show _ = _
        rw [hG.out, drop_of_get hx, drop_of_get hk]
        simp only [slidGo]
        rw [← hz, List.append_assoc]
        rfl
      have hlt2 : (j : Int) < n := by omega
      have hzw : IntKind.i64.wrap (z + k) = z + k := IntWalk.i64_in _ (by omega)
      have HC := Lib.hid (fun w B hr => contains_int A3 m c3 B pinned x _ w hr hm rfl)
      have hr3b := hr3.below hb
      have HLE : Hid (∀ v, keep[j + 1]? = some v → z + k ≤ v) := fun v hv => by have := HNX.out v hv; omega
      by_cases hp : x ∈ pinned
      · rw [if_pos hp] at hz
        subst hz
        rw [decide_eq_true hp] at HC
        have hown2 := hown.alloc (.cells #[.int .i64 z] 3)
        have hb2 := hb.alloc hb.size (.cells #[.int .i64 z] 3)
        have hnew := reads_new wr [.int .i64 z] 3 1 1 rfl
        clear hx hk hp hG hle HNX hz0'
        go_wp2_with (first
          | (go_at_call 79; refine (HC.out _ _ hr3b).mono ?_; rintro e w1 ⟨rfl, rfl⟩)
          | (at_builtin; refine wpList_append_any _ rfl (.tmp 23) (.tmp 25) 23 rfl w.heap.size 3 i0 (.int .i64 0) 1 8 Tryz.underlying23 hi hz0 hz1 hz2 rfl (by decide) (.slice A' j c') j _ rfl hown2 (wr.heap.size + 1) (some ⟨wr.heap.size, 0, none⟩) 1 1 [.int .i64 z] rfl hnew (by simp [Value.oneCell']) (by simp [maxLen]; omega) (by omega) (by have := hb2.size; exact this) ?_; rintro v' w3 hown3 hgr hbl -; obtain ⟨A'', c'', rfl⟩ := own_slice hown3;
              have hb3 : Below w.heap.size w w3 := hb2.grown hgr hb2.size (fun g hg => (hown2.lt g hg).1); have ck3 := (hb3.cell (p := ad2.add j) (by rw [block_of_add]; exact had2)).trans ((hb.cell (p := ad2.add j) (by rw [block_of_add]; exact had2)).symm.trans ck)))
        go_roundw
        case rel => exact ⟨j + 1, A'', c'', acc ++ [z], z + k, by omega, by go_num, rfl, rfl, by omega, by omega, HLE, HG2, by rw [List.map_append]; exact hown3, hb3⟩
        case measure => simp [intOf]; omega
      · rw [if_neg hp] at hz
        subst hz
        rw [decide_eq_false hp] at HC
        have hown2 := hown.alloc (.cells #[.int .i64 z] 3)
        have hb2 := hb.alloc hb.size (.cells #[.int .i64 z] 3)
        have hnew := reads_new wr [.int .i64 z] 3 1 1 rfl
        clear hx hk hp hG hle HNX hz0'
        go_wp2_with (first
          | (go_at_call 79; refine (HC.out _ _ hr3b).mono ?_; rintro e w1 ⟨rfl, rfl⟩)
          | (at_builtin; refine wpList_append_any _ rfl (.tmp 23) (.tmp 25) 23 rfl w.heap.size 3 i0 (.int .i64 0) 1 8 Tryz.underlying23 hi hz0 hz1 hz2 rfl (by decide) (.slice A' j c') j _ rfl hown2 (wr.heap.size + 1) (some ⟨wr.heap.size, 0, none⟩) 1 1 [.int .i64 z] rfl hnew (by simp [Value.oneCell']) (by simp [maxLen]; omega) (by omega) (by have := hb2.size; exact this) ?_; rintro v' w3 hown3 hgr hbl -; obtain ⟨A'', c'', rfl⟩ := own_slice hown3;
              have hb3 : Below w.heap.size w w3 := hb2.grown hgr hb2.size (fun g hg => (hown2.lt g hg).1); have ck3 := (hb3.cell (p := ad2.add j) (by rw [block_of_add]; exact had2)).trans ((hb.cell (p := ad2.add j) (by rw [block_of_add]; exact had2)).symm.trans ck)))
        go_roundw
        case rel => exact ⟨j + 1, A'', c'', acc ++ [z], z + k, by omega, by go_num, rfl, rfl, by omega, by omega, HLE, HG2, by rw [List.map_append]; exact hown3, hb3⟩
        case measure => simp [intOf]; omega
    · have hjn : j = n := by omega
      subst hjn
      rw [List.drop_of_length_le (by rw [HL.out]; exact Nat.le_refl _)] at hG
      have hG : Hid (slidGo pinned 0 keep long = acc) := by
        have h := hG.out
        simp only [slidGo, List.append_nil] at h
        exact h
      go_wp2
      go_ret
      rw [hG.out]
      exact ⟨hb, A', c', rfl, hown⟩
set_option maxRecDepth 100000 in
set_option maxHeartbeats 1000000 in
theorem longs_any (A A2 A3 : Option Addr) (n c n2 c2 m c3 : Nat) (a keep pinned : List Int) (w : World) (hr : Reads w w.heap.size 1 A n (a.map (.int .u64))) (hnc : n ≤ c) (ha : ∀ x ∈ a, (Lit.int .u64 x).wf = true)
    (hr2 : Reads w w.heap.size 1 A2 n2 (keep.map (.int .i64))) (hr3 : Reads w w.heap.size 1 A3 m (pinned.map (.int .i64))) (hn2 : n2 * 8 ≤ 140737488351232) (hm : m ≤ 1000000000000000000) :
    Calls Tryz.prog 152 #[.slice A n c, .slice A2 n2 c2, .slice A3 m c3] w fun e w' => Below w.heap.size w w' ∧ ∃ A' c', e = .returned (.tuple #[.slice A' (longsV a keep pinned).length c', .int .i64 (longsE a keep pinned)]) ∧
      w'.ownsRow w.heap.size 3 1 (.slice A' (longsV a keep pinned).length c') (longsV a keep pinned).length ((longsV a keep pinned).map (.int .i64)) := by
  have HCk := fun w hr => checkFn_any A n c a w hr hnc ha
  by_cases hE : checkE a = 0
  · have hE0 := (checkE_ok.1 hE).1
    have HSp := fun w hr => spots_any A n c a w hr ha
    rw [hE] at HCk
    rw [hE0] at HSp
    have hV : longsE a keep pinned ≠ 0 → longsV a keep pinned = [] := fun h => by unfold longsV; rw [if_neg h]
    have hB0 := Below.refl w.heap.size w
    have HR1 := fun w B hr => rises_any A2 n2 c2 B keep w hr (by omega)
    have HR2 := fun w B hr => rises_any A3 m c3 B pinned w hr hm
    cases hr1 : risesP keep
    · have hL : longsE a keep pinned = 3 := by unfold longsE; rw [if_neg (by simpa using hE), hr1, if_pos (by rfl)]
      rw [hV (by rw [hL]; decide), hL]
      rw [hr1] at HR1
      have HCk := Lib.hid HCk
      have HR1 := Lib.hid HR1
      clear HSp HR2 hV hE hE0 hL hB0 hr1
      go_enter Tryz.func152, Tryz.ntmps152
      go_wp2_with fail
      have hba := below_new w (.cells #[.slice A2 n2 c2] 23)
      refine (HCk.out _ ((hr.below hba).more hba.size)).mono ?_
      rintro e w1 ⟨rfl, hb1⟩
      have hb01 := below_step hba hb1
      have k0 := ((Blk.new w 23 #[.slice A2 n2 c2]).below hb1 (by simp)).cell 0
      simp only [List.getElem?_toArray, List.getElem?_cons_zero] at k0
      go_wp2_with fail
      refine (HR1.out _ _ (hr2.below hb01)).mono ?_
      rintro e w2 ⟨rfl, q, rfl⟩
      go_wp2
      go_ret2
      exact ⟨below_drewN hb01 _, none, 0, rfl, World.ownsRow_nil _ _ _ _⟩
    · cases hr2' : risesP pinned
      · have hL : longsE a keep pinned = 3 := by unfold longsE; rw [if_neg (by simpa using hE), hr1, hr2', if_pos (by rfl)]
        rw [hV (by rw [hL]; decide), hL]
        rw [hr1] at HR1
        rw [hr2'] at HR2
        have HCk := Lib.hid HCk
        have HR1 := Lib.hid HR1
        have HR2 := Lib.hid HR2
        clear HSp hV hE hE0 hL hB0 hr1 hr2'
        go_enter Tryz.func152, Tryz.ntmps152
        go_wp2_with fail
        have hba := below_new w (.cells #[.slice A2 n2 c2] 23)
        refine (HCk.out _ ((hr.below hba).more hba.size)).mono ?_
        rintro e w1 ⟨rfl, hb1⟩
        have hb01 := below_step hba hb1
        have k0 := ((Blk.new w 23 #[.slice A2 n2 c2]).below hb1 (by simp)).cell 0
        simp only [List.getElem?_toArray, List.getElem?_cons_zero] at k0
        go_wp2_with fail
        refine (HR1.out _ _ (hr2.below hb01)).mono ?_
        rintro e w2 ⟨rfl, q, rfl⟩
        go_wp2_with fail
        refine (HR2.out _ _ (hr3.below (below_drewN hb01 _))).mono ?_
        rintro e w3 ⟨rfl, q2, rfl⟩
        go_wp2
        go_ret2
        exact ⟨below_drewN hb01 _, none, 0, rfl, World.ownsRow_nil _ _ _ _⟩
      · have hE' : longsE a keep pinned = if keep.any (fun x => decide (ixOf (pL x) (spotsL a) < 0)) = true then 5 else if pinned.any (fun x => !decide (x ∈ keep)) = true then 5 else 0 := by
          unfold longsE; rw [if_neg (by simpa using hE), hr1, hr2', if_neg (by decide)]
        have hbad : ∀ x ∈ keep, ixOf (pL x) (spotsL a) < 0 → longsE a keep pinned = 5 := fun x hx h => by
          rw [hE', if_pos (List.any_eq_true.2 ⟨x, hx, decide_eq_true h⟩)]
        have hgood : (∀ x ∈ keep, 0 ≤ ixOf (pL x) (spotsL a)) → longsE a keep pinned = if pinned.any (fun x => !decide (x ∈ keep)) = true then 5 else 0 := fun h => by
          rw [hE', if_neg]
          intro h2
          obtain ⟨x, hx, hd⟩ := List.any_eq_true.1 h2
          have := h x hx
          simp only [decide_eq_true_eq] at hd
          omega
        have hsp := fun x => spots_of_ix hE0 (x := x)
        have hV2 : longsE a keep pinned = 0 → longsV a keep pinned = keep.map (longAt (spotsL a)) := fun h => by unfold longsV; rw [if_pos h]
        have hS := spotsL_length a
        generalize longsE a keep pinned = E at *
        generalize longsV a keep pinned = V at *
        generalize spotsL a = S at *
        have hk2 : keep.length = n2 := by have := hr2.1; simpa using this
        obtain ⟨k, hk⟩ : ∃ k, k = S.length := ⟨_, rfl⟩
        rw [← hk] at HSp hS
        have HK2 := Lib.hid hk2
        rw [hr1] at HR1
        rw [hr2'] at HR2
        have HCk := Lib.hid HCk
        have HR1 := Lib.hid HR1
        have HR2 := Lib.hid HR2
        have HSp := Lib.hid HSp
        have HBad := Lib.hid hbad
        have HGood := Lib.hid hgood
        have HFound := Lib.hid hsp
        have HV := Lib.hid hV
        have HV2 := Lib.hid hV2
        have HCt := Lib.hid (fun (g : Nat) (W : World) (hg : W.cell? ⟨g, 0, none⟩ = some (.slice A2 n2 c2)) (hkp : ∀ W', Below W.heap.size W W' → W'.cell? ⟨g, 0, none⟩ = some (.slice A2 n2 c2)) (hr2 : Reads W W.heap.size 1 A2 n2 (keep.map (.int .i64))) (hr3 : Reads W W.heap.size 1 A3 m (pinned.map (.int .i64))) =>
          containsIntF_any 164 (.pointer (some ⟨g, 0, none⟩)) A3 m c3 _ pinned (fun x => !decide (x ∈ keep)) W hr3 (Nat.le_refl _) hm (plain_of (fn := Tryz.f164) Tryz.func164 (by kernel_rfl) (by kernel_rfl)) (fun w' x hb' _ => longsC2_any g _ A2 n2 c2 keep x w' (hkp w' hb') (hr2.below hb') (by omega)))
        obtain ⟨i0, hi, hz0, hz1, hz2⟩ := info_parts info_intG
        clear hE hE0 hE' hbad hgood hsp hV hV2 hk2 hr1 hr2' hB0 hk
        go_enter Tryz.func152, Tryz.ntmps152
        go_wp2_with fail
        have hba := below_new w (.cells #[.slice A2 n2 c2] 23)
        refine (HCk.out _ ((hr.below hba).more hba.size)).mono ?_
        rintro e w1 ⟨rfl, hb1⟩
        have hb01 := below_step hba hb1
        have B1 := (Blk.new w 23 #[.slice A2 n2 c2]).below hb1 (by simp)
        have k0 := B1.cell 0
        simp only [List.getElem?_toArray, List.getElem?_cons_zero] at k0
        go_wp2_with fail
        refine (HR1.out _ _ (hr2.below hb01)).mono ?_
        rintro e w2 ⟨rfl, q, rfl⟩
        go_wp2_with fail
        refine (HR2.out _ _ (hr3.below (below_drewN hb01 _))).mono ?_
        rintro e w3 ⟨rfl, q2, rfl⟩
        have hb03 : Below w.heap.size w (w1.drewN (q + q2)) := below_drewN hb01 _
        have B3 := B1.drewN (q + q2)
        go_wp2_with fail
        refine (HSp.out _ ((hr.below hb03).more hb03.size)).mono ?_
        rintro e w5 ⟨hb5, As, cs, rfl, hownS⟩
        have hrS := Reads.of_own hownS
        have hb05 := below_step hb03 hb5
        have B5 := B3.below hb5 (by have := B3.lt; omega)
        have k5 := B5.cell 0
        simp only [List.getElem?_toArray, List.getElem?_cons_zero] at k5
        have hr25 := (hr2.below hb05).more hb05.size
        have hr35 := (hr3.below hb05).more hb05.size
        clear hownS hba hb1 hb01 B1 k0 hb03 B3 hb5
        go_wp2
        go_loopw [11, 13, 14, 15, 16, 37] (fun o _ _ _ _ i wr => ∃ (j : Nat) (A' : Option Addr) (c' : Nat) (acc : List Int), j ≤ n2 ∧ i = .int .i64 j ∧ o = .slice A' j c' ∧ Hid (acc = (keep.take j).map (longAt S)) ∧ Hid (∀ x ∈ keep.take j, 0 ≤ ixOf (pL x) S) ∧
          wr.ownsRow w5.heap.size 3 1 (.slice A' j c') j (acc.map (.int .i64)) ∧ Below w5.heap.size w5 wr) (fun _ _ _ _ _ i _ => n2 - (intOf i).toNat)
        case atStart => exact ⟨0, none, 0, [], Nat.zero_le _, rfl, rfl, rfl, (fun x hx => by simp at hx), World.ownsRow_nil _ _ _ _, Below.refl _ _⟩
        case round =>
          obtain ⟨j, A', c', acc, hj, rfl, rfl, hacc, hF, hown, hb⟩ := hrel
          by_cases hlt : j < n2
          · obtain ⟨ad, x, rfl, had, hx, cx⟩ := (hr25.below hb).num hlt
            have HT : Hid (keep.take (j + 1) = keep.take j ++ [x]) := by
              show _ = _
              obtain ⟨h1, rfl⟩ := List.getElem?_eq_some_iff.1 hx
              exact List.take_succ_eq_append_getElem h1
            have HXM : Hid (x ∈ keep) := List.mem_of_getElem? hx
            have hb0 := hb.alloc hb.size (.cells #[.int .i64 x] 3)
            have B0 := Blk.new wr 3 #[.int .i64 x]
            have HIX := Lib.hid (indexSpot_any 163 (.pointer (some ⟨wr.heap.size, 0, none⟩)) As k cs _ S (pL x) (wr.alloc (.cells #[.int .i64 x] 3)) (hrS.below hb0) (by have := hb0.size; exact this) (by omega) (plain_of (fn := Tryz.f163) Tryz.func163 (by kernel_rfl) (by kernel_rfl)) (fun w' s hb' _ => longsC1_any wr.heap.size x s w' (by have := hb'.size; simp only [World.size_alloc] at this; omega) ((B0.below hb' (by simp)).cell 0)))
            have hown0 := hown.alloc (.cells #[.int .i64 x] 3)
            have HTk : Hid (hown0 = hown0) := rfl
            clear hx HTk
            by_cases hix : ixOf (pL x) S < 0
            · have HE5 := Lib.hid (HBad.out x HXM.out hix)
              generalize ixOf (pL x) S = I at *
              go_wp2_with fail
              refine HIX.out.mono ?_
              rintro e w6 ⟨rfl, hb6⟩
              go_wp2
              go_ret2
              have hv := HV.out (by rw [HE5.out]; decide)
              rw [hv, HE5.out]
              exact ⟨below_step hb05 (hb0.trans (hb6.mono hb0.size)), none, 0, rfl, World.ownsRow_nil _ _ _ _⟩
            · obtain ⟨i, s, hi1, hs, hl1, hl2, hok, hlg, -⟩ := HFound.out x (by omega)
              have hil := (List.getElem?_eq_some_iff.1 hs).1
              rw [hi1] at HIX
              have hik : i < k := by rw [show k = S.length by have := hrS.1; rw [spotsC_length] at this; omega]; exact hil
              have HLG := Lib.hid hlg
              have HS := Lib.hid hs
              have HI0 : Hid (0 ≤ ixOf (pL x) S) := by show _ ≤ _; omega
              have hlong : s.long = 1 + s.r + s.b := rfl
              have HL := Lib.hid (fun w => hlongc_ok s.r s.b s.t s.f w hok.head)
              have hr0 := hok.r0
              have hb0' := hok.b0
              have hf256 := hok.fit256
              clear hok hl1 hl2 hi1 hs hlg hix hil
              go_wp2_with fail
              refine HIX.out.mono ?_
              rintro e w6 ⟨rfl, hb6⟩
              have hb06 := hb0.trans (hb6.mono hb0.size)
              obtain ⟨ads, s', rfl, hads, hs', c0, c1, c2, c3, c4⟩ := (hrS.below hb06).spot hik
              obtain rfl : s = s' := Option.some.inj (HS.out.symm.trans hs')
              obtain ⟨loc, r, b, t, f⟩ := s
              dsimp only at *
              have hown6 := own_below hown0 hb6
              clear hs' hb6 hown0
              go_wp2_with fail
              refine (HL.out _).mono ?_
              rintro e w7 ⟨rfl, hb7⟩
              have hb07 := hb06.trans (hb7.mono hb06.size)
              have hown7 := (own_below hown6 hb7).alloc (.cells #[.int .i64 (1 + r + b)] 3)
              have hb8 := hb07.alloc hb07.size (.cells #[.int .i64 (1 + r + b)] 3)
              have hnew := reads_new w7 [.int .i64 (1 + r + b)] 3 1 1 rfl
              clear hb7 hown6
              go_wp2_with (at_builtin; refine wpList_append_any _ rfl (.tmp 55) (.tmp 57) 23 rfl w5.heap.size 3 i0 (.int .i64 0) 1 8 Tryz.underlying23 hi hz0 hz1 hz2 rfl (by decide) (.slice A' j c') j _ rfl hown7 (w7.heap.size + 1) (some ⟨w7.heap.size, 0, none⟩) 1 1 [.int .i64 (1 + r + b)] rfl hnew (by simp [Value.oneCell']) (by simp [maxLen]; omega) (by omega) (by have := hb8.size; exact this) ?_; rintro v' w9 hown9 hgr hbl -; obtain ⟨A'', c'', rfl⟩ := own_slice hown9)
              have hb9 : Below w5.heap.size w5 w9 := hb8.grown hgr hb8.size (fun g hg => (hown7.lt g hg).1)
              go_roundw
              case rel => exact ⟨j + 1, A'', c'', acc ++ [1 + r + b], by omega, by go_num, rfl, by show _ = _; rw [HT.out, List.map_append, ← hacc.out]; simp [HLG.out, hlong], (fun y hy => by
                rw [HT.out] at hy
                rcases List.mem_append.1 hy with hy | hy
                · exact hF.out y hy
                · obtain rfl := List.mem_singleton.1 hy
                  exact HI0.out), by rw [List.map_append]; exact hown9, hb9⟩
              case measure => simp [intOf]; omega
          · have hjn : j = n2 := by omega
            subst hjn
            rw [List.take_of_length_le (by rw [HK2.out]; exact Nat.le_refl _)] at hacc hF
            have kr := (hb.cell (p := ⟨w.heap.size, 0, none⟩) (by have := B5.lt; exact this)).trans k5
            have HCt2 := Lib.hid (HCt.out w.heap.size wr kr (fun W' hW => (hW.cell (p := ⟨w.heap.size, 0, none⟩) (by have := B5.lt; have := hb.size; dsimp only; omega)).trans kr) ((hr25.below hb).more hb.size) ((hr35.below hb).more hb.size))
            have HE := Lib.hid (HGood.out hF.out)
            cases hany : pinned.any (fun x => !decide (x ∈ keep))
            · rw [hany] at HCt2 HE
              have HE0 : Hid (E = 0) := HE.out.trans (by rfl)
              go_wp2_with fail
              refine HCt2.out.mono ?_
              rintro e w6 ⟨rfl, hb6⟩
              go_wp2
              go_ret2
              have hv := HV2.out HE0.out
              rw [← hacc.out] at hv
              have hlen : acc.length = j := by have := hown.1; simpa using this
              rw [hv, HE0.out, hlen]
              exact ⟨below_step hb05 (hb.trans (hb6.mono hb.size)), A', c', rfl, own_mono (own_below hown hb6) hb05.size⟩
            · rw [hany] at HCt2 HE
              have HE0 : Hid (E = 5) := HE.out.trans (by rfl)
              go_wp2_with fail
              refine HCt2.out.mono ?_
              rintro e w6 ⟨rfl, hb6⟩
              go_wp2
              go_ret2
              have hv := HV.out (by rw [HE0.out]; decide)
              rw [hv, HE0.out]
              exact ⟨below_step hb05 (hb.trans (hb6.mono hb.size)), none, 0, rfl, World.ownsRow_nil _ _ _ _⟩
  · have hL : longsE a keep pinned = checkE a := by unfold longsE; rw [if_pos hE]
    have hV : longsV a keep pinned = [] := by unfold longsV; rw [hL, if_neg hE]
    rw [hL, hV]
    clear hL hV
    have HCk := Lib.hid HCk
    generalize checkE a = E at *
    have hE1 : (E != 0) = true := by simpa using hE
    go_enter Tryz.func152, Tryz.ntmps152
    go_wp2_with fail
    have hba := below_new w (.cells #[.slice A2 n2 c2] 23)
    refine (HCk.out _ ((hr.below hba).more hba.size)).mono ?_
    rintro e w1 ⟨rfl, hb1⟩
    go_wp2
    go_ret2
    exact ⟨below_step hba hb1, none, 0, rfl, World.ownsRow_nil _ _ _ _⟩
end Go.Proofs.YtbmkbnalembbjaaGreatDoor
