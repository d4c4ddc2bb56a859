/-
  Texts joined: SlideLaw SlidePlan TintWords CarryLaw SpliceLaw WordNew AppendFit.
-/
import Derived.Laws.CopyOwn
import Derived.KernelRfl
import Derived.Test.YtbmkbnalembbjaaS0
import Derived.Test.YtbmkbnalembbjaaS1
import Derived.Test.YtbmkbnalembbjaaS3
import Derived.Test.YtbmkbnalembbjaaS5
namespace Go.Proofs.Ytbmkbnalembbjaa
open Go.RowKit
def rawL (N : Nat) : Nat → List (Nat × Chk) → List Int
  | e, [] => List.replicate (N - e) 0
  | e, (y, c) :: t => List.replicate (y - e) 0 ++ (chkW c ++ rawL N (y + c.len) t)
def laidC (N : Nat) : Nat → List (Nat × Chk) → List Chk
  | e, [] => flushC (N - e)
  | e, (y, c) :: t => flushC (y - e) ++ c :: laidC N (y + c.len) t
def RowsOk (N : Nat) : Nat → List (Nat × Chk) → Prop
  | e, [] => e ≤ N
  | e, (y, c) :: t => e ≤ y ∧ c.ok ∧ c.f = false ∧ RowsOk N (y + c.len) t
def setG (o : List Int) (g : Rn) : List Int := o.set g.loc.toNat (wordOf 0 (g.len - 1) 0 true)
def ysOf (rows : List (Nat × Chk)) : List Int := rows.map fun p => (p.1 : Int)
def lensOf (rows : List (Nat × Chk)) : List Int := rows.map fun p => (p.2.len : Int)
theorem RowsOk.le {N : Nat} : ∀ {rows : List (Nat × Chk)} {e : Nat}, RowsOk N e rows → e ≤ N
  | [], _, h => h
  | (y, c) :: t, e, ⟨h1, _, _, h3⟩ => by have := RowsOk.le h3; omega
theorem RowsOk.left {N : Nat} : ∀ {rows t : List (Nat × Chk)} {e : Nat}, RowsOk N e (rows ++ t) → RowsOk N e rows
  | [], _, _, h => h.le
  | (_, _) :: _, _, _, ⟨h1, h2, h3, h4⟩ => ⟨h1, h2, h3, RowsOk.left h4⟩
theorem rawL_length {N : Nat} : ∀ {rows : List (Nat × Chk)} {e : Nat}, RowsOk N e rows → (rawL N e rows).length = N - e
  | [], e, _ => by simp [rawL]
  | (y, c) :: t, e, ⟨h1, h2, h2', h3⟩ => by
    have := RowsOk.le h3
    simp only [rawL, List.length_append, List.length_replicate, chkW_length, rawL_length h3]
    omega
theorem laidC_length {N : Nat} : ∀ {rows : List (Nat × Chk)} {e : Nat}, RowsOk N e rows → (chunksW (laidC N e rows)).length = N - e
  | [], e, _ => flushC_length _
  | (y, c) :: t, e, ⟨h1, h2, h2', h3⟩ => by
    have := RowsOk.le h3
    simp only [laidC]
    rw [chunksW_append, chunksW_cons, List.length_append, List.length_append, flushC_length, chkW_length, laidC_length h3]
    omega
theorem flushC_mem {p : Nat} {d : Chk} (h : d ∈ flushC p) : p ≠ 0 ∧ d = freeC p := by
  unfold flushC at h
  split at h
  · cases h
  · rename_i h0; exact ⟨h0, List.mem_singleton.1 h⟩
theorem laidC_mem {N : Nat} : ∀ {rows : List (Nat × Chk)} {e : Nat}, RowsOk N e rows → ∀ d ∈ laidC N e rows, (∃ q, q ≠ 0 ∧ q ≤ N ∧ d = freeC q) ∨ ∃ y, (y, d) ∈ rows
  | [], e, h, d, hd => by
    obtain ⟨h1, h2⟩ := flushC_mem hd
    exact .inl ⟨_, h1, by omega, h2⟩
  | (y, c) :: t, e, ⟨h1, h2, h2', h3⟩, d, hd => by
    have := RowsOk.le h3
    simp only [laidC] at hd
    rcases List.mem_append.1 hd with hd | hd
    · obtain ⟨h1, h2⟩ := flushC_mem hd
      exact .inl ⟨_, h1, by omega, h2⟩
    · rcases List.mem_cons.1 hd with rfl | hd
      · exact .inr ⟨y, List.mem_cons_self⟩
      · rcases laidC_mem h3 d hd with h4 | ⟨z, h4⟩
        · exact .inl h4
        · exact .inr ⟨z, List.mem_cons_of_mem _ h4⟩
theorem RowsOk.mem {N : Nat} : ∀ {rows : List (Nat × Chk)} {e : Nat}, RowsOk N e rows → ∀ p ∈ rows, p.2.ok ∧ p.2.f = false
  | (y, c) :: t, e, ⟨h1, h2, h2', h3⟩, p, hp => by
    rcases List.mem_cons.1 hp with rfl | hp
    · exact ⟨h2, h2'⟩
    · exact RowsOk.mem h3 p hp
theorem laidC_ok {N : Nat} {rows : List (Nat × Chk)} {e : Nat} (h : RowsOk N e rows) (hN : N ≤ 256) : ∀ d ∈ laidC N e rows, d.ok := by
  intro d hd
  rcases laidC_mem h d hd with ⟨q, h1, h2, rfl⟩ | ⟨y, h1⟩
  · exact freeC_ok h1 (by omega)
  · exact (RowsOk.mem h _ h1).1
theorem laidC_split {N : Nat} : ∀ {rows : List (Nat × Chk)} {e j y : Nat} {c : Chk}, RowsOk N e rows → rows[j]? = some (y, c) → ∃ pre suf, laidC N e rows = pre ++ c :: suf ∧ e + (chunksW pre).length = y
  | (z, d) :: t, e, 0, y, c, ⟨h1, h2, h2', h3⟩, h => by
    simp only [List.getElem?_cons_zero, Option.some.injEq, Prod.mk.injEq] at h
    obtain ⟨rfl, rfl⟩ := h
    exact ⟨flushC (z - e), _, rfl, by rw [flushC_length]; omega⟩
  | (z, d) :: t, e, j + 1, y, c, ⟨h1, h2, h2', h3⟩, h => by
    rw [List.getElem?_cons_succ] at h
    obtain ⟨pre, suf, e1, e2⟩ := laidC_split h3 h
    refine ⟨flushC (z - e) ++ d :: pre, suf, ?_, ?_⟩
    · simp only [laidC]
      rw [e1, List.append_assoc, List.cons_append]
    · rw [chunksW_append, chunksW_cons, List.length_append, List.length_append, flushC_length, chkW_length]
      omega
theorem flush_set {pre rest : List Int} {e p : Nat} (he : pre.length = e) (hp : p ≠ 0) : (pre ++ (List.replicate p 0 ++ rest)).set e (wordOf 0 ((p : Int) - 1) 0 true) = pre ++ (chunksW (flushC p) ++ rest) := by
  obtain ⟨q, rfl⟩ : ∃ q, p = q + 1 := ⟨p - 1, by omega⟩
  have e2 : chunksW (flushC (q + 1)) = wordOf 0 (((q + 1 : Nat) : Int) - 1) 0 true :: List.replicate q 0 := by
    unfold flushC
    rw [if_neg hp]
    simp [chunksW, chkW, freeC]
  rw [e2, List.set_append_right _ _ (by omega), he, Nat.sub_self, List.replicate_succ, List.cons_append, List.set_cons_zero, List.cons_append]
theorem fold_gaps (N : Nat) : ∀ (rows : List (Nat × Chk)) (e : Nat) (pre : List Int), RowsOk N e rows → pre.length = e → (pgaps N e (ysOf rows) (lensOf rows)).foldl setG (pre ++ rawL N e rows) = pre ++ chunksW (laidC N e rows)
  | [], e, pre, h, hp => by
    have hle : e ≤ N := h
    simp only [ysOf, lensOf, List.map_nil, pgaps, rawL, laidC]
    by_cases hlt : (e : Int) < N
    · rw [if_pos hlt, List.foldl_cons, List.foldl_nil]
      unfold setG
      have := flush_set (pre := pre) (rest := []) (e := e) (p := N - e) hp (by omega)
      simp only [List.append_nil] at this
      rw [← this]
      simp only [Int.toNat_natCast]
      rw [show ((N - e : Nat) : Int) = (N : Int) - e by omega]
    · rw [if_neg hlt, List.foldl_nil]
      have : N - e = 0 := by omega
      rw [this]
      rfl
  | (y, c) :: t, e, pre, ⟨h1, h2, h2', h3⟩, hp => by
    have hle := RowsOk.le h3
    have ih := fold_gaps N t (y + c.len) (pre ++ (chunksW (flushC (y - e)) ++ chkW c)) h3 (by rw [List.length_append, List.length_append, flushC_length, chkW_length, hp]; omega)
    simp only [ysOf, lensOf, List.map_cons, pgaps, rawL, laidC]
    rw [List.foldl_append]
    have e1 : (if (e : Int) < (y : Int) then [(⟨e, (y : Int) - e⟩ : Rn)] else []).foldl setG (pre ++ (List.replicate (y - e) 0 ++ (chkW c ++ rawL N (y + c.len) t))) = pre ++ (chunksW (flushC (y - e)) ++ chkW c) ++ rawL N (y + c.len) t := by
      by_cases hlt : (e : Int) < y
      · rw [if_pos hlt, List.foldl_cons, List.foldl_nil]
        unfold setG
        have := flush_set (pre := pre) (rest := chkW c ++ rawL N (y + c.len) t) (e := e) (p := y - e) hp (by omega)
        simp only [Int.toNat_natCast]
        rw [show ((y - e : Nat) : Int) = (y : Int) - e by omega] at this
        rw [this]
        simp
      · rw [if_neg hlt, List.foldl_nil]
        have : y - e = 0 := by omega
        rw [this]
        simp [flushC, chunksW]
    rw [e1]
    have e2 : ((y : Int) + (c.len : Int)) = ((y + c.len : Nat) : Int) := by omega
    rw [e2]
    refine ih.trans ?_
    rw [chunksW_append, chunksW_cons]
    simp
theorem gapsP_laid (N : Nat) : ∀ (rows : List (Nat × Chk)) (e : Nat), RowsOk N e rows → gapsP e 0 (laidC N e rows) = pgaps N e (ysOf rows) (lensOf rows)
  | [], e, h => by
    have hle : e ≤ N := h
    simp only [ysOf, lensOf, List.map_nil, pgaps, laidC]
    unfold flushC
    by_cases hlt : (e : Int) < N
    · rw [if_neg (by omega), if_pos hlt]
      simp only [gapsP, freeC_f, if_true]
      rw [freeC_len (by omega)]
      unfold flushG
      rw [if_neg (by omega)]
      simp only [List.cons.injEq, Rn.mk.injEq, and_true]
      omega
    · rw [if_pos (by omega), if_neg hlt]
      rfl
  | (y, c) :: t, e, ⟨h1, h2, h2', h3⟩ => by
    have ih := gapsP_laid N t (y + c.len) h3
    simp only [ysOf, lensOf, List.map_cons, pgaps, laidC]
    rw [show ((y : Int) + (c.len : Int)) = ((y + c.len : Nat) : Int) by omega]
    unfold flushC
    by_cases hlt : (e : Int) < y
    · rw [if_neg (by omega), if_pos hlt]
      simp only [List.cons_append, List.nil_append, gapsP, freeC_f, if_true, h2']
      rw [freeC_len (by omega), Nat.zero_add, show e + (y - e) = y by omega]
      simp only [Bool.false_eq_true, if_false]
      unfold flushG
      rw [if_neg (show ¬ y - e = 0 by omega), ih, show y - (y - e) = e by omega, show ((y - e : Nat) : Int) = (y : Int) - e by omega]
      rfl
    · have : e = y := by omega
      subst this
      rw [if_pos (by omega), if_neg hlt]
      simp only [List.nil_append, gapsP, h2']
      unfold flushG
      rw [if_pos rfl, if_neg (by decide), ih]
      rfl
theorem rawL_snoc (N : Nat) (y : Nat) (c : Chk) : ∀ (rows : List (Nat × Chk)) (e : Nat) (pre : List Int), pre.length = e → RowsOk N e (rows ++ [(y, c)]) → pre ++ rawL N e (rows ++ [(y, c)]) = splice (pre ++ rawL N e rows) y (chkW c)
  | [], e, pre, hp, ⟨h1, h2, h2', h3⟩ => by
    have hle : y + c.len ≤ N := h3
    simp only [List.nil_append, rawL]
    unfold splice
    rw [chkW_length, List.take_append, List.take_of_length_le (by omega), List.drop_append, List.drop_of_length_le (by omega), List.nil_append, hp, List.take_replicate, List.drop_replicate, Nat.min_eq_left (by omega), show N - e - (y + c.len - e) = N - (y + c.len) by omega]
    simp
  | (z, d) :: t, e, pre, hp, ⟨h1, h2, h2', h3⟩ => by
    have := rawL_snoc N y c t (z + d.len) (pre ++ (List.replicate (z - e) 0 ++ chkW d)) (by rw [List.length_append, List.length_append, List.length_replicate, chkW_length, hp]; omega) h3
    simp only [List.cons_append, rawL]
    simpa using this
def kC (a : List Int) (φ : Int → Int) (s : Spot) : Chk := ⟨s.r, s.b, s.t, false, (refsOf a s).map (refT φ) ++ bodyOf a s⟩
def rowAt (a : List Int) (φ : Int → Int) (x : Int) : Chk := match spotAt (spotsL a) x with | some s => kC a φ s | none => ⟨0, 0, 0, false, []⟩
def posL (keep Y : List Int) (x : Int) : Int := Y.getD (idxL keep x).toNat 0
def rowsOf (a keep Y : List Int) : List (Nat × Chk) := List.zipWith (fun x y => (y.toNat, rowAt a (posL keep Y) x)) keep Y
theorem idxL_at {keep : List Int} (hn : keep.Nodup) {j : Nat} {x : Int} (hx : keep[j]? = some x) : idxL keep x = j := by
  refine ixOf_some hx (by simp) (fun y hy => ?_)
  rw [List.mem_take_iff_getElem] at hy
  obtain ⟨i, hi, rfl⟩ := hy
  obtain ⟨hj, rfl⟩ := List.getElem?_eq_some_iff.1 hx
  have := (List.nodup_iff_pairwise_ne.1 hn)
  have := List.pairwise_iff_getElem.1 this i j (by omega) hj (by omega)
  simp only [beq_eq_false_iff_ne]
  exact fun e => this e.symm
theorem posL_at {keep Y : List Int} (hn : keep.Nodup) {j : Nat} {x y : Int} (hx : keep[j]? = some x) (hy : Y[j]? = some y) : posL keep Y x = y := by
  unfold posL
  rw [idxL_at hn hx, Int.toNat_natCast, List.getD_eq_getElem?_getD, hy]
  rfl
theorem posL_ex {keep Y : List Int} (hn : keep.Nodup) (hl : Y.length = keep.length) {x : Int} (hx : x ∈ keep) : ∃ (j : Nat) (y : Int), keep[j]? = some x ∧ Y[j]? = some y ∧ posL keep Y x = y := by
  obtain ⟨j, hj⟩ := List.mem_iff_getElem?.1 hx
  have hlt := (List.getElem?_eq_some_iff.1 hj).1
  have hy : Y[j]? = some (Y[j]'(by omega)) := List.getElem?_eq_getElem _
  exact ⟨j, _, hj, hy, posL_at hn hj hy⟩
theorem rowsOf_at {a keep Y : List Int} {j : Nat} {x y : Int} (hx : keep[j]? = some x) (hy : Y[j]? = some y) : (rowsOf a keep Y)[j]? = some (y.toNat, rowAt a (posL keep Y) x) := by
  unfold rowsOf
  rw [List.getElem?_zipWith, hx, hy]
theorem rowsOf_length {a keep Y : List Int} (hl : Y.length = keep.length) : (rowsOf a keep Y).length = keep.length := by
  unfold rowsOf
  rw [List.length_zipWith, hl, Nat.min_self]
theorem kC_ok {a : List Int} (φ : Int → Int) {s : Spot} (h : SpotOk a s) (hf : s.f = false) : (kC a φ s).ok ∧ ((kC a φ s).len : Int) = s.long ∧ (kC a φ s).pay.take (kC a φ s).r.toNat = (refsOf a s).map (refT φ) ∧ (kC a φ s).pay.drop (kC a φ s).r.toNat = bodyOf a s := by
  have h1 := refsOf_length h
  have h2 := bodyOf_length h
  have h3 := h.head
  have r0 := h.r0
  have b0 := h.b0
  rw [hf] at h3
  have hl : ((refsOf a s).map (refT φ) ++ bodyOf a s).length = s.r.toNat + s.b.toNat := by rw [List.length_append, List.length_map, h1, h2]
  refine ⟨⟨h3, ?_⟩, ?_, ?_, ?_⟩
  · show ((((refsOf a s).map (refT φ) ++ bodyOf a s).length : Nat) : Int) = s.r + s.b
    rw [hl]; omega
  · show (((1 + ((refsOf a s).map (refT φ) ++ bodyOf a s).length : Nat)) : Int) = s.long
    rw [hl]; unfold Spot.long; omega
  · show ((refsOf a s).map (refT φ) ++ bodyOf a s).take s.r.toNat = _
    rw [List.take_append_of_le_length (by rw [List.length_map, h1]; exact Nat.le_refl _), List.take_of_length_le (by rw [List.length_map, h1]; exact Nat.le_refl _)]
  · show ((refsOf a s).map (refT φ) ++ bodyOf a s).drop s.r.toNat = _
    rw [List.drop_append, List.drop_of_length_le (by rw [List.length_map, h1]; exact Nat.le_refl _), List.length_map, h1, Nat.sub_self]
    rfl
theorem rowAt_some {a : List Int} {φ : Int → Int} {x : Int} {s : Spot} (h : spotAt (spotsL a) x = some s) : rowAt a φ x = kC a φ s := by
  unfold rowAt
  rw [h]
structure LaidOk (a keep Y b : List Int) (N : Nat) : Prop where
  iso : Iso a b keep (posL keep Y)
  check : checkE b = 0
  len : b.length = N
  gaps : gapsL (spotsL b) = pgaps N 0 (ysOf (rowsOf a keep Y)) (lensOf (rowsOf a keep Y))
theorem laid_ok {a keep Y : List Int} {N : Nat} (h0 : spotsE a = 0) (hC : ClosedL a keep) (hn : keep.Nodup) (hl : Y.length = keep.length) (hN : N ≤ 256) (hY : ∀ y ∈ Y, 0 ≤ y) (hR : RowsOk N 0 (rowsOf a keep Y)) :
    LaidOk a keep Y (chunksW (laidC N 0 (rowsOf a keep Y))) N := by
  have hlen := laidC_length hR
  have hok := laidC_ok hR hN
  obtain ⟨-, hsp⟩ := chunks_spots hok (by omega)
  have hmem := parse_mem (parse_ok h0).2
  have hat : ∀ x ∈ keep, ∀ s, spotAt (spotsL a) x = some s → ∃ pre suf, laidC N 0 (rowsOf a keep Y) = pre ++ kC a (posL keep Y) s :: suf ∧ ((chunksW pre).length : Int) = posL keep Y x := by
    intro x hx s hs
    obtain ⟨j, y, hj, hy, e⟩ := posL_ex hn hl hx
    have hr := rowsOf_at (a := a) hj hy
    obtain ⟨pre, suf, e1, e2⟩ := laidC_split hR hr
    rw [rowAt_some hs] at e1
    refine ⟨pre, suf, e1, ?_⟩
    have := hY y (List.mem_of_getElem? hy)
    rw [e]
    omega
  have hiso : Iso a (chunksW (laidC N 0 (rowsOf a keep Y))) keep (posL keep Y) := by
    refine ⟨fun x hx => ?_, fun x hx y hy e => ?_, fun x hx s hs => ?_⟩
    · obtain ⟨j, y, -, hy, e⟩ := posL_ex hn hl hx
      rw [e]; exact hY y (List.mem_of_getElem? hy)
    · obtain ⟨j, u, hj, hu, e1⟩ := posL_ex hn hl hx
      obtain ⟨k, v, hk, hv, e2⟩ := posL_ex hn hl hy
      obtain ⟨s, hs⟩ := begsL_iff.1 (hC.begs x hx)
      obtain ⟨t, ht⟩ := begsL_iff.1 (hC.begs y hy)
      have r1 := rowsOf_at (a := a) hj hu
      have r2 := rowsOf_at (a := a) hk hv
      have hinc : ∀ (rows : List (Nat × Chk)) (e i j y z : Nat) (c d : Chk), RowsOk N e rows → i < j → rows[i]? = some (y, c) → rows[j]? = some (z, d) → e ≤ y ∧ y < z := by
        intro rows
        induction rows with
        | nil => intro e i j y z c d _ _ h; simp at h
        | cons p t ih =>
          obtain ⟨p1, p2⟩ := p
          rintro e i j y z c d ⟨h1, h2, h2', h3⟩ hij hi hj
          obtain ⟨j, rfl⟩ : ∃ j', j = j' + 1 := ⟨j - 1, by omega⟩
          rw [List.getElem?_cons_succ] at hj
          have hlow : ∀ (rows : List (Nat × Chk)) (e j z : Nat) (d : Chk), RowsOk N e rows → rows[j]? = some (z, d) → e ≤ z := by
            intro rows
            induction rows with
            | nil => intro e j z d _ h; simp at h
            | cons p t ih =>
              obtain ⟨p1, p2⟩ := p
              rintro e j z d ⟨h1, h2, h2', h3⟩ hj
              cases j with
              | zero => simp only [List.getElem?_cons_zero, Option.some.injEq, Prod.mk.injEq] at hj; omega
              | succ j => have := ih _ j z d h3 (by simpa using hj); omega
          have hp : 1 ≤ p2.len := by unfold Chk.len; omega
          cases i with
          | zero =>
            simp only [List.getElem?_cons_zero, Option.some.injEq, Prod.mk.injEq] at hi
            have := hlow t _ j z d h3 hj
            omega
          | succ i =>
            rw [List.getElem?_cons_succ] at hi
            have := ih _ i j y z c d h3 (by omega) hi hj
            omega
      have u0 := hY u (List.mem_of_getElem? hu)
      have v0 := hY v (List.mem_of_getElem? hv)
      rcases Nat.lt_trichotomy j k with h | h | h
      · have := hinc _ _ _ _ _ _ _ _ hR h r1 r2
        omega
      · subst h; rw [hj] at hk; exact Option.some.inj hk
      · have := hinc _ _ _ _ _ _ _ _ hR h r2 r1
        omega
    · obtain ⟨pre, suf, e1, e2⟩ := hat x hx s hs
      obtain ⟨hsS, hsf, -⟩ := spotAt_some hs
      obtain ⟨k1, k2, k3, k4⟩ := kC_ok (posL keep Y) (hmem s hsS).1 hsf
      have h1 := split_at pre suf (kC a (posL keep Y) s) rfl
      have h2 := split_refs pre suf (kC a (posL keep Y) s) k1
      rw [hsp, e1, ← e2]
      exact ⟨_, h1, rfl, rfl, rfl, h2.2.trans k4, h2.1.trans k3⟩
  refine ⟨hiso, ?_, by omega, ?_⟩
  · rw [checkE_chunks hok (by omega)]
    intro c hc v hv
    rcases laidC_mem hR c hc with ⟨q, -, -, rfl⟩ | ⟨y, hy⟩
    · simp [freeC] at hv
    · obtain ⟨j, hj⟩ := List.mem_iff_getElem?.1 hy
      have hjl : j < keep.length := by have := (List.getElem?_eq_some_iff.1 hj).1; rw [rowsOf_length hl] at this; exact this
      have hx : keep[j]? = some keep[j] := List.getElem?_eq_getElem hjl
      have hyy : Y[j]? = some (Y[j]'(by omega)) := List.getElem?_eq_getElem _
      have := rowsOf_at (a := a) hx hyy
      rw [hj] at this
      simp only [Option.some.injEq, Prod.mk.injEq] at this
      obtain ⟨-, rfl⟩ := this
      have hxk : keep[j] ∈ keep := List.getElem_mem hjl
      obtain ⟨s, hs⟩ := begsL_iff.1 (hC.begs _ hxk)
      obtain ⟨hsS, hsf, -⟩ := spotAt_some hs
      rw [rowAt_some hs] at hv
      rw [(kC_ok (posL keep Y) (hmem s hsS).1 hsf).2.2.1] at hv
      obtain ⟨u, hu, rfl⟩ := List.mem_map.1 hv
      by_cases hu0 : u = 0
      · left; unfold refT; rw [if_pos hu0]
      · right
        have hk := Iso.link_of hC hxk hs u hu hu0
        obtain ⟨t, ht⟩ := begsL_iff.1 (hC.begs _ hk)
        obtain ⟨t', ht', -⟩ := hiso.at_ _ hk t ht
        rw [hsp] at ht'
        rw [← starts_mem]
        obtain ⟨g1, g2, g3⟩ := spotAt_some ht'
        refine ⟨t', g1, ?_⟩
        unfold refT
        rw [if_neg hu0]
        simp [isPlace, g2, g3]
  · rw [hsp, gapsL_chunks hok]
    exact gapsP_laid N _ 0 hR
end Go.Proofs.Ytbmkbnalembbjaa

namespace Go.Proofs.Ytbmkbnalembbjaa
open Go.RowKit
theorem rows_slid {a : List Int} {φ : Int → Int} (N : Nat) (pinned : List Int) : ∀ (keep L : List Int) (e : Nat), Kept N keep L → (∀ x, keep[0]? = some x → (e : Int) ≤ x) → e ≤ N →
    (∀ (j : Nat) (x k : Int), keep[j]? = some x → L[j]? = some k → (rowAt a φ x).ok ∧ (rowAt a φ x).f = false ∧ ((rowAt a φ x).len : Int) = k) →
    RowsOk N e (List.zipWith (fun x y => (y.toNat, rowAt a φ x)) keep (slidGo pinned e keep L)) ∧ ysOf (List.zipWith (fun x y => (y.toNat, rowAt a φ x)) keep (slidGo pinned e keep L)) = slidGo pinned e keep L ∧
      lensOf (List.zipWith (fun x y => (y.toNat, rowAt a φ x)) keep (slidGo pinned e keep L)) = L := by
  intro keep
  induction keep with
  | nil =>
    intro L e hK _ he _
    cases L with
    | nil => exact ⟨he, rfl, rfl⟩
    | cons n ls => have := hK.same; simp at this
  | cons x ks ih =>
    intro L e hK he heN hrow
    cases L with
    | nil => have := hK.same; simp at this
    | cons n ls =>
      obtain ⟨x0, n1, n2, hxn⟩ := hK.at_ 0 x n rfl rfl
      have hex := he x rfl
      obtain ⟨r1, r2, r3⟩ := hrow 0 x n rfl rfl
      obtain ⟨z, hz⟩ : ∃ z : Nat, (z : Int) = (if x ∈ pinned then x else (e : Int)) := by
        by_cases h : x ∈ pinned
        · rw [if_pos h]; exact ⟨x.toNat, by omega⟩
        · rw [if_neg h]; exact ⟨e, rfl⟩
      have hz1 : e ≤ z ∧ (z : Int) ≤ x := by
        by_cases h : x ∈ pinned
        · rw [if_pos h] at hz; omega
        · rw [if_neg h] at hz; omega
      have hY : slidGo pinned e (x :: ks) (n :: ls) = (z : Int) :: slidGo pinned ((z + (rowAt a φ x).len : Nat) : Int) ks ls := by
        simp only [slidGo]
        rw [← hz, show ((z + (rowAt a φ x).len : Nat) : Int) = (z : Int) + n by omega]
      obtain ⟨i1, i2, i3⟩ := ih ls (z + (rowAt a φ x).len) hK.tail (fun y hy => by have := hK.next 0 x n y rfl rfl (by simpa using hy); omega) (by omega) (fun j x' k h1 h2 => hrow (j + 1) x' k (by simpa using h1) (by simpa using h2))
      rw [hY, List.zipWith_cons_cons]
      simp only [ysOf, lensOf] at i2 i3 ⊢
      rw [List.map_cons, List.map_cons, i2, i3]
      refine ⟨⟨?_, r1, r2, ?_⟩, ?_, ?_⟩
      · rw [Int.toNat_natCast]; exact hz1.1
      · rw [Int.toNat_natCast]; exact i1
      · rw [Int.toNat_natCast]
      · rw [r3]
structure Planned (a keep pinned L Y : List Int) : Prop where
  nodup : keep.Nodup
  len : Y.length = keep.length
  lenL : L.length = keep.length
  nn : ∀ y ∈ Y, 0 ≤ y
  rows : RowsOk a.length 0 (rowsOf a keep Y)
  ys : ysOf (rowsOf a keep Y) = Y
  lens : lensOf (rowsOf a keep Y) = L
  begs : ∀ x ∈ keep, x ∈ begsL (spotsL a)
  nn2 : ∀ x ∈ keep, 0 ≤ x
  at_ : ∀ (j : Nat) (x y : Int), keep[j]? = some x → Y[j]? = some y → ∃ (s : Spot) (i : Nat), spotAt (spotsL a) x = some s ∧ atIx a x = i ∧ (spotsL a)[i]? = some s ∧ SpotOk a s ∧ y + s.long ≤ a.length ∧ L[j]? = some s.long ∧ 0 ≤ y ∧ y ≤ x
theorem pL_isBeg (x : Int) : pL x = isBeg x := by
  funext s
  unfold pL isBeg
  rw [Bool.and_comm]
theorem planned_of {a keep pinned : List Int} (hE : longsE a keep pinned = 0) : Planned a keep pinned (longsV a keep pinned) (slidGo pinned 0 keep (longsV a keep pinned)) := by
  obtain ⟨hK, hN⟩ := kept_of hE
  obtain ⟨h1, h2, h3, h4, h5⟩ := longsE_ok.1 hE
  have h0 := (checkE_ok.1 h1).1
  have hV : longsV a keep pinned = keep.map (longAt (spotsL a)) := by unfold longsV; rw [if_pos hE]
  have hspot : ∀ x ∈ keep, ∃ (s : Spot) (i : Nat), spotAt (spotsL a) x = some s ∧ atIx a x = i ∧ (spotsL a)[i]? = some s ∧ SpotOk a s ∧ longAt (spotsL a) x = s.long := by
    intro x hx
    obtain ⟨i, s, e1, e2, e3, e4, e5, e6, e7⟩ := spots_of_ix h0 (h4 x hx)
    refine ⟨s, i, ?_, e7, e2, e5, e6⟩
    unfold spotAt
    rw [← pL_isBeg]
    rcases ixOf_cases (pL x) (spotsL a) with ⟨f1, f2⟩ | ⟨i', s', f1, f2, f3, f4⟩
    · have := f2 s (List.mem_of_getElem? e2)
      simp [pL, e3, e4] at this
    · have : i' = i := by omega
      subst this
      obtain rfl := Option.some.inj (f2.symm.trans e2)
      rw [List.find?_eq_some_iff_append]
      refine ⟨f3, (spotsL a).take i', (spotsL a).drop (i' + 1), ?_, fun y hy => by simp [f4 y hy]⟩
      obtain ⟨q1, q2⟩ := List.getElem?_eq_some_iff.1 f2
      rw [← q2, ← List.drop_eq_getElem_cons q1, List.take_append_drop]
  have hn : keep.Nodup := by
    rw [List.nodup_iff_pairwise_ne]
    exact (risesP_pairwise h2).imp (fun h => by omega)
  have he : ∀ x, keep[0]? = some x → (0 : Int) ≤ x := fun x hx => by
    obtain ⟨s, i, e1, -, -, e4, -⟩ := hspot x (List.mem_of_getElem? hx)
    have := e4.loc0
    have := (spotAt_some e1).2.2
    omega
  have hS := slid_of a.length pinned keep (longsV a keep pinned) 0 hK he
  have hrows := rows_slid (a := a) (φ := posL keep (slidGo pinned 0 keep (longsV a keep pinned))) a.length pinned keep (longsV a keep pinned) 0 hK he (Nat.zero_le _) (fun j x k hx hk => by
    obtain ⟨s, i, e1, -, -, e4, e5⟩ := hspot x (List.mem_of_getElem? hx)
    rw [rowAt_some e1]
    obtain ⟨k1, k2, -, -⟩ := kC_ok (posL keep (slidGo pinned 0 keep (longsV a keep pinned))) e4 (spotAt_some e1).2.1
    refine ⟨k1, rfl, ?_⟩
    rw [hV, List.getElem?_map, hx] at hk
    have := Option.some.inj hk
    omega)
  refine ⟨hn, hS.len, hK.same, fun y hy => ?_, hrows.1, hrows.2.1, hrows.2.2, fun x hx => ?_, fun x hx => ?_, fun j x y hx hy => ?_⟩
  · obtain ⟨j, hj⟩ := List.mem_iff_getElem?.1 hy
    exact hS.low j y hj
  · obtain ⟨s, i, e1, -⟩ := hspot x hx
    exact begsL_iff.2 ⟨s, e1⟩
  · obtain ⟨s, i, e1, -, -, e4, -⟩ := hspot x hx
    have := e4.loc0
    have := (spotAt_some e1).2.2
    omega
  · obtain ⟨s, i, e1, e2, e3, e4, e5⟩ := hspot x (List.mem_of_getElem? hx)
    have hk : (longsV a keep pinned)[j]? = some s.long := by rw [hV, List.getElem?_map, hx, Option.map_some, e5]
    obtain ⟨g1, g2, g3, g4⟩ := hS.at_ j x y s.long hx hk hy
    exact ⟨s, i, e1, e2, e3, e4, g3, hk, hS.low j y hy, g1⟩
def nowM (keep Y : List Int) (j : Nat) : Int → Option Value := fun v => if v = 0 then some (.int .u64 0) else if v - 1 ∈ keep.take j then some (.int .u64 (posL keep Y (v - 1) + 1)) else none
theorem nowM_zero (keep Y : List Int) : nowM keep Y 0 = upd (fun _ => none) 0 (.int .u64 0) := by
  funext v
  simp [nowM, upd]
theorem nowM_succ {keep Y : List Int} (hn : keep.Nodup) {j : Nat} {x y : Int} (hx : keep[j]? = some x) (hy : Y[j]? = some y) (h0 : 0 ≤ x) : nowM keep Y (j + 1) = upd (nowM keep Y j) (x + 1) (.int .u64 (y + 1)) := by
  funext v
  unfold nowM upd
  obtain ⟨h1, h2⟩ := List.getElem?_eq_some_iff.1 hx
  rw [List.take_succ_eq_append_getElem h1, h2]
  by_cases hv : v = x + 1
  · subst hv
    rw [if_neg (by omega), if_pos rfl, show x + 1 - 1 = x by omega, if_pos (by simp), posL_at hn hx hy]
  · rw [if_neg hv]
    have : (v - 1 ∈ keep.take j ++ [x]) ↔ v - 1 ∈ keep.take j := by
      rw [List.mem_append, List.mem_singleton]
      exact ⟨fun h => h.resolve_right (by omega), .inl⟩
    simp only [this]
theorem nowM_at {keep Y : List Int} {v : Int} (h : v ≠ 0 → v - 1 ∈ keep) : nowM keep Y keep.length v = some (.int .u64 (refT (posL keep Y) v)) := by
  unfold nowM refT
  by_cases h0 : v = 0
  · rw [if_pos h0, if_pos h0]
  · rw [if_neg h0, if_neg h0, List.take_length, if_pos (h h0)]
end Go.Proofs.Ytbmkbnalembbjaa

namespace Go.Proofs.Ytbmkbnalembbjaa
open Go.RowKit
def longW (S : List Spot) (x : Int) : Int := match spotAt S x with | some s => s.long | none => 0
def longsL (S : List Spot) : List Int → Int
  | [] => 0
  | x :: t => longW S x + longsL S t
theorem longsL_snoc (S : List Spot) (l : List Int) (x : Int) : longsL S (l ++ [x]) = longsL S l + longW S x := by
  induction l with
  | nil => simp [longsL]
  | cons y l ih => simp only [List.cons_append, longsL, ih]; omega
set_option maxHeartbeats 1000000 in
theorem long_any (gh b : Nat) (A Ao : Option Addr) (n c k co : Nat) (a : List Int) (S : List Spot) (s : Spot) (w : World) (hBh : Blk w gh 152 #[.slice A n c, .map (some b), .slice Ao k co]) (hM : MapIs w Try.prog 3 .i64 b 300 (headF S))
    (hs : spotAt S s.loc = some s) (hok : SpotOk a s) (hl : a.length ≤ 256) :
    Calls Try.prog 73 #[.pointer (some ⟨gh, 0, none⟩), .int .i64 s.loc] w fun e w' => e = .returned (.int .i64 s.long) ∧ Below w.heap.size w w' := by
  have l0 := hok.loc0
  have r0 := hok.r0
  have b0 := hok.b0
  have ft := hok.fits
  have e1 : headF S s.loc = some (headC s) := by unfold headF; rw [hs]; rfl
  have HL := hM.look (k := 3) (t := 150) Try.underlying3 Try.underlying150 (zero_head _) (x := s.loc) (by unfold Spot.long at ft; simp [Lit.wf, IntKind.min, IntKind.max, IntKind.signed, IntKind.bits]; omega)
  rw [e1] at HL
  have HH := Lib.hid (fun w => hlongc_ok s.r s.b s.t s.f w hok.head)
  have k1 := hBh.cell 1
  simp only [List.getElem?_toArray, List.getElem?_cons_zero, List.getElem?_cons_succ] at k1
  obtain ⟨loc, r, bb, t, fr⟩ := s
  have hlook2 : (Instr.lookup 150 (.map (some b)) (.int .i64 loc) false).run Try.prog w = .ok (.agg #[.int .i64 r, .int .i64 bb, .int .i64 t, .bool fr]) w := HL
  unfold Spot.long
  dsimp only at *
  clear HL e1 hM hs hok ft l0
  generalize 1 + r + bb = z at *
  go_enter Try.func73, Try.ntmps73
  go_wp2_with (go_at_call 93; refine (HH.out _).mono ?_; rintro e w1 ⟨rfl, hb1⟩)
  go_ret
  exact ⟨rfl, hb1⟩
set_option maxRecDepth 100000 in
set_option maxHeartbeats 1000000 in
theorem twords_ok (A : Option Addr) (n c : Nat) (a : List Int) (A2 : Option Addr) (n2 c2 : Nat) (f L : List Int) (w : World) (hr : Reads w w.heap.size 1 A n (a.map (.int .u64))) (hnc : n ≤ c) (ha : ∀ x ∈ a, (Lit.int .u64 x).wf = true)
    (hr2 : Reads w w.heap.size 1 A2 n2 (f.map (.int .i64))) (hn2 : n2 ≤ 1000000000000000000) (hx2 : ∀ x ∈ f, (Lit.int .i64 x).wf = true) (hE : checkE a = 0) (hL : Reached a (spotsL a) f L) :
    Calls Try.prog 51 #[.slice A n c, .slice A2 n2 c2] w fun e w' => Below w.heap.size w w' ∧ e = .returned (.tuple #[.int .i64 (longsL (spotsL a) L), .int .i64 0]) := by
  have h0 := (checkE_ok.1 hE).1
  have hlen := (parse_ok h0).1
  have H1 := Lib.hid (fun w hr hr2 => reach_ok A n c a A2 n2 c2 f w hr hnc ha hr2 hn2 hx2 hE)
  have H2 := Lib.hid (fun w hr => heap_ok A n c a none 0 0 [] w hr hnc ha (Reads.none_) (by decide) (by simp) hE)
  have hmem := Lib.hid (parse_mem (parse_ok h0).2)
  have hL256 : L.length ≤ 256 := nodup_bound 256 L hL.once (fun x hx => begsL_bounds h0 x (hL.begs x hx))
  have HU := Lib.hid (fun L' (h : Reached a (spotsL a) f L') => hL.unique h)
  have HB := Lib.hid hL.begs
  have hroots := hL.roots
  have hbegs := hL.begs
  have HA : Hid (∀ x ∈ f, x ∈ begsL (spotsL a)) := fun x hx => hbegs x (hroots x hx)
  generalize spotsL a = S at *
  obtain ⟨k, hk⟩ : ∃ k, k = L.length := ⟨_, rfl⟩
  rw [← hk] at hL256
  have HK := Lib.hid hk
  have HLen := Lib.hid hlen
  clear hL hroots hbegs hE h0 hk hlen ha hx2
  go_enter Try.func51, Try.ntmps51
  go_wp2_with fail
  refine (H1.out _ hr hr2).mono ?_
  rintro e w1 ⟨hb1, ⟨L', A3, c3, hL', rfl, hown⟩ | ⟨⟨x, hx, hx2⟩, -⟩⟩
  · obtain rfl := HU.out L' hL'
    rw [← HK.out] at hown ⊢
    have hrL := Reads.of_own hown
    clear hown hL'
    go_wp2_with fail
    refine (H2.out _ ((hr.below hb1).more hb1.size)).mono ?_
    rintro e w2 ⟨hb2, ⟨-, gh, rfl, hheap⟩ | ⟨⟨x, hx, -⟩, -⟩⟩
    · have hb02 := below_step hb1 hb2
      have HHp := Lib.hid hheap
      have hrL2 := (hrL.below hb2).more hb2.size
      clear hheap hrL hb2
      go_wp2
      go_loopw [10, 29] (fun s i wr => ∃ (j : Nat) (T : Int), j ≤ k ∧ i = .int .i64 j ∧ s = .int .i64 T ∧ 0 ≤ T ∧ T ≤ 256 * j ∧ Hid (T = longsL S (L.take j)) ∧ Below w2.heap.size w2 wr) (fun _ i _ => k - (intOf i).toNat)
      case atStart => exact ⟨0, 0, Nat.zero_le _, rfl, rfl, by omega, by omega, by rfl, Below.refl _ _⟩
      case round =>
        obtain ⟨j, T, hj, rfl, rfl, hT0, hT1, HT, hb⟩ := hrel
        by_cases hlt : j < k
        · obtain ⟨ad, x, rfl, had, hx, cx⟩ := (hrL2.below hb).num hlt
          obtain ⟨s, hs⟩ := begsL_iff.1 (HB.out x (List.mem_of_getElem? hx))
          obtain ⟨hsS, -, hsl⟩ := spotAt_some hs
          have hok := (hmem.out s hsS).1
          obtain ⟨b, Ah, kh, ch, g1, g2, g3, g4, g5⟩ := HHp.out.below hb
          have hLo := long_any gh b A Ah n c kh ch a S s wr g1 g4 (by rw [hsl]; exact hs) hok HLen.out
          rw [hsl] at hLo
          have HLo := Lib.hid hLo
          have HT2 : Hid (T + s.long = longsL S (L.take (j + 1))) := by
            show _ = _
            obtain ⟨q1, q2⟩ := List.getElem?_eq_some_iff.1 hx
            rw [List.take_succ_eq_append_getElem q1, longsL_snoc, q2, ← HT.out]
            unfold longW
            rw [hs]
          have hl0 : 0 ≤ s.long ∧ s.long ≤ 256 := ⟨by have := hok.r0; have := hok.b0; unfold Spot.long; omega, hok.fit256⟩
          generalize s.long = z at *
          have w3 : IntKind.i64.wrap (T + z) = T + z := IntWalk.i64_in _ (by omega)
          have hj1 : j + 1 ≤ k := hlt
          have q1 : 0 ≤ T + z := by omega
          have q2 : T + z ≤ 256 * ((j + 1 : Nat) : Int) := by omega
          clear hx hs hsS hok g1 g4 g5 hLo HT
          go_wp2_with fail
          refine HLo.out.mono ?_
          rintro e w5 ⟨rfl, hb5⟩
          have hbx := hb.trans (hb5.mono hb.size)
          go_wp2
          go_roundw
          case rel => exact ⟨j + 1, T + z, hj1, by go_num, rfl, q1, q2, HT2, hbx⟩
          case measure => simp [intOf]; omega
        · have hjk : j = k := by omega
          have HT2 : Hid (T = longsL S L) := by
            have := HT.out
            rw [hjk, List.take_of_length_le (by rw [HK.out]; exact Nat.le_refl _)] at this
            exact this
          have g0 : decide (j < k) = false := decide_eq_false hlt
          clear hjk HT
          go_wp2
          go_ret2
          exact ⟨below_step hb02 hb, by rw [← HT2.out]; rfl⟩
    · cases hx
  · exact absurd (HA.out x hx) hx2
end Go.Proofs.Ytbmkbnalembbjaa

namespace Go.Proofs.Ytbmkbnalembbjaa
open Go.RowKit
def sumsY (S : List Spot) : Int → List Int → List Int
  | _, [] => []
  | e, x :: t => e :: sumsY S (e + longW S x) t
theorem sumsY_length (S : List Spot) : ∀ (O : List Int) (e : Int), (sumsY S e O).length = O.length
  | [], _ => rfl
  | x :: t, e => by simp only [sumsY, List.length_cons]; rw [sumsY_length S t]
theorem sumsY_at (S : List Spot) : ∀ (O : List Int) (e : Int) (j : Nat), j < O.length → (sumsY S e O)[j]? = some (e + longsL S (O.take j))
  | x :: t, e, 0, _ => by simp [sumsY, longsL]
  | x :: t, e, j + 1, h => by
    simp only [sumsY, List.getElem?_cons_succ, List.take_succ_cons, longsL]
    rw [sumsY_at S t (e + longW S x) j (by simpa using h)]
    congr 1
    omega
theorem longsL_append (S : List Spot) (l m : List Int) : longsL S (l ++ m) = longsL S l + longsL S m := by
  induction l with
  | nil => simp [longsL]
  | cons x l ih => simp only [List.cons_append, longsL, ih]; omega
theorem longsL_perm (S : List Spot) {l m : List Int} (h : l.Perm m) : longsL S l = longsL S m := by
  induction h with
  | nil => rfl
  | cons x _ ih => simp only [longsL, ih]
  | swap x y l => simp only [longsL]; omega
  | trans _ _ ih1 ih2 => exact ih1.trans ih2
theorem longsL_nn {S : List Spot} {l : List Int} (h : ∀ x ∈ l, 0 ≤ longW S x) : 0 ≤ longsL S l := by
  induction l with
  | nil => simp [longsL]
  | cons x l ih =>
    have := h x List.mem_cons_self
    have := ih (fun y hy => h y (List.mem_cons_of_mem _ hy))
    simp only [longsL]
    omega
theorem longsL_take {S : List Spot} {l : List Int} (h : ∀ x ∈ l, 0 ≤ longW S x) (j : Nat) : 0 ≤ longsL S (l.take j) ∧ longsL S (l.take j) ≤ longsL S l := by
  have h1 := longsL_append S (l.take j) (l.drop j)
  rw [List.take_append_drop] at h1
  have h2 := longsL_nn (S := S) (l := l.take j) (fun x hx => h x (List.mem_of_mem_take hx))
  have h3 := longsL_nn (S := S) (l := l.drop j) (fun x hx => h x (List.mem_of_mem_drop hx))
  omega
theorem rows_sums {a : List Int} {φ : Int → Int} (N : Nat) : ∀ (keep : List Int) (e : Nat), (∀ x ∈ keep, (rowAt a φ x).ok ∧ (rowAt a φ x).f = false ∧ ((rowAt a φ x).len : Int) = longW (spotsL a) x) → e + longsL (spotsL a) keep ≤ N →
    RowsOk N e (List.zipWith (fun x y => (y.toNat, rowAt a φ x)) keep (sumsY (spotsL a) e keep)) ∧ ysOf (List.zipWith (fun x y => (y.toNat, rowAt a φ x)) keep (sumsY (spotsL a) e keep)) = sumsY (spotsL a) e keep ∧
      lensOf (List.zipWith (fun x y => (y.toNat, rowAt a φ x)) keep (sumsY (spotsL a) e keep)) = keep.map (longW (spotsL a)) ∧
      laidC N e (List.zipWith (fun x y => (y.toNat, rowAt a φ x)) keep (sumsY (spotsL a) e keep)) = keep.map (rowAt a φ) ++ flushC (N - (e + longsL (spotsL a) keep).toNat) := by
  intro keep
  induction keep with
  | nil => intro e _ h; refine ⟨by simp only [longsL] at h; show e ≤ N; omega, rfl, rfl, ?_⟩
           show flushC (N - e) = [] ++ flushC (N - ((e : Int) + 0).toNat)
           rw [List.nil_append]
           congr 1
  | cons x ks ih =>
    intro e hrow h
    obtain ⟨r1, r2, r3⟩ := hrow x List.mem_cons_self
    have hle : ∀ (l : List Int), (∀ x ∈ l, x ∈ ks) → 0 ≤ longsL (spotsL a) l := fun l hl => longsL_nn (fun x hx => by have := (hrow x (List.mem_cons_of_mem _ (hl x hx))).2.2; omega)
    have := hle ks (fun _ h => h)
    simp only [longsL] at h
    obtain ⟨i1, i2, i3, i4⟩ := ih (e + (rowAt a φ x).len) (fun y hy => hrow y (List.mem_cons_of_mem _ hy)) (by omega)
    simp only [sumsY]
    rw [show (e : Int) + longW (spotsL a) x = ((e + (rowAt a φ x).len : Nat) : Int) by omega, List.zipWith_cons_cons]
    simp only [ysOf, lensOf] at i2 i3 ⊢
    rw [List.map_cons, List.map_cons, i2, i3, Int.toNat_natCast]
    refine ⟨⟨Nat.le_refl _, r1, r2, i1⟩, rfl, ?_, ?_⟩
    · rw [List.map_cons, r3]
    · simp only [laidC]
      rw [i4, Nat.sub_self]
      have e1 : flushC 0 = [] := rfl
      rw [e1, List.nil_append, List.map_cons, List.cons_append]
      congr 3
      simp only [longsL]
      omega
theorem pgaps_sums (S : List Spot) (N : Int) : ∀ (keep : List Int) (e : Int), pgaps N e (sumsY S e keep) (keep.map (longW S)) = if e + longsL S keep < N then [⟨e + longsL S keep, N - (e + longsL S keep)⟩] else []
  | [], e => by simp only [sumsY, List.map_nil, pgaps, longsL, Int.add_zero]
  | x :: t, e => by
    simp only [sumsY, List.map_cons, pgaps, longsL]
    rw [if_neg (by omega), List.nil_append, pgaps_sums S N t (e + longW S x), show e + longW S x + longsL S t = e + (longW S x + longsL S t) by omega]
    rfl
theorem ordered_closed {a f O : List Int} (h0 : checkE a = 0) (h : Ordered a (spotsL a) f O) : ClosedL a O :=
  ⟨h.search.begs, fun x hx y hy => by
    obtain ⟨k, hk⟩ := List.mem_iff_getElem?.1 hx
    exact h.search.seen k x (List.getElem?_eq_some_iff.1 hk).1 hk y hy, fun x hx => (begsL_bounds (checkE_ok.1 h0).1 x (h.search.begs x hx)).1⟩
structure CopyIs (a f : List Int) (N : Nat) (O Y b : List Int) : Prop where
  check : checkE a = 0
  ordered : Ordered a (spotsL a) f O
  fit : longsL (spotsL a) O ≤ N
  le : N ≤ 256
  y : Y = sumsY (spotsL a) 0 O
  b : b = chunksW (laidC N 0 (rowsOf a O Y))
structure Copied (a f : List Int) (N : Nat) (O Y b : List Int) : Prop where
  laid : LaidOk a O Y b N
  closed : ClosedL a O
  rows : RowsOk N 0 (rowsOf a O Y)
  nodup : O.Nodup
  len : Y.length = O.length
  nn : ∀ y ∈ Y, 0 ≤ y
  lenO : O.length ≤ 256
  gaps : gapsL (spotsL b) = if longsL (spotsL a) O < N then [⟨longsL (spotsL a) O, N - longsL (spotsL a) O⟩] else []
  words : b = O.flatMap (fun x => chkW (rowAt a (posL O Y) x)) ++ chunksW (flushC (N - (longsL (spotsL a) O).toNat))
theorem copied_of {a f O Y b : List Int} {N : Nat} (h : CopyIs a f N O Y b) : Copied a f N O Y b := by
  obtain ⟨h1, h2, h3, h4, rfl, rfl⟩ := h
  have h0 := (checkE_ok.1 h1).1
  have hC := ordered_closed h1 h2
  have hmem := parse_mem (parse_ok h0).2
  have hrow : ∀ (φ : Int → Int), ∀ x ∈ O, (rowAt a φ x).ok ∧ (rowAt a φ x).f = false ∧ ((rowAt a φ x).len : Int) = longW (spotsL a) x := by
    intro φ x hx
    obtain ⟨s, hs⟩ := begsL_iff.1 (hC.begs x hx)
    obtain ⟨g1, g2, -⟩ := spotAt_some hs
    obtain ⟨k1, k2, -, -⟩ := kC_ok φ (hmem s g1).1 g2
    rw [rowAt_some hs]
    refine ⟨k1, rfl, ?_⟩
    unfold longW
    rw [hs]
    exact k2
  have hw : ∀ x ∈ O, 0 ≤ longW (spotsL a) x := fun x hx => by have := (hrow id x hx).2.2; omega
  have hl := sumsY_length (spotsL a) O 0
  have hnn : ∀ y ∈ sumsY (spotsL a) 0 O, 0 ≤ y := fun y hy => by
    obtain ⟨j, hj⟩ := List.mem_iff_getElem?.1 hy
    have hjl := (List.getElem?_eq_some_iff.1 hj).1
    rw [hl] at hjl
    rw [sumsY_at _ _ _ _ hjl] at hj
    have := (longsL_take hw j).1
    have := Option.some.inj hj
    omega
  obtain ⟨r1, r2, r3, r4⟩ := rows_sums (a := a) (φ := posL O (sumsY (spotsL a) 0 O)) N O 0 (hrow _) (by simpa using h3)
  have hL := laid_ok h0 hC h2.search.once hl h4 hnn r1
  refine ⟨hL, hC, r1, h2.search.once, hl, hnn, ?_, ?_, ?_⟩
  · exact nodup_bound 256 O h2.search.once (fun x hx => begsL_bounds h0 x (hC.begs x hx))
  · have := hL.gaps
    rw [this]
    unfold rowsOf
    have e := pgaps_sums (spotsL a) N O 0
    simp only [Int.zero_add] at e
    rw [← e]
    have r2' : ysOf (List.zipWith (fun x y => (y.toNat, rowAt a (posL O (sumsY (spotsL a) 0 O)) x)) O (sumsY (spotsL a) 0 O)) = sumsY (spotsL a) 0 O := r2
    have r3' : lensOf (List.zipWith (fun x y => (y.toNat, rowAt a (posL O (sumsY (spotsL a) 0 O)) x)) O (sumsY (spotsL a) 0 O)) = O.map (longW (spotsL a)) := r3
    rw [r2', r3']
  · have r4' : laidC N 0 (rowsOf a O (sumsY (spotsL a) 0 O)) = O.map (rowAt a (posL O (sumsY (spotsL a) 0 O))) ++ flushC (N - ((0 : Nat) + longsL (spotsL a) O : Int).toNat) := r4
    rw [r4', chunksW_append, show ((0 : Nat) + longsL (spotsL a) O : Int).toNat = (longsL (spotsL a) O).toNat by omega]
    congr 1
    unfold chunksW
    rw [List.flatMap_map]
theorem Copied.form {a f O Y b : List Int} {N : Nat} (h : Copied a f N O Y b) (hf : ∀ x ∈ f, x ∈ O) {os os' : List Ob} {fr fr' : List Int} (h1 : FormIs a f os fr) (h2 : FormIs b (f.map (posL O Y)) os' fr') : os = os' ∧ fr = fr' :=
  form_iso h.laid.iso h.closed hf h1 h2
theorem Copied.alive {a f O Y b : List Int} {N : Nat} (h : Copied a f N O Y b) (hf : ∀ x ∈ f, x ∈ O) : ∀ x ∈ f.map (posL O Y), x ∈ begsL (spotsL b) := by
  intro x hx
  obtain ⟨z, hz, rfl⟩ := List.mem_map.1 hx
  have hzL := hf z hz
  obtain ⟨s, hs⟩ := begsL_iff.1 (h.closed.begs z hzL)
  obtain ⟨s', hs', -⟩ := h.laid.iso.at_ z hzL s hs
  exact begsL_iff.2 ⟨s', hs'⟩
def rawW (a : List Int) (x : Int) : List Int := chkW (rowAt a id x)
def newW (a : List Int) (φ : Int → Int) (x : Int) : List Int := chkW (rowAt a φ x)
def eJ (a O : List Int) (j : Nat) : Nat := (longsL (spotsL a) (O.take j)).toNat
structure CopyAt (a O : List Int) (φ : Int → Int) (j : Nat) (x : Int) (s : Spot) (i : Nat) : Prop where
  spot : spotAt (spotsL a) x = some s
  ix : atIx a x = i
  get : (spotsL a)[i]? = some s
  ok : SpotOk a s
  next : (eJ a O (j + 1) : Int) = eJ a O j + s.long
  raw : (O.take (j + 1)).flatMap (rawW a) = (O.take j).flatMap (rawW a) ++ (wordOf s.r s.b s.t s.f :: (refsOf a s ++ bodyOf a s))
  new : (O.take (j + 1)).flatMap (newW a φ) = (O.take j).flatMap (newW a φ) ++ (wordOf s.r s.b s.t s.f :: ((refsOf a s).map (refT φ) ++ bodyOf a s))
  rest : (O.drop j).flatMap (rawW a) = (wordOf s.r s.b s.t s.f :: (refsOf a s ++ bodyOf a s)) ++ (O.drop (j + 1)).flatMap (rawW a)
  links : ∀ v ∈ refsOf a s, v ≠ 0 → v - 1 ∈ O
theorem refT_id (v : Int) : refT id v = v := by
  unfold refT
  by_cases h : v = 0
  · rw [if_pos h, h]
  · rw [if_neg h]
    show v - 1 + 1 = v
    omega
theorem copy_facts {a O : List Int} (h0 : checkE a = 0) (hC : ClosedL a O) (φ : Int → Int) :
    (∀ j, ((O.take j).flatMap (rawW a)).length = eJ a O j ∧ ((O.take j).flatMap (newW a φ)).length = eJ a O j ∧ (eJ a O j : Int) = longsL (spotsL a) (O.take j) ∧ eJ a O j ≤ eJ a O O.length ∧ ((O.drop j).flatMap (rawW a)).length = eJ a O O.length - eJ a O j) ∧
    ∀ (j : Nat) (x : Int), O[j]? = some x → ∃ s i, CopyAt a O φ j x s i := by
  have h1 := (checkE_ok.1 h0).1
  have hmem := parse_mem (parse_ok h1).2
  have hrow : ∀ (φ : Int → Int), ∀ x ∈ O, ((chkW (rowAt a φ x)).length : Int) = longW (spotsL a) x := by
    intro φ x hx
    obtain ⟨s, hs⟩ := begsL_iff.1 (hC.begs x hx)
    obtain ⟨g1, g2, -⟩ := spotAt_some hs
    obtain ⟨k1, k2, -, -⟩ := kC_ok φ (hmem s g1).1 g2
    rw [rowAt_some hs, chkW_length]
    unfold longW
    rw [hs]
    exact k2
  have hw : ∀ x ∈ O, 0 ≤ longW (spotsL a) x := fun x hx => by have := hrow id x hx; omega
  have hfl : ∀ (φ : Int → Int) (l : List Int), (∀ x ∈ l, x ∈ O) → ((l.flatMap (fun x => chkW (rowAt a φ x))).length : Int) = longsL (spotsL a) l := by
    intro φ l
    induction l with
    | nil => intro _; rfl
    | cons x l ih =>
      intro hl
      rw [List.flatMap_cons, List.length_append]
      simp only [longsL]
      have := ih (fun y hy => hl y (List.mem_cons_of_mem _ hy))
      have := hrow φ x (hl x List.mem_cons_self)
      omega
  have hej : ∀ j, (eJ a O j : Int) = longsL (spotsL a) (O.take j) := fun j => by
    have := (longsL_take hw j).1
    unfold eJ
    omega
  have hE : eJ a O O.length = (longsL (spotsL a) O).toNat := by unfold eJ; rw [List.take_length]
  refine ⟨fun j => ⟨?_, ?_, hej j, ?_, ?_⟩, fun j x hx => ?_⟩
  · have := hfl id (O.take j) (fun x hx => List.mem_of_mem_take hx)
    have e := hej j
    have : (((O.take j).flatMap (rawW a)).length : Int) = eJ a O j := by rw [e]; exact this
    omega
  · have := hfl φ (O.take j) (fun x hx => List.mem_of_mem_take hx)
    have e := hej j
    have : (((O.take j).flatMap (newW a φ)).length : Int) = eJ a O j := by rw [e]; exact this
    omega
  · have := (longsL_take hw j).2
    have := hej j
    rw [hE]
    omega
  · have h2 := hfl id (O.drop j) (fun x hx => List.mem_of_mem_drop hx)
    have h3 := longsL_append (spotsL a) (O.take j) (O.drop j)
    rw [List.take_append_drop] at h3
    have e := hej j
    have h4 := longsL_nn hw
    have h5 : (((O.drop j).flatMap (rawW a)).length : Int) = longsL (spotsL a) (O.drop j) := h2
    omega
  · obtain ⟨q1, q2⟩ := List.getElem?_eq_some_iff.1 hx
    have hxO := List.mem_of_getElem? hx
    obtain ⟨s, hs⟩ := begsL_iff.1 (hC.begs x hxO)
    obtain ⟨g1, g2, -⟩ := spotAt_some hs
    obtain ⟨i, e1, e2⟩ := spotAt_ix h1 hs
    have hraw : rawW a x = wordOf s.r s.b s.t s.f :: (refsOf a s ++ bodyOf a s) := by
      unfold rawW
      rw [rowAt_some hs]
      show wordOf s.r s.b s.t false :: ((refsOf a s).map (refT id) ++ bodyOf a s) = _
      rw [g2]
      congr 2
      conv => rhs; rw [← List.map_id (refsOf a s)]
      exact List.map_congr_left (fun v _ => refT_id v)
    have hnew : newW a φ x = wordOf s.r s.b s.t s.f :: ((refsOf a s).map (refT φ) ++ bodyOf a s) := by
      unfold newW
      rw [rowAt_some hs, g2]
      rfl
    refine ⟨s, i, hs, e1, e2, (hmem s g1).1, ?_, ?_, ?_, ?_, Iso.link_of hC hxO hs⟩
    · rw [hej, hej, List.take_succ_eq_append_getElem q1, q2, longsL_append]
      simp only [longsL]
      unfold longW
      rw [hs]
      dsimp only
      omega
    · rw [List.take_succ_eq_append_getElem q1, q2, List.flatMap_append, List.flatMap_cons, List.flatMap_nil, List.append_nil, hraw]
    · rw [List.take_succ_eq_append_getElem q1, q2, List.flatMap_append, List.flatMap_cons, List.flatMap_nil, List.append_nil, hnew]
    · rw [List.drop_eq_getElem_cons q1, q2, List.flatMap_cons, hraw]
end Go.Proofs.Ytbmkbnalembbjaa

namespace Go.Proofs.Ytbmkbnalembbjaa
open Go.RowKit
theorem splice_set {α : Type} {L cs : List α} {off k : Nat} (v : α) (h : off ≤ L.length) (hk : k < cs.length) : (splice L off cs).set (off + k) v = splice L off (cs.set k v) := by
  unfold splice
  rw [List.set_append_right _ _ (by rw [List.length_take]; omega), List.length_take, Nat.min_eq_left h, show off + k - off = k by omega, List.set_append_left _ _ hk, List.length_set]
theorem splice_at {α : Type} {L cs : List α} {off k : Nat} (h : off ≤ L.length) (hk : k < cs.length) : (splice L off cs)[off + k]? = cs[k]? := by
  unfold splice
  rw [List.getElem?_append_right (by rw [List.length_take]; omega), List.length_take, Nat.min_eq_left h, show off + k - off = k by omega, List.getElem?_append_left hk]
theorem splice_map {α β : Type} (f : α → β) (L cs : List α) (off : Nat) : (splice L off cs).map f = splice (L.map f) off (cs.map f) := by
  unfold splice
  simp
theorem obj_words {a : List Int} {s : Spot} (h : SpotOk a s) : (a.drop s.loc.toNat).take s.long.toNat = wordOf s.r s.b s.t s.f :: (refsOf a s ++ bodyOf a s) := by
  have l0 := h.loc0
  have r0 := h.r0
  have b0 := h.b0
  have ft := h.fits
  unfold Spot.long at ft ⊢
  obtain ⟨h1, h2⟩ := List.getElem?_eq_some_iff.1 h.word
  rw [List.drop_eq_getElem_cons h1, h2, show (1 + s.r + s.b).toNat = (s.r.toNat + s.b.toNat) + 1 by omega, List.take_succ_cons]
  congr 1
  unfold refsOf bodyOf
  rw [List.take_add, List.drop_drop]
theorem zero_u64 (w : World) : (zeroValue 37).run Try.prog w = .ok (.int .u64 0) w := by kernel_rfl
theorem mid_set {Wd z : Int} {A rs bs : List Int} {q : Nat} (hA : A.length = q) (hq : q < rs.length) : (Wd :: (A ++ (rs.drop q ++ bs))).set (1 + q) z = Wd :: ((A ++ [z]) ++ (rs.drop (q + 1) ++ bs)) := by
  rw [Nat.add_comm 1 q, List.set_cons_succ, List.set_append_right _ _ (by omega), hA, Nat.sub_self, List.drop_eq_getElem_cons hq, List.cons_append, List.set_cons_zero]
  simp
end Go.Proofs.Ytbmkbnalembbjaa

namespace Go.Proofs.Ytbmkbnalembbjaa
open Go.RowKit
set_option maxHeartbeats 400000 in
theorem wnew_ok (n : Nat) (w : World) (hn : n ≤ 256) :
    Calls Try.prog 50 #[.int .i64 n] w fun e w' => e = .returned (.tuple #[.slice (some ⟨w.heap.size, 0, none⟩) n n, .int .i64 0]) ∧ w' = w.alloc (.cells (madeCells #[Value.int .u64 0] n) 37) := by
  obtain ⟨i0, hi, hz0, hz1, hz2⟩ := info_parts info_u64
  have hmk := fun W => run_make_rowN (P := Try.prog) 23 37 i0 (.int .u64 0) Try.underlying23 hi hz0 .i64 .i64 n n (Nat.le_refl _) (by rw [hz2]; omega) (by omega) W
  rw [hz1, Nat.mul_one] at hmk
  have h1 : ¬ (n : Int) < 0 := by omega
  have h2 : ¬ (256 : Int) < n := by omega
  go_enter Try.func50, Try.ntmps50
  go_wp2
  go_ret2
  exact ⟨rfl, rfl⟩
set_option maxHeartbeats 400000 in
theorem wnew_bad (n : Int) (w : World) (hn : n < 0 ∨ 256 < n) :
    Calls Try.prog 50 #[.int .i64 n] w fun e w' => e = .returned (.tuple #[.slice none 0 0, .int .i64 4]) ∧ w' = w := by
  rcases hn with h | h
  · go_enter Try.func50, Try.ntmps50
    go_wp2
    go_ret2
    exact ⟨rfl, rfl⟩
  · have h1 : ¬ n < 0 := by omega
    go_enter Try.func50, Try.ntmps50
    go_wp2
    go_ret2
    exact ⟨rfl, rfl⟩
theorem results_tmp4c {fn : Func} {t u v x : Tmp} (h : fn.results = #[.tmp t, .tmp u, .tmp v, .tmp x]) (tmps : Array Value) (P : Program) (w : World) :
    (results fn tmps).run P w = .ok (.tuple #[tmps.getD t undef, tmps.getD u undef, tmps.getD v undef, tmps.getD x undef]) w := by simp [results, h]
end Go.Proofs.Ytbmkbnalembbjaa

namespace Go.Proofs.Ytbmkbnalembbjaa
open Go.RowKit
theorem grownBy_setRow {w : World} {g : Nat} {cs : Array Value} : w.grownBy (w.setRow g cs) (some g) := by
  refine ⟨rfl, rfl, rfl, by simp [World.setRow], fun b hb hne => ?_⟩
  exact setRow_other _ _ _ _ (fun e => hne (by rw [e]))
section
variable {P : Program} (w : World)
theorem run_append_fit (base : Nat) (t ty e : TypeId) (i : TypeInfo) (size : Nat) (ht : P.underlying t = some (.slice e)) (hi : P.info? e = some i) (hsize : i.size = size)
    (A : Option Addr) (n cap : Nat) (xs : List Value) (hown : w.ownsRow base e size (.slice A n cap) n xs) (B : Nat) (As : Option Addr) (m c : Nat) (news : List Value) (hr : Reads w B size As m news) (h1 : ∀ u ∈ news, u.oneCell' = true) (_ : 0 < size)
    (hfit : n + m ≤ cap) :
    ∃ w', (Builtin.append_ #[t, t] ty #[.slice A n cap, .slice As m c]).run P w = .ok (.slice A (n + m) cap) w' ∧ w'.ownsRow base e size (.slice A (n + m) cap) (n + m) (xs ++ news) ∧ w.grownBy w' (Value.slice A n cap).ownBlock := by
  have hnil : m = 0 → news = [] := fun h => List.eq_nil_of_length_eq_zero (by rw [hr.1, h]; simp)
  rcases As with _ | ad
  · have hm : m = 0 := by
      rcases Nat.eq_zero_or_pos m with h0 | h0
      · exact h0
      · obtain ⟨ad, h, _⟩ := hr.2 h0
        cases h
    subst hm
    rw [hnil rfl]
    exact ⟨w, run_append_of_nil w base t ty e i size ht hi _ n xs hown c, by simpa using hown, World.grownBy.refl w _⟩
  · have hcells : ∀ j u, news[j]? = some u → w.cell? (ad.add j) = some u := by
      intro j u hu
      rcases Nat.eq_zero_or_pos m with h0 | h0
      · rw [hnil h0] at hu; simp at hu
      · obtain ⟨ad', h, _, hc⟩ := hr.2 h0
        injection h with h
        subst h
        exact hc j u hu
    rcases hown.2 with ⟨hv, hx⟩ | ⟨g, cap', cur, hv, -⟩
    · injection hv with e1 e2 e3
      subst e1 e2 e3
      have hm : m = 0 := by omega
      subst hm
      rw [hnil rfl]
      have hl0 := run_loadCells_list (P := P) w ad [] (by simp)
      simp only [List.length_nil] at hl0
      exact ⟨w, by simp [hl0, Builtin.append_, run_underlying ht, sizeOf, typeInfo, hi, Builtin.lenOf, Builtin.firstCells], by simpa using hown, World.grownBy.refl w _⟩
    · injection hv with e1 e2 e3
      subst e1
      obtain ⟨cur, hb, hg, hc, hm, hs, htk⟩ := own_open hown
      have hlen : news.length = m * size := hr.1
      have hmul : (n + m) * size ≤ cap * size := Nat.mul_le_mul_right _ hfit
      have hsum : (n + m) * size = n * size + m * size := Nat.add_mul _ _ _
      have hrun := run_appendK (P := P) w t ty e size g n cap ad m c cur e news ht (by rw [hi]; simp [hsize]) hg hlen hcells hfit (by omega) h1
      refine ⟨_, hrun, ?_, grownBy_setRow⟩
      have hl2 : (splice cur (n * size) news).length = cap * size := by unfold splice; simp; omega
      have := own_close (w := w.setRow g (splice cur (n * size) news).toArray) (base := base) (e := e) (size := size) (n := n + m) (c := cap) (g := g) (splice cur (n * size) news) hb (setRow_heap w g _ _ _ _ hg) hfit hm hl2
      have h3 : (splice cur (n * size) news).take ((n + m) * size) = xs ++ news := by
        rw [hsum, take_splice _ _ _ _ (by omega) (by omega)]
        unfold splice
        rw [List.take_take, Nat.min_eq_left (by omega), htk, List.drop_of_length_le (by rw [List.length_take]; omega), List.append_nil]
      rw [h3] at this
      exact this
end
end Go.Proofs.Ytbmkbnalembbjaa
