/-
  Plain law: marking with a stack of bounded room: what is marked, how deep, in how many passes. No program stands here.
-/
import Derived.Test.YtbmkbnalembbjaaDoorTintWords
import Derived.Test.YtbmkbnalembbjaaDoorMarksOver
namespace Go.Proofs.YtbmkbnalembbjaaDoor
open Go.RowKit

/-- The marker: what waits, whether it was full, what is marked, how many passes, how deep. -/
structure Mk where
  stack : List Int
  over : Bool
  M : List Int
  passes : Nat
  deep : Nat
def Mk.mark (room : Nat) (m : Mk) (x : Int) : Mk :=
  if x ∈ m.M then m else
  if m.stack.length = room then ⟨m.stack, true, m.M ++ [x], m.passes, m.deep⟩
  else ⟨m.stack ++ [x], m.over, m.M ++ [x], m.passes, max m.deep (m.stack.length + 1)⟩
def Mk.pop (m : Mk) : Mk := ⟨m.stack.dropLast, m.over, m.M, m.passes, m.deep⟩
def Mk.turn (m : Mk) : Mk := ⟨m.stack, false, m.M, m.passes + 1, m.deep⟩

/-- What holds of a marker at any time. L: what can be reached. -/
structure MkOk (room : Nat) (L : List Int) (m : Mk) : Prop where
  sub : ∀ x ∈ m.M, x ∈ L
  once : m.M.Nodup
  waits : ∀ x ∈ m.stack, x ∈ m.M
  sonce : m.stack.Nodup
  fits : m.stack.length ≤ room
  deep : m.deep ≤ room
  past : m.passes + (if m.over = true then 1 else 0) ≤ m.M.length
  wide : L.length ≤ room → m.over = false ∧ m.passes = 0
theorem MkOk.start (room : Nat) (L : List Int) : MkOk room L ⟨[], false, [], 0, 0⟩ :=
  ⟨by simp, by simp, by simp, by simp, by simp, by simp, by simp, fun _ => ⟨rfl, rfl⟩⟩
theorem nodup_sub : ∀ {M L : List Int}, M.Nodup → (∀ x ∈ M, x ∈ L) → M.length ≤ L.length
  | [], _, _, _ => Nat.zero_le _
  | x :: M, L, hn, hs => by
    obtain ⟨h1, h2⟩ := List.nodup_cons.1 hn
    have hx := hs x List.mem_cons_self
    have h3 := nodup_sub (L := L.erase x) h2 (fun y hy => by
      have : y ≠ x := fun e => by subst e; exact h1 hy
      exact (List.mem_erase_of_ne this).2 (hs y (List.mem_cons_of_mem _ hy)))
    have h4 := List.length_erase_of_mem hx
    have h5 := List.length_pos_of_mem hx
    simp only [List.length_cons]
    omega
theorem MkOk.marked {room : Nat} {L : List Int} {m : Mk} (h : MkOk room L m) : m.M.length ≤ L.length := nodup_sub h.once h.sub
theorem nodup_snoc {l : List Int} {x : Int} (h : l.Nodup) (hx : x ∉ l) : (l ++ [x]).Nodup :=
  List.nodup_append.2 ⟨h, by simp, by rintro a ha b hb rfl; simp at hb; subst hb; exact hx ha⟩
theorem MkOk.mark {room : Nat} {L : List Int} {m : Mk} (h : MkOk room L m) {x : Int} (hx : x ∈ L) : MkOk room L (m.mark room x) := by
  unfold Mk.mark
  split
  · exact h
  · rename_i hm
    have hsub : ∀ y ∈ m.M ++ [x], y ∈ L := fun y hy => by
      rcases List.mem_append.1 hy with hy | hy
      · exact h.sub y hy
      · rw [List.mem_singleton.1 hy]; exact hx
    have hon := nodup_snoc h.once hm
    have hle : m.M.length + 1 ≤ L.length := by have := nodup_sub hon hsub; simpa using this
    have hs : m.stack.length ≤ m.M.length := nodup_sub h.sonce h.waits
    have hp := h.past
    split
    · rename_i hr
      refine ⟨hsub, hon, fun y hy => List.mem_append_left _ (h.waits y hy), h.sonce, h.fits, h.deep, ?_, fun hw => ?_⟩
      · simp only [if_true, List.length_append, List.length_singleton]
        split at hp <;> omega
      · omega
    · rename_i hr
      have hf := h.fits
      have hd := h.deep
      refine ⟨hsub, hon, fun y hy => ?_, nodup_snoc h.sonce (fun h2 => hm (h.waits x h2)), ?_, ?_, ?_, h.wide⟩
      · rcases List.mem_append.1 hy with hy | hy
        · exact List.mem_append_left _ (h.waits y hy)
        · exact List.mem_append_right _ hy
      · simp only [List.length_append, List.length_singleton]; omega
      · show max m.deep (m.stack.length + 1) ≤ room
        omega
      · simp only [List.length_append, List.length_singleton]; omega
theorem MkOk.pop {room : Nat} {L : List Int} {m : Mk} (h : MkOk room L m) : MkOk room L m.pop :=
  ⟨h.sub, h.once, fun x hx => h.waits x (List.dropLast_subset _ hx), h.sonce.sublist (List.dropLast_sublist _), by show m.stack.dropLast.length ≤ room; rw [List.length_dropLast]; have := h.fits; omega, h.deep, h.past, h.wide⟩
theorem MkOk.turn {room : Nat} {L : List Int} {m : Mk} (h : MkOk room L m) (ho : m.over = true) : MkOk room L m.turn := by
  refine ⟨h.sub, h.once, h.waits, h.sonce, h.fits, h.deep, ?_, fun hw => ?_⟩
  · have := h.past
    rw [if_pos ho] at this
    simpa [Mk.turn] using this
  · have := (h.wide hw).1
    rw [ho] at this
    cases this

theorem Mk.mark_sub (room : Nat) (m : Mk) (x : Int) : (∀ y ∈ m.M, y ∈ (m.mark room x).M) ∧ x ∈ (m.mark room x).M := by
  unfold Mk.mark
  split
  · rename_i h; exact ⟨fun y hy => hy, h⟩
  · split <;> exact ⟨fun y hy => List.mem_append_left _ hy, by simp⟩
/-- Where the marking stands: unless it was full, each that is marked waits, or its links are marked, or it is still to come. -/
def MkAt (lk : Int → List Int) (D : Int → Prop) (m : Mk) : Prop := m.over = false → ∀ x ∈ m.M, x ∈ m.stack ∨ (∀ y ∈ lk x, y ∈ m.M) ∨ D x
theorem MkAt.mark {lk : Int → List Int} {D : Int → Prop} {m : Mk} (h : MkAt lk D m) (room : Nat) (x : Int) : MkAt lk D (m.mark room x) := by
  have hs := (Mk.mark_sub room m x).1
  unfold Mk.mark at hs ⊢
  split
  · exact h
  · rename_i hm
    rw [if_neg hm] at hs
    split
    · intro ho; cases ho
    · rename_i hr
      rw [if_neg hr] at hs
      intro ho y hy
      rcases List.mem_append.1 hy with hy | hy
      · rcases h ho y hy with h1 | h1 | h1
        · exact .inl (List.mem_append_left _ h1)
        · exact .inr (.inl fun z hz => hs z (h1 z hz))
        · exact .inr (.inr h1)
      · exact .inl (List.mem_append_right _ hy)
theorem MkAt.pop {lk : Int → List Int} {D : Int → Prop} {m : Mk} (h : MkAt lk D m) {x : Int} (hx : m.stack.getLast? = some x) : MkAt lk (fun y => D y ∨ y = x) m.pop := by
  intro ho y hy
  rcases h ho y hy with h1 | h1 | h1
  · obtain ⟨ys, hys⟩ := List.getLast?_eq_some_iff.1 hx
    rw [hys] at h1
    rcases List.mem_append.1 h1 with h1 | h1
    · left
      show y ∈ m.stack.dropLast
      rw [hys, List.dropLast_concat]; exact h1
    · exact .inr (.inr (.inr (List.mem_singleton.1 h1)))
  · exact .inr (.inl h1)
  · exact .inr (.inr (.inl h1))
/-- All that one object names is marked. -/
theorem marks_all {room : Nat} {L : List Int} {lk : Int → List Int} {D : Int → Prop} : ∀ (l : List Int) {m : Mk}, MkOk room L m → MkAt lk D m → (∀ y ∈ l, y ∈ L) →
    MkOk room L (l.foldl (Mk.mark room) m) ∧ MkAt lk D (l.foldl (Mk.mark room) m) ∧ (∀ y ∈ m.M, y ∈ (l.foldl (Mk.mark room) m).M) ∧ (∀ y ∈ l, y ∈ (l.foldl (Mk.mark room) m).M)
  | [], m, h, h2, _ => ⟨h, h2, fun y hy => hy, by simp⟩
  | x :: l, m, h, h2, hl => by
    obtain ⟨q1, q2, q3, q4⟩ := marks_all l (h.mark (hl x List.mem_cons_self)) (h2.mark room x) (fun y hy => hl y (List.mem_cons_of_mem _ hy))
    obtain ⟨s1, s2⟩ := Mk.mark_sub room m x
    refine ⟨q1, q2, fun y hy => q3 y (s1 y hy), fun y hy => ?_⟩
    rcases List.mem_cons.1 hy with rfl | hy
    · exact q3 _ s2
    · exact q4 y hy
theorem MkAt.less {lk : Int → List Int} {D E : Int → Prop} {m : Mk} (h : MkAt lk D m) (hd : ∀ x ∈ m.M, D x → E x ∨ ∀ y ∈ lk x, y ∈ m.M) : MkAt lk E m := by
  intro ho x hx
  rcases h ho x hx with h1 | h1 | h1
  · exact .inl h1
  · exact .inr (.inl h1)
  · rcases hd x hx h1 with h2 | h2
    · exact .inr (.inr h2)
    · exact .inr (.inl h2)
theorem MkAt.turn {lk : Int → List Int} {m : Mk} {D : Int → Prop} (hd : ∀ x ∈ m.M, D x) : MkAt lk D m.turn := fun _ x hx => .inr (.inr (hd x hx))

/-- How much is left to do. -/
def Mk.left (k : Nat) (m : Mk) : Nat := 2 * (k - m.M.length) + m.stack.length
theorem Mk.left_mark {room : Nat} {L : List Int} {m : Mk} (h : MkOk room L m) {x : Int} (hx : x ∈ L) : (m.mark room x).left L.length ≤ m.left L.length := by
  have h1 := (h.mark hx).marked
  unfold Mk.mark at h1 ⊢
  split
  · exact Nat.le_refl _
  · rename_i hm
    rw [if_neg hm] at h1
    split
    · rename_i hr
      rw [if_pos hr] at h1
      simp only [Mk.left, List.length_append, List.length_singleton] at h1 ⊢
      omega
    · rename_i hr
      rw [if_neg hr] at h1
      simp only [Mk.left, List.length_append, List.length_singleton] at h1 ⊢
      omega
theorem Mk.left_all {room : Nat} {L : List Int} : ∀ (l : List Int) {m : Mk}, MkOk room L m → (∀ y ∈ l, y ∈ L) → (l.foldl (Mk.mark room) m).left L.length ≤ m.left L.length
  | [], _, _, _ => Nat.le_refl _
  | x :: l, m, h, hl => by
    have h1 := Mk.left_mark h (hl x List.mem_cons_self)
    have h2 := Mk.left_all l (h.mark (hl x List.mem_cons_self)) (fun y hy => hl y (List.mem_cons_of_mem _ hy))
    exact Nat.le_trans h2 h1
theorem Mk.left_pop (k : Nat) {m : Mk} (h : m.stack ≠ []) : m.pop.left k < m.left k := by
  have := List.length_pos_iff.2 h
  simp only [Mk.left, Mk.pop, List.length_dropLast]
  omega
/-- A number that goes down, told of worlds. -/
theorem least_ex (R : Nat → Prop) : ∀ n, R n → ∃ k, R k ∧ ∀ j, R j → k ≤ j := by
  intro n
  induction n using Nat.strongRecOn with
  | ind n ih =>
    intro h
    by_cases hj : ∃ j, j < n ∧ R j
    · obtain ⟨j, h1, h2⟩ := hj
      exact ih j h1 h2
    · exact ⟨n, h, fun j h2 => by
        rcases Nat.lt_or_ge j n with h3 | h3
        · exact absurd ⟨j, h3, h2⟩ hj
        · exact h3⟩
theorem measure_ex {α : Type} (R : α → Nat → Prop) : ∃ f : α → Nat, ∀ w n, R w n → R w (f w) ∧ f w ≤ n := by
  refine ⟨fun w => Classical.epsilon (fun k => R w k ∧ ∀ j, R w j → k ≤ j), fun w n h => ?_⟩
  obtain ⟨k, hk⟩ := least_ex (R w) n h
  have := Classical.epsilon_spec (p := fun k => R w k ∧ ∀ j, R w j → k ≤ j) ⟨k, hk⟩
  exact ⟨this.1, this.2 n h⟩

/-- At the end: what is marked is what is reached. -/
theorem MkOk.all {room : Nat} {a : List Int} {S : List Spot} {f L : List Int} {m : Mk} (h : MkOk room L m) (hL : Reached a S f L) (hA : MkAt (linksAt a S) (fun _ => False) m) (ho : m.over = false) (hs : m.stack = []) (hf : ∀ x ∈ f, x ∈ m.M) :
    (∀ x, x ∈ m.M ↔ x ∈ L) ∧ m.M.length ≤ L.length := by
  refine ⟨fun x => ⟨h.sub x, fun hx => hL.least (· ∈ m.M) hf (fun y hy => ?_) x hx⟩, h.marked⟩
  rcases hA ho y hy with h1 | h1 | h1
  · rw [hs] at h1; cases h1
  · exact h1
  · exact h1.elim

/-- The marks of some objects: all their words. -/
def MarksOf (S : List Spot) (M : List Int) (m : List Int) : Prop := ∀ j : Nat, mk m j = true ↔ ∃ x ∈ M, x ≤ (j : Int) ∧ (j : Int) < x + longW S x
theorem MarksOf.snoc {S : List Spot} {M m m' : List Int} {K N : Nat} (h : MarksOf S M m) (hN : (N : Int) = longW S K) (hk : ∀ j, mk m' j = if K ≤ j ∧ j < K + N then true else mk m j) : MarksOf S (M ++ [(K : Int)]) m' := by
  intro j
  rw [hk j]
  split
  · rename_i h1
    simp only [true_iff]
    exact ⟨K, by simp, by omega, by omega⟩
  · rename_i h1
    rw [h j]
    constructor
    · rintro ⟨x, hx, h2, h3⟩
      exact ⟨x, List.mem_append_left _ hx, h2, h3⟩
    · rintro ⟨x, hx, h2, h3⟩
      rcases List.mem_append.1 hx with hx | hx
      · exact ⟨x, hx, h2, h3⟩
      · rw [List.mem_singleton.1 hx] at h2 h3
        omega
theorem MarksOf.same {S : List Spot} {M M' m : List Int} (h : MarksOf S M m) (hM : ∀ x, x ∈ M ↔ x ∈ M') : MarksOf S M' m := by
  intro j
  rw [h j]
  constructor
  · rintro ⟨x, hx, h2⟩
    exact ⟨x, (hM x).1 hx, h2⟩
  · rintro ⟨x, hx, h2⟩
    exact ⟨x, (hM x).2 hx, h2⟩
theorem longW_of {S : List Spot} {x : Int} {s : Spot} (h : spotAt S x = some s) : longW S x = s.long := by unfold longW; rw [h]
/-- Spots do not lie on one another. -/
theorem spot_same {a : List Int} (h0 : spotsE a = 0) {s t : Spot} (hs : s ∈ spotsL a) (ht : t ∈ spotsL a) {j : Int} (h1 : s.loc ≤ j) (h2 : j < s.loc + s.long) (h3 : t.loc ≤ j) (h4 : j < t.loc + t.long) : s = t := by
  obtain ⟨hlen, hp⟩ := parse_ok h0
  have ho := parse_order hp
  obtain ⟨p, hp1⟩ := List.mem_iff_getElem?.1 hs
  obtain ⟨q, hq1⟩ := List.mem_iff_getElem?.1 ht
  obtain ⟨p1, rfl⟩ := List.getElem?_eq_some_iff.1 hp1
  obtain ⟨q1, rfl⟩ := List.getElem?_eq_some_iff.1 hq1
  rcases Nat.lt_trichotomy p q with hpq | hpq | hpq
  · have := List.pairwise_iff_getElem.1 ho p q p1 q1 hpq
    omega
  · subst hpq; rfl
  · have := List.pairwise_iff_getElem.1 ho q p q1 p1 hpq
    omega
theorem long_pos {a : List Int} {s : Spot} (h : SpotOk a s) : 1 ≤ s.long := by
  have e1 := h.r0
  have e2 := h.b0
  unfold Spot.long
  omega
theorem spotAt_self {a : List Int} (h0 : spotsE a = 0) {s : Spot} (hs : s ∈ spotsL a) (hf : s.f = false) : spotAt (spotsL a) s.loc = some s := by
  have hb : s.loc ∈ begsL (spotsL a) := List.mem_map.2 ⟨s, List.mem_filter.2 ⟨hs, by simp [hf]⟩, rfl⟩
  obtain ⟨t, ht⟩ := begsL_iff.1 hb
  obtain ⟨t1, t2, t3⟩ := spotAt_some ht
  obtain ⟨hlen, hp⟩ := parse_ok h0
  have e1 := long_pos (parse_mem hp s hs).1
  have e2 := long_pos (parse_mem hp t t1).1
  rw [ht, spot_same h0 t1 hs (j := s.loc) (by omega) (by omega) (Int.le_refl _) (by omega)]
/-- The first word's mark tells whether the object is marked. -/
theorem MarksOf.has {a : List Int} (h0 : spotsE a = 0) {M m : List Int} (hm : MarksOf (spotsL a) M m) (hM : ∀ x ∈ M, x ∈ begsL (spotsL a)) {k : Nat} (hk : (k : Int) ∈ begsL (spotsL a)) : mk m k = true ↔ (k : Int) ∈ M := by
  rw [hm k]
  obtain ⟨hlen, hp⟩ := parse_ok h0
  obtain ⟨s, hs⟩ := begsL_iff.1 hk
  obtain ⟨s1, s2, s3⟩ := spotAt_some hs
  have e1 := long_pos (parse_mem hp s s1).1
  constructor
  · rintro ⟨x, hx, h1, h2⟩
    obtain ⟨t, ht⟩ := begsL_iff.1 (hM x hx)
    obtain ⟨t1, t2, t3⟩ := spotAt_some ht
    rw [longW_of ht] at h2
    have := spot_same h0 s1 t1 (j := (k : Int)) (by omega) (by omega) (by omega) (by omega)
    subst this
    rw [show (k : Int) = x by omega]; exact hx
  · intro hx
    refine ⟨k, hx, Int.le_refl _, ?_⟩
    rw [longW_of hs]
    omega
/-- How many marks there are: the words of what is marked. -/
theorem cnt_full (m : List Int) (a : Nat) : ∀ l, (∀ j, a ≤ j → j < a + l → mk m j = true) → cnt m a l = l
  | 0, _ => rfl
  | l + 1, h => by
    have h1 := cnt_full m a l (fun j h1 h2 => h j h1 (by omega))
    simp only [cnt]
    rw [h1, if_pos (h (a + l) (by omega) (by omega))]
def picked (L : List Int) (s : Spot) : Int := if s.f = false ∧ s.loc ∈ L then s.long else 0
def pickedL (L : List Int) : List Spot → Int
  | [] => 0
  | s :: l => picked L s + pickedL L l
theorem marks_count {a : List Int} (h0 : spotsE a = 0) {L m : List Int} (hm : MarksOf (spotsL a) L m) (hL : ∀ x ∈ L, x ∈ begsL (spotsL a)) : ∀ (l : List Spot) (i : Nat), Parse a i l → (∀ s ∈ l, s ∈ spotsL a) → i ≤ a.length → (cnt m i (a.length - i) : Int) = pickedL L l
  | [], i, hp, _, hi => by
    have : i = a.length := hp
    subst this
    simp [cnt, pickedL]
  | s :: l, i, hp, hs, hi => by
    have hp0 := hp
    obtain ⟨h1, h2, h3, h4, h5⟩ := hp
    have hmem := hs s List.mem_cons_self
    obtain ⟨_, hpp⟩ := parse_ok h0
    have hok := (parse_mem hpp s hmem).1
    have ih := marks_count h0 hm hL l _ h5 (fun t ht => hs t (List.mem_cons_of_mem _ ht)) h4
    have hsl : s.long = (hlen (a.getD i 0) : Int) := by
      have h6 := long_pos hok
      rw [h3] at h6 ⊢
      unfold hlen
      simp only [Spot.long, spotOf] at h6 ⊢
      omega
    have hloc : s.loc = (i : Int) := by rw [h3]; rfl
    generalize hlen (a.getD i 0) = q at *
    rw [show a.length - i = q + (a.length - (i + q)) by omega, cnt_add, pickedL, Int.natCast_add, ih]
    congr 1
    unfold picked
    split
    · rename_i hc
      have hsp := spotAt_self h0 hmem hc.1
      rw [cnt_full m i q (fun j h7 h8 => (hm j).2 ⟨s.loc, hc.2, by omega, by rw [longW_of hsp]; omega⟩), hsl]
    · rename_i hc
      rw [cnt_none m i q (fun j h7 h8 h9 => by
        obtain ⟨x, hx, h10, h11⟩ := (hm j).1 h9
        obtain ⟨t, ht⟩ := begsL_iff.1 (hL x hx)
        obtain ⟨t1, t2, t3⟩ := spotAt_some ht
        rw [longW_of ht] at h11
        have := spot_same h0 hmem t1 (j := (j : Int)) (by omega) (by omega) (by omega) (by omega)
        subst this
        exact hc ⟨t2, by rw [t3]; exact hx⟩)]
      rfl
theorem picked_longs {a : List Int} (h0 : spotsE a = 0) (L : List Int) : ∀ l : List Spot, (∀ s ∈ l, s ∈ spotsL a) → pickedL L l = longsL (spotsL a) ((begsL l).filter fun x => decide (x ∈ L))
  | [], _ => rfl
  | s :: l, hs => by
    have ih := picked_longs h0 L l (fun t ht => hs t (List.mem_cons_of_mem _ ht))
    have hmem := hs s List.mem_cons_self
    unfold pickedL picked
    rw [ih]
    cases hf : s.f
    · have hsp := spotAt_self h0 hmem hf
      have e1 : begsL (s :: l) = s.loc :: begsL l := by unfold begsL; rw [List.filter_cons]; simp [hf]
      rw [e1, List.filter_cons]
      by_cases hc : s.loc ∈ L
      · rw [if_pos ⟨rfl, hc⟩, if_pos (by simpa using hc)]
        simp only [longsL]
        rw [longW_of hsp]
      · rw [if_neg (fun h => hc h.2), if_neg (by simpa using hc)]
        omega
    · have e1 : begsL (s :: l) = begsL l := by unfold begsL; rw [List.filter_cons]; simp [hf]
      rw [e1, if_neg (by simp)]
      omega
theorem begs_sorted {a : List Int} (h0 : spotsE a = 0) : (begsL (spotsL a)).Pairwise (fun x y => x < y) := by
  unfold begsL
  rw [List.pairwise_map]
  exact (spots_rise h0).sublist List.filter_sublist
theorem marks_words {a : List Int} (h0 : spotsE a = 0) {f L M m : List Int} (hL : Reached a (spotsL a) f L) (hM : ∀ x, x ∈ M ↔ x ∈ L) (hm : MarksOf (spotsL a) M m) : (cnt m 0 a.length : Int) = longsL (spotsL a) L := by
  obtain ⟨hlen, hp⟩ := parse_ok h0
  have h1 := marks_count h0 (hm.same hM) hL.begs (spotsL a) 0 hp (fun s hs => hs) (Nat.zero_le _)
  rw [Nat.sub_zero] at h1
  rw [h1, picked_longs h0 L (spotsL a) (fun s hs => hs)]
  congr 1
  have hs := begs_sorted h0
  refine sorted_unique ((hs.imp (fun h => Int.le_of_lt h)).sublist List.filter_sublist) ((hs.imp (fun h => Int.ne_of_lt h)).sublist List.filter_sublist) hL.sorted hL.once (fun x => ?_)
  rw [List.mem_filter]
  constructor
  · rintro ⟨-, h⟩; simpa using h
  · intro h; exact ⟨hL.begs x h, by simpa using h⟩
/-- Marks are the same if each bit is. -/
theorem mk_ext {m m' : List Int} (hm : U64s m) (hm' : U64s m') (hl : m.length = m'.length) (h : ∀ j, mk m j = mk m' j) : m = m' := by
  refine List.ext_getElem hl (fun i h1 h2 => ?_)
  have q1 := hm _ (List.getElem_mem h1)
  have q2 := hm' _ (List.getElem_mem h2)
  simp [Lit.wf, IntKind.min, IntKind.max, IntKind.signed, IntKind.bits] at q1 q2
  have h3 : (m[i]).toNat = (m'[i]).toNat := by
    apply Nat.eq_of_testBit_eq
    intro t
    by_cases ht : t < 64
    · have h4 := h (i * 64 + t)
      unfold mk at h4
      rw [show (i * 64 + t) / 64 = i by omega, show (i * 64 + t) % 64 = t by omega] at h4
      rw [List.getD_eq_getElem?_getD, List.getD_eq_getElem?_getD, List.getElem?_eq_getElem h1, List.getElem?_eq_getElem h2] at h4
      exact h4
    · have hp : 2 ^ 64 ≤ 2 ^ t := Nat.pow_le_pow_right (by decide) (by omega)
      rw [Nat.testBit_lt_two_pow (show (m[i]).toNat < 2 ^ t by omega), Nat.testBit_lt_two_pow (show (m'[i]).toNat < 2 ^ t by omega)]
  omega
theorem MarksOf.unique {S : List Spot} {M M' m m' : List Int} (h : MarksOf S M m) (h' : MarksOf S M' m') (hM : ∀ x, x ∈ M ↔ x ∈ M') (hm : U64s m) (hm' : U64s m') (hl : m.length = m'.length) : m = m' := by
  refine mk_ext hm hm' hl (fun j => ?_)
  have h1 := (h.same hM) j
  have h2 := h' j
  cases e1 : mk m j <;> cases e2 : mk m' j
  · rfl
  · rw [e1] at h1; rw [e2] at h2; exact (h1.2 (h2.1 rfl))
  · rw [e1] at h1; rw [e2] at h2; exact (h2.2 (h1.1 rfl)).symm
  · rfl
/-- What is reached is there, whoever asks. -/
theorem reached_ex {a f : List Int} (hE : checkE a = 0) (hf : ∀ x ∈ f, x ∈ begsL (spotsL a)) : ∃ L, Reached a (spotsL a) f L := by
  have h0 := (checkE_ok.1 hE).1
  let p : Int → Prop := fun x => ∀ X : Int → Prop, (∀ x ∈ f, X x) → (∀ x, X x → ∀ y ∈ linksAt a (spotsL a) x, X y) → X x
  have hd : ∀ x, Decidable (p x) := fun x => Classical.propDecidable _
  have hs := begs_sorted h0
  refine ⟨(begsL (spotsL a)).filter (fun x => decide (p x)), fun x hx => (List.mem_filter.1 hx).1, fun x hx => ?_, fun x hx y hy => ?_, fun X h1 h2 x hx => ?_, ?_, ?_⟩
  · exact List.mem_filter.2 ⟨hf x hx, decide_eq_true (fun X h1 _ => h1 x hx)⟩
  · have h3 := of_decide_eq_true (List.mem_filter.1 hx).2
    exact List.mem_filter.2 ⟨linksAt_begs hE x y hy, decide_eq_true (fun X h1 h2 => h2 x (h3 X h1 h2) y hy)⟩
  · exact of_decide_eq_true (List.mem_filter.1 hx).2 X h1 h2
  · exact (hs.imp (fun h => Int.le_of_lt h)).sublist List.filter_sublist
  · exact (hs.imp (fun h => Int.ne_of_lt h)).sublist List.filter_sublist
end Go.Proofs.YtbmkbnalembbjaaDoor
