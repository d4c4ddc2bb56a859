/-
  Plain law: the objects of an arena by the words at which they begin, what they refer to, what is reached. No program stands here.
-/
import Derived.Test.YtbmkbnalembbjaaArena2
namespace Go.Proofs.Ytbmkbnalembbjaa
open Go.RowKit

def isBeg (x : Int) (s : Spot) : Bool := !s.f && (s.loc == x)
/-- Where the objects begin that are not free. -/
def begsL (S : List Spot) : List Int := (S.filter fun s => !s.f).map (·.loc)
def spotAt (S : List Spot) (x : Int) : Option Spot := S.find? (isBeg x)
def headC (s : Spot) : Value := .agg #[.int .i64 s.r, .int .i64 s.b, .int .i64 s.t, .bool s.f]
def headF (S : List Spot) : Int → Option Value := fun x => (spotAt S x).map headC
/-- What an object refers to. -/
def linksL (a : List Int) (s : Spot) : List Int := ((refsOf a s).filter fun v => v != 0).map fun v => v - 1
def linksAt (a : List Int) (S : List Spot) (x : Int) : List Int := match spotAt S x with | some s => linksL a s | none => []

theorem spotAt_some {S : List Spot} {x : Int} {s : Spot} (h : spotAt S x = some s) : s ∈ S ∧ s.f = false ∧ s.loc = x := by
  have h1 := List.find?_some h
  have h2 := List.mem_of_find?_eq_some h
  simp only [isBeg, Bool.and_eq_true, Bool.not_eq_true', beq_iff_eq] at h1
  exact ⟨h2, h1.1, h1.2⟩
theorem begsL_iff {S : List Spot} {x : Int} : x ∈ begsL S ↔ ∃ s, spotAt S x = some s := by
  unfold begsL spotAt
  rw [List.mem_map]
  constructor
  · rintro ⟨s, hs, rfl⟩
    obtain ⟨h1, h2⟩ := List.mem_filter.1 hs
    cases h : S.find? (isBeg s.loc) with
    | some s' => exact ⟨s', rfl⟩
    | none =>
      have := List.find?_eq_none.1 h s h1
      simp only [isBeg, h2, beq_self_eq_true, Bool.and_self, not_true] at this
  · rintro ⟨s, hs⟩
    obtain ⟨h1, h2, h3⟩ := spotAt_some hs
    exact ⟨s, List.mem_filter.2 ⟨h1, by simp [h2]⟩, h3⟩
theorem headF_isSome {S : List Spot} {x : Int} : (headF S x).isSome = true ↔ x ∈ begsL S := by
  rw [begsL_iff]
  unfold headF
  cases spotAt S x <;> simp

theorem begsL_snoc (l : List Spot) (s : Spot) : begsL (l ++ [s]) = if s.f = true then begsL l else begsL l ++ [s.loc] := by
  unfold begsL
  rw [List.filter_append, List.map_append]
  cases h : s.f <;> simp [h]
theorem headF_nil : headF [] = fun _ => none := rfl
theorem headF_free {l : List Spot} {s : Spot} (h : s.f = true) : headF (l ++ [s]) = headF l := by
  funext x
  unfold headF spotAt
  rw [List.find?_append]
  have : List.find? (isBeg x) [s] = none := by simp [isBeg, h]
  rw [this]
  simp
theorem headF_snoc {l : List Spot} {s : Spot} (h : s.f = false) (hl : ∀ x ∈ l, x.loc < s.loc) : headF (l ++ [s]) = upd (headF l) s.loc (headC s) := by
  funext x
  unfold headF spotAt upd
  rw [List.find?_append]
  by_cases hx : x = s.loc
  · subst hx
    have h1 : List.find? (isBeg s.loc) l = none := by
      rw [List.find?_eq_none]
      intro y hy
      have := hl y hy
      simp [isBeg]
      intro _
      omega
    rw [h1, if_pos rfl]
    simp [isBeg, h]
  · rw [if_neg hx]
    have h1 : List.find? (isBeg x) [s] = none := by simp [isBeg]; intro _; omega
    rw [h1]
    simp

theorem begsL_bounds {a : List Int} (h : spotsE a = 0) : ∀ x ∈ begsL (spotsL a), 0 ≤ x ∧ x < 256 := by
  intro x hx
  obtain ⟨s, hs⟩ := begsL_iff.1 hx
  obtain ⟨h1, -, rfl⟩ := spotAt_some hs
  obtain ⟨hlen, hp⟩ := parse_ok h
  have := (parse_mem hp s h1).1
  have e1 := this.loc0
  have e2 := this.fits
  have e3 := this.r0
  have e4 := this.b0
  unfold Spot.long at e2
  omega

theorem placeF_some {l : List Spot} {v : Int} (h : (placeF l v).isSome = true) : v = 0 ∨ v - 1 ∈ begsL l := by
  unfold placeF at h
  by_cases h0 : v = 0
  · exact .inl h0
  · rw [if_neg h0] at h
    right
    cases hf : l.findIdx? (isPlace v) with
    | none => rw [hf] at h; cases h
    | some i =>
      obtain ⟨h1, h2, -⟩ := List.findIdx?_eq_some_iff_getElem.1 hf
      unfold begsL
      refine List.mem_map.2 ⟨l[i], List.mem_filter.2 ⟨List.getElem_mem h1, ?_⟩, ?_⟩
      · simp only [isPlace, Bool.and_eq_true] at h2; exact h2.1
      · simp only [isPlace, Bool.and_eq_true, beq_iff_eq] at h2; omega
theorem links_begs {a : List Int} (h : checkE a = 0) {s : Spot} (hs : s ∈ spotsL a) : ∀ y ∈ linksL a s, y ∈ begsL (spotsL a) := by
  intro y hy
  obtain ⟨v, hv, rfl⟩ := List.mem_map.1 hy
  obtain ⟨h1, h2⟩ := List.mem_filter.1 hv
  have h3 := List.all_eq_true.1 (List.all_eq_true.1 (checkE_ok.1 h).2 s hs) v h1
  rcases placeF_some h3 with h4 | h4
  · simp [h4] at h2
  · exact h4
theorem linksAt_begs {a : List Int} (h : checkE a = 0) (x : Int) : ∀ y ∈ linksAt a (spotsL a) x, y ∈ begsL (spotsL a) := by
  intro y hy
  unfold linksAt at hy
  split at hy
  · rename_i s hs
    exact links_begs h (spotAt_some hs).1 y hy
  · cases hy

/-- What is reached: all that one begins with, closed, no more, in order, each once. -/
structure Reached (a : List Int) (S : List Spot) (from_ L : List Int) : Prop where
  begs : ∀ x ∈ L, x ∈ begsL S
  roots : ∀ x ∈ from_, x ∈ L
  closed : ∀ x ∈ L, ∀ y ∈ linksAt a S x, y ∈ L
  least : ∀ X : Int → Prop, (∀ x ∈ from_, X x) → (∀ x, X x → ∀ y ∈ linksAt a S x, X y) → ∀ x ∈ L, X x
  sorted : L.Pairwise (fun x y => x ≤ y)
  once : L.Nodup
theorem sorted_unique : ∀ {L L' : List Int}, L.Pairwise (fun x y => x ≤ y) → L.Nodup → L'.Pairwise (fun x y => x ≤ y) → L'.Nodup → (∀ x, x ∈ L ↔ x ∈ L') → L = L'
  | [], [], _, _, _, _, _ => rfl
  | [], y :: t, _, _, _, _, h => by have := (h y).2 List.mem_cons_self; cases this
  | x :: t, [], _, _, _, _, h => by have := (h x).1 List.mem_cons_self; cases this
  | x :: t, y :: t', h1, h2, h3, h4, h => by
    obtain ⟨a1, a2⟩ := List.pairwise_cons.1 h1
    obtain ⟨b1, b2⟩ := List.nodup_cons.1 h2
    obtain ⟨c1, c2⟩ := List.pairwise_cons.1 h3
    obtain ⟨d1, d2⟩ := List.nodup_cons.1 h4
    have hxy : x = y := by
      have e1 : x ≤ y := by
        rcases List.mem_cons.1 ((h y).2 List.mem_cons_self) with e | e
        · omega
        · exact a1 y e
      have e2 : y ≤ x := by
        rcases List.mem_cons.1 ((h x).1 List.mem_cons_self) with e | e
        · omega
        · exact c1 x e
      omega
    subst hxy
    rw [sorted_unique a2 b2 c2 d2 (fun z => by
      constructor
      · intro hz
        rcases List.mem_cons.1 ((h z).1 (List.mem_cons_of_mem _ hz)) with e | e
        · subst e; exact absurd hz b1
        · exact e
      · intro hz
        rcases List.mem_cons.1 ((h z).2 (List.mem_cons_of_mem _ hz)) with e | e
        · subst e; exact absurd hz d1
        · exact e)]
theorem Reached.unique {a : List Int} {S : List Spot} {f L L' : List Int} (h : Reached a S f L) (h' : Reached a S f L') : L = L' :=
  sorted_unique h.sorted h.once h'.sorted h'.once (fun x => ⟨fun hx => h.least (· ∈ L') h'.roots h'.closed x hx, fun hx => h'.least (· ∈ L) h.roots h.closed x hx⟩)

theorem nodup_bound : ∀ (n : Nat) (L : List Int), L.Nodup → (∀ x ∈ L, 0 ≤ x ∧ x < n) → L.length ≤ n
  | 0, [], _, _ => Nat.le_refl _
  | 0, x :: _, _, h => by have := h x List.mem_cons_self; omega
  | n + 1, L, hn, h => by
    have h1 := nodup_bound n (L.erase (n : Int)) (hn.erase _) (fun x hx => by
      have h2 := h x (List.mem_of_mem_erase hx)
      have h3 : x ≠ (n : Int) := fun e => by subst e; exact absurd hx (hn.not_mem_erase)
      omega)
    have h4 := List.length_erase (a := (n : Int)) (l := L)
    split at h4 <;> omega

/-- How the search goes on: what is found, how far it has looked. -/
structure Search (a : List Int) (S : List Spot) (from_ out : List Int) (i : Nat) : Prop where
  begs : ∀ x ∈ out, x ∈ begsL S
  once : out.Nodup
  least : ∀ X : Int → Prop, (∀ x ∈ from_, X x) → (∀ x, X x → ∀ y ∈ linksAt a S x, X y) → ∀ x ∈ out, X x
  seen : ∀ k x, k < i → out[k]? = some x → ∀ y ∈ linksAt a S x, y ∈ out
def addL (out : List Int) (x : Int) : List Int := if x ∈ out then out else out ++ [x]
theorem addL_sub (out : List Int) (x : Int) : (∀ y ∈ out, y ∈ addL out x) ∧ x ∈ addL out x := by
  unfold addL
  split
  · rename_i h; exact ⟨fun y hy => hy, h⟩
  · exact ⟨fun y hy => List.mem_append_left _ hy, by simp⟩
theorem addL_mem {out : List Int} {x y : Int} (h : y ∈ addL out x) : y ∈ out ∨ y = x := by
  unfold addL at h
  split at h
  · exact .inl h
  · simpa using h
theorem addL_get {out : List Int} {x y : Int} {k : Nat} (hk : k < out.length) (h : (addL out x)[k]? = some y) : out[k]? = some y := by
  unfold addL at h
  split at h
  · exact h
  · rwa [List.getElem?_append_left hk] at h
theorem addL_nodup {out : List Int} {x : Int} (h : out.Nodup) : (addL out x).Nodup := by
  unfold addL
  split
  · exact h
  · rename_i hx
    exact List.nodup_append.2 ⟨h, by simp, by rintro a ha b hb rfl; simp at hb; subst hb; exact hx ha⟩
theorem addL_len (out : List Int) (x : Int) : out.length ≤ (addL out x).length := by unfold addL; split <;> simp
theorem Search.nil (a : List Int) (S : List Spot) (f : List Int) : Search a S f [] 0 := ⟨by simp, by simp, by simp, by simp⟩
theorem Search.add {a : List Int} {S : List Spot} {f out : List Int} {i : Nat} (h : Search a S f out i) (hi : i ≤ out.length) {x : Int} (hx : x ∈ begsL S)
    (hl : ∀ X : Int → Prop, (∀ x ∈ f, X x) → (∀ x, X x → ∀ y ∈ linksAt a S x, X y) → X x) : Search a S f (addL out x) i := by
  obtain ⟨s1, s2⟩ := addL_sub out x
  refine ⟨fun y hy => ?_, addL_nodup h.once, fun X hX hc y hy => ?_, fun k y hk hy z hz => s1 z (h.seen k y hk (addL_get (by omega) hy) z hz)⟩
  · rcases addL_mem hy with h1 | rfl
    · exact h.begs y h1
    · exact hx
  · rcases addL_mem hy with h1 | rfl
    · exact h.least X hX hc y h1
    · exact hl X hX hc
theorem Search.len {a : List Int} {f out : List Int} {i : Nat} (h : Search a (spotsL a) f out i) (ha : spotsE a = 0) : out.length ≤ 256 :=
  nodup_bound 256 out h.once (fun x hx => begsL_bounds ha x (h.begs x hx))
end Go.Proofs.Ytbmkbnalembbjaa
