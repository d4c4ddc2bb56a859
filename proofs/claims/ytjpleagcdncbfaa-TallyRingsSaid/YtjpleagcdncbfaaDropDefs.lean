/-
  Plain law: what goes when one reference is dropped. No program stands here.
-/
import Derived.Test.YtjpleagcdncbfaaTallyDefs
namespace Go.Proofs.Ytjpleagcdncbfaa
open Go.RowKit

/-- How often the objects of a list name x, those that are gone left out. -/
def cntL (a : List Int) (S : List Spot) (x : Int) (O : List Int) : List Int → Nat
  | [] => 0
  | y :: t => (if y ∈ O then 0 else (linksAt a S y).count x) + cntL a S x O t
def cntD (a : List Int) (S : List Spot) (left O : List Int) (x : Int) : Nat := left.count x + cntL a S x O (begsL S)

theorem cntL_skip {a : List Int} {S : List Spot} {x y : Int} {O : List Int} : ∀ {l : List Int}, y ∉ l → cntL a S x (O ++ [y]) l = cntL a S x O l
  | [], _ => rfl
  | z :: t, h => by
    simp only [List.mem_cons, not_or] at h
    simp only [cntL]
    rw [cntL_skip h.2]
    have : (z ∈ O ++ [y]) ↔ z ∈ O := by
      rw [List.mem_append]
      exact ⟨fun q => q.elim id (fun q => absurd (List.mem_singleton.1 q).symm h.1), .inl⟩
    by_cases hz : z ∈ O
    · rw [if_pos hz, if_pos (this.2 hz)]
    · rw [if_neg hz, if_neg (fun h => hz (this.1 h))]
theorem cntL_add {a : List Int} {S : List Spot} {x y : Int} {O : List Int} (hy : y ∉ O) : ∀ {l : List Int}, l.Nodup → y ∈ l → cntL a S x (O ++ [y]) l + (linksAt a S y).count x = cntL a S x O l
  | [], _, h => by cases h
  | z :: t, hn, h => by
    obtain ⟨h1, h2⟩ := List.nodup_cons.1 hn
    simp only [cntL]
    by_cases hz : z = y
    · subst hz
      rw [cntL_skip h1, if_pos (by simp), if_neg hy]
      omega
    · have h3 : y ∈ t := by
        rcases List.mem_cons.1 h with h | h
        · exact absurd h.symm hz
        · exact h
      have ih := cntL_add (a := a) (S := S) (x := x) hy h2 h3
      have : (z ∈ O ++ [y]) ↔ z ∈ O := by simp [hz]
      by_cases hz : z ∈ O
      · rw [if_pos hz, if_pos (this.2 hz)]; omega
      · rw [if_neg hz, if_neg (fun h => hz (this.1 h))]; omega
theorem cntL_zero {a : List Int} {S : List Spot} {x : Int} {O : List Int} : ∀ {l : List Int}, cntL a S x O l = 0 ↔ ∀ y ∈ l, y ∉ O → x ∉ linksAt a S y
  | [] => by simp [cntL]
  | z :: t => by
    have ih := cntL_zero (a := a) (S := S) (x := x) (O := O) (l := t)
    simp only [cntL, List.mem_cons, forall_eq_or_imp, Nat.add_eq_zero_iff, ih]
    refine and_congr ?_ Iff.rfl
    by_cases hz : z ∈ O
    · simp [hz]
    · simp [hz, List.count_eq_zero]
theorem cntD_zero {a : List Int} {S : List Spot} {left O : List Int} {x : Int} : cntD a S left O x = 0 ↔ x ∉ left ∧ ∀ y ∈ begsL S, y ∉ O → x ∉ linksAt a S y := by
  unfold cntD
  rw [Nat.add_eq_zero_iff, List.count_eq_zero, cntL_zero]
theorem cntD_add {a : List Int} {S : List Spot} {left O : List Int} {x y : Int} (hn : (begsL S).Nodup) (hy : y ∈ begsL S) (hO : y ∉ O) : cntD a S left (O ++ [y]) x + (linksAt a S y).count x = cntD a S left O x := by
  unfold cntD
  have := cntL_add (a := a) (S := S) (x := x) hO hn hy
  omega
theorem allLinks_count {a : List Int} (h : spotsE a = 0) (x : Int) : ∀ (l : List Spot), (∀ s ∈ l, s ∈ spotsL a) → (allLinks a l).count x = cntL a (spotsL a) x [] (begsL l)
  | [], _ => rfl
  | s :: t, hl => by
    have ih := allLinks_count h x t (fun s hs => hl s (List.mem_cons_of_mem _ hs))
    simp only [allLinks, List.count_append, ih]
    cases hf : s.f
    · have e : begsL (s :: t) = s.loc :: begsL t := by unfold begsL; simp [hf]
      rw [e]
      simp only [cntL]
      have : linksAt a (spotsL a) s.loc = linksL a s := by unfold linksAt; rw [spotAt_self h (hl s List.mem_cons_self) hf]
      rw [this, if_neg (by decide), if_neg (by simp)]
    · have e : begsL (s :: t) = begsL t := by unfold begsL; simp [hf]
      rw [e, if_pos rfl]
      simp
theorem count_left (f : List Int) (k : Nat) (y : Int) (hk : f[k]? = some y) (x : Int) : f.count x = (f.take k ++ f.drop (k + 1)).count x + (if x = y then 1 else 0) := by
  obtain ⟨h1, rfl⟩ := List.getElem?_eq_some_iff.1 hk
  have h2 : f = f.take k ++ f[k] :: f.drop (k + 1) := by
    rw [← List.drop_eq_getElem_cons h1, List.take_append_drop]
  have h3 : f.count x = (f.take k ++ f[k] :: f.drop (k + 1)).count x := by rw [← h2]
  rw [h3]
  simp only [List.count_append, List.count_cons]
  by_cases h : x = f[k]
  · rw [if_pos h, if_pos (by simp [h])]; omega
  · rw [if_neg h, if_neg (by simpa using fun e => h e.symm)]; omega

/-- What is gone at the end. -/
structure Dropped (a : List Int) (S : List Spot) (left L : List Int) : Prop where
  begs : ∀ x ∈ L, x ∈ begsL S
  law : ∀ x ∈ begsL S, x ∈ L ↔ (x ∉ left ∧ ∀ y ∈ begsL S, y ∉ L → x ∉ linksAt a S y)

/-- On the way. -/
structure Falling (a : List Int) (S : List Spot) (left O : List Int) : Prop where
  begs : ∀ x ∈ O, x ∈ begsL S
  once : O.Nodup
  zero : ∀ x ∈ O, cntD a S left O x = 0
theorem Falling.nil (a : List Int) (S : List Spot) (left : List Int) : Falling a S left [] := ⟨by simp, by simp, by simp⟩
theorem Falling.add {a : List Int} {S : List Spot} {left O : List Int} {y : Int} (h : Falling a S left O) (hn : (begsL S).Nodup) (hy : y ∈ begsL S) (hO : y ∉ O) (hz : cntD a S left O y = 0) : Falling a S left (O ++ [y]) := by
  have hd := fun x => cntD_add (a := a) (left := left) (x := x) hn hy hO
  refine ⟨fun x hx => ?_, ?_, fun x hx => ?_⟩
  · rcases List.mem_append.1 hx with hx | hx
    · exact h.begs x hx
    · simp only [List.mem_cons, List.not_mem_nil, or_false] at hx
      subst hx; exact hy
  · rw [List.nodup_append]
    exact ⟨h.once, by simp, fun x hx z hz e => by simp only [List.mem_cons, List.not_mem_nil, or_false] at hz; subst hz; subst e; exact hO hx⟩
  · have := hd x
    rcases List.mem_append.1 hx with hx | hx
    · have := h.zero x hx
      omega
    · simp only [List.mem_cons, List.not_mem_nil, or_false] at hx
      subst hx
      omega
theorem Falling.done {a : List Int} {S : List Spot} {left O : List Int} (h : Falling a S left O) (hall : ∀ x ∈ begsL S, x ∈ O ∨ 0 < cntD a S left O x) {L : List Int} (hL : ∀ x, x ∈ L ↔ x ∈ O) : Dropped a S left L := by
  refine ⟨fun x hx => h.begs x ((hL x).1 hx), fun x hx => ?_⟩
  rw [hL]
  have h1 : (∀ y ∈ begsL S, y ∉ L → x ∉ linksAt a S y) ↔ ∀ y ∈ begsL S, y ∉ O → x ∉ linksAt a S y := by
    constructor
    · intro h y hy hO; exact h y hy (fun h => hO ((hL y).1 h))
    · intro h y hy hO; exact h y hy (fun h => hO ((hL y).2 h))
  rw [h1, ← cntD_zero (a := a) (S := S) (left := left) (O := O) (x := x)]
  constructor
  · exact h.zero x
  · intro hz
    rcases hall x hx with h | h
    · exact h
    · omega
/-- Nothing that is reached goes. -/
theorem Dropped.live {a : List Int} {S : List Spot} {left L M : List Int} (h : Dropped a S left L) (hM : Reached a S left M) (hb : ∀ y, ∀ x ∈ linksAt a S y, x ∈ begsL S) : ∀ x ∈ M, x ∉ L := by
  have h1 := hM.least (fun x => x ∈ begsL S ∧ x ∉ L) (fun x hx => ⟨hM.begs x (hM.roots x hx), fun hL => ((h.law x (h.begs x hL)).1 hL).1 hx⟩)
    (fun x hx y hy => ⟨hb x y hy, fun hL => ((h.law y (h.begs y hL)).1 hL).2 x hx.1 hx.2 hy⟩)
  exact fun x hx => (h1 x hx).2
end Go.Proofs.Ytjpleagcdncbfaa
