/-
  Plain law: how often each object is named. No program stands here.
-/
import Derived.Test.YtjpleagcdncbfaaTintDefs
namespace Go.Proofs.Ytjpleagcdncbfaa
open Go.RowKit

/-- What many counts, when it has met the words of l. -/
def manyF (l : List Int) : Int → Option Value := fun x => if x ∈ l then some (.int .i64 (l.count x : Int)) else none
theorem manyF_get (l : List Int) (x : Int) : (manyF l x).getD (.int .i64 0) = .int .i64 (l.count x : Int) := by
  unfold manyF
  split
  · rfl
  · rename_i h
    rw [List.count_eq_zero_of_not_mem h]
    rfl
theorem manyF_snoc (l : List Int) (x : Int) : manyF (l ++ [x]) = upd (manyF l) x (.int .i64 ((l.count x + 1 : Nat) : Int)) := by
  funext y
  unfold manyF upd
  by_cases h : y = x
  · subst h
    rw [if_pos (by simp), if_pos rfl, List.count_append]
    simp
  · rw [if_neg h]
    have hc : (l ++ [x]).count y = l.count y := by
      rw [List.count_append, List.count_eq_zero_of_not_mem (l := [x]) (by simp [h])]
      omega
    rw [hc]
    by_cases hm : y ∈ l
    · rw [if_pos (by simp [hm])]; simp [hm]
    · rw [if_neg (by simp [hm, h])]; simp [hm]

/-- All that the objects of a list refer to, one after the other. -/
def allLinks (a : List Int) : List Spot → List Int
  | [] => []
  | s :: t => (if s.f = true then [] else linksL a s) ++ allLinks a t
theorem allLinks_snoc (a : List Int) (l : List Spot) (s : Spot) : allLinks a (l ++ [s]) = allLinks a l ++ (if s.f = true then [] else linksL a s) := by
  induction l with
  | nil => simp [allLinks]
  | cons x l ih => simp only [List.cons_append, allLinks, ih, List.append_assoc]
theorem allLinks_mem {a : List Int} : ∀ {l : List Spot} {y : Int}, y ∈ allLinks a l → ∃ s ∈ l, y ∈ linksL a s
  | [], _, h => by simp [allLinks] at h
  | s :: t, y, h => by
    simp only [allLinks, List.mem_append] at h
    rcases h with h | h
    · split at h
      · cases h
      · exact ⟨s, List.mem_cons_self, h⟩
    · obtain ⟨s', h1, h2⟩ := allLinks_mem h
      exact ⟨s', List.mem_cons_of_mem _ h1, h2⟩

def sumC (l : List Int) : List Int → Int
  | [] => 0
  | x :: t => (l.count x : Int) + sumC l t
theorem sumC_cons_not {l : List Int} {y : Int} : ∀ {xs : List Int}, y ∉ xs → sumC (y :: l) xs = sumC l xs
  | [], _ => rfl
  | x :: t, h => by
    simp only [List.mem_cons, not_or] at h
    simp only [sumC]
    rw [sumC_cons_not h.2, List.count_cons, if_neg (by simpa using h.1)]
    rfl
theorem sumC_cons {l : List Int} {y : Int} : ∀ {xs : List Int}, xs.Nodup → y ∈ xs → sumC (y :: l) xs = sumC l xs + 1
  | [], _, h => by cases h
  | x :: t, hn, h => by
    obtain ⟨h1, h2⟩ := List.nodup_cons.1 hn
    simp only [sumC]
    by_cases hx : y = x
    · subst hx
      rw [sumC_cons_not h1, List.count_cons, if_pos (by simp)]
      omega
    · have h3 : y ∈ t := by
        rcases List.mem_cons.1 h with h | h
        · exact absurd h hx
        · exact h
      rw [sumC_cons h2 h3, List.count_cons, if_neg (by simpa using hx)]
      omega
/-- Each is counted where it lies, once. -/
theorem sumC_nil : ∀ xs : List Int, sumC [] xs = 0
  | [] => rfl
  | x :: t => by simp only [sumC, sumC_nil t]; simp
theorem sumC_all {xs : List Int} (hn : xs.Nodup) : ∀ {l : List Int}, (∀ y ∈ l, y ∈ xs) → sumC l xs = (l.length : Int)
  | [], _ => by rw [sumC_nil]; rfl
  | y :: l, h => by
    rw [sumC_cons hn (h y List.mem_cons_self), sumC_all hn (fun z hz => h z (List.mem_cons_of_mem _ hz))]
    simp
theorem sumC_snoc (l : List Int) (xs : List Int) (x : Int) : sumC l (xs ++ [x]) = sumC l xs + (l.count x : Int) := by
  induction xs with
  | nil => simp [sumC]
  | cons y t ih => simp only [List.cons_append, sumC, ih]; omega
theorem sumC_nonneg (l : List Int) : ∀ xs, 0 ≤ sumC l xs
  | [] => by simp [sumC]
  | x :: t => by have := sumC_nonneg l t; simp only [sumC]; omega

theorem begsL_nodup {a : List Int} (h : spotsE a = 0) : (begsL (spotsL a)).Nodup := by
  have h1 := spots_rise h
  unfold begsL
  rw [List.Nodup, List.pairwise_map]
  exact (h1.filter _).imp (fun hst => by omega)
theorem spotAt_self {a : List Int} (h : spotsE a = 0) {s : Spot} (hs : s ∈ spotsL a) (hf : s.f = false) : spotAt (spotsL a) s.loc = some s := by
  obtain ⟨s', h1⟩ := begsL_iff.1 (show s.loc ∈ begsL (spotsL a) from List.mem_map.2 ⟨s, List.mem_filter.2 ⟨hs, by simp [hf]⟩, rfl⟩)
  obtain ⟨h2, h3, h4⟩ := spotAt_some h1
  rw [h1]
  congr 1
  obtain ⟨i, hi⟩ := List.mem_iff_getElem?.1 hs
  obtain ⟨j, hj⟩ := List.mem_iff_getElem?.1 h2
  obtain ⟨q1, rfl⟩ := List.getElem?_eq_some_iff.1 hi
  obtain ⟨q2, rfl⟩ := List.getElem?_eq_some_iff.1 hj
  have hr := List.pairwise_iff_getElem.1 (spots_rise h)
  rcases Nat.lt_trichotomy i j with h5 | h5 | h5
  · have := hr i j q1 q2 h5; omega
  · subst h5; rfl
  · have := hr j i q2 q1 h5; omega
/-- All links: as many as the objects have. -/
def linkSum (a : List Int) (S : List Spot) : List Int → Nat
  | [] => 0
  | x :: t => (linksAt a S x).length + linkSum a S t
theorem linkSum_snoc (a : List Int) (S : List Spot) (xs : List Int) (x : Int) : linkSum a S (xs ++ [x]) = linkSum a S xs + (linksAt a S x).length := by
  induction xs with
  | nil => simp [linkSum]
  | cons y t ih => simp only [List.cons_append, linkSum, ih]; omega
theorem allLinks_length {a : List Int} (h : spotsE a = 0) : ∀ (l : List Spot), (∀ s ∈ l, s ∈ spotsL a) → (allLinks a l).length = linkSum a (spotsL a) (begsL l)
  | [], _ => rfl
  | s :: t, hl => by
    have ih := allLinks_length h t (fun s hs => hl s (List.mem_cons_of_mem _ hs))
    simp only [allLinks, List.length_append, ih]
    cases hf : s.f
    · have e : begsL (s :: t) = s.loc :: begsL t := by unfold begsL; simp [hf]
      rw [e]
      simp only [linkSum]
      have : linksAt a (spotsL a) s.loc = linksL a s := by unfold linksAt; rw [spotAt_self h (hl s List.mem_cons_self) hf]
      rw [this, if_neg (by decide)]
    · have e : begsL (s :: t) = begsL t := by unfold begsL; simp [hf]
      rw [e, if_pos rfl]
      simp
end Go.Proofs.Ytjpleagcdncbfaa
