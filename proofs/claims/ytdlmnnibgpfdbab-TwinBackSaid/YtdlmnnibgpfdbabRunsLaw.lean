/-
  Plain law: runs of marks. No program stands here.
-/
import Derived.Test.YtdlmnnibgpfdbabMarksLaw
import Derived.Test.YtdlmnnibgpfdbabGapDefs
namespace Go.Proofs.Ytdlmnnibgpfdbab
open Go.RowKit

/-- l tells the marks from s up to t (of N): runs, as long as they can be. -/
def Part (m : List Int) (N : Nat) : Nat → List Rn → Nat → Prop
  | s, [], t => s ≤ t ∧ ∀ j, s ≤ j → j < t → mk m j = false
  | s, r :: l, t => ∃ a e : Nat, r = ⟨a, ((e - a : Nat) : Int)⟩ ∧ s ≤ a ∧ a < e ∧ e ≤ N ∧ (∀ j, s ≤ j → j < a → mk m j = false) ∧ (∀ j, a ≤ j → j < e → mk m j = true) ∧ (e < N → mk m e = false) ∧ Part m N e l t

theorem Part.ext {m : List Int} {N : Nat} : ∀ {l : List Rn} {s t u : Nat}, Part m N s l t → t ≤ u → (∀ j, t ≤ j → j < u → mk m j = false) → Part m N s l u := by
  intro l
  induction l with
  | nil =>
    rintro s t u ⟨h1, h2⟩ h3 h4
    refine ⟨by omega, fun j a1 a2 => ?_⟩
    rcases Nat.lt_or_ge j t with h | h
    · exact h2 j a1 h
    · exact h4 j h a2
  | cons r l ih =>
    rintro s t u ⟨a, e, b1, b2, b3, b4, b5, b6, b7, b8⟩ h3 h4
    exact ⟨a, e, b1, b2, b3, b4, b5, b6, b7, ih b8 h3 h4⟩
theorem Part.snoc {m : List Int} {N : Nat} : ∀ {l : List Rn} {s t e : Nat}, Part m N s l t → t < e → e ≤ N → (∀ j, t ≤ j → j < e → mk m j = true) → (e < N → mk m e = false) → Part m N s (l ++ [⟨t, ((e - t : Nat) : Int)⟩]) e := by
  intro l
  induction l with
  | nil =>
    rintro s t e ⟨h1, h2⟩ h3 h4 h5 h6
    exact ⟨t, e, rfl, h1, h3, h4, h2, h5, h6, Nat.le_refl _, fun j a1 a2 => by omega⟩
  | cons r l ih =>
    rintro s t e ⟨a, e', b1, b2, b3, b4, b5, b6, b7, b8⟩ h3 h4 h5 h6
    exact ⟨a, e', b1, b2, b3, b4, b5, b6, b7, ih b8 h3 h4 h5 h6⟩
theorem Part.le {m : List Int} {N : Nat} : ∀ {l : List Rn} {s t : Nat}, Part m N s l t → s ≤ t ∧ s + l.length ≤ t := by
  intro l
  induction l with
  | nil => rintro s t ⟨h1, _⟩; exact ⟨h1, h1⟩
  | cons r l ih =>
    rintro s t ⟨a, e, b1, b2, b3, b4, b5, b6, b7, b8⟩
    have := ih b8
    simp only [List.length_cons]
    omega

theorem Part.get {m : List Int} {N : Nat} : ∀ {l : List Rn} {s t : Nat}, Part m N s l t → t ≤ N → ∀ (i : Nat) (r : Rn), l[i]? = some r → ∃ a e : Nat, r = ⟨a, ((e - a : Nat) : Int)⟩ ∧ s ≤ a ∧ a < e ∧ e ≤ N ∧ ∀ r', l[i + 1]? = some r' → (e : Int) < r'.loc := by
  intro l
  induction l with
  | nil => intro s t _ _ i r h; simp at h
  | cons x l ih =>
    rintro s t ⟨a, e, b1, b2, b3, b4, b5, b6, b7, b8⟩ ht i r h
    cases i with
    | zero =>
      obtain rfl : x = r := by simpa using h
      refine ⟨a, e, b1, b2, b3, b4, fun r' h' => ?_⟩
      cases l with
      | nil => simp at h'
      | cons y l =>
        obtain rfl : y = r' := by simpa using h'
        obtain ⟨a2, e2, c1, c2, c3, c4, c5, c6, c7, c8⟩ := b8
        rw [c1]
        dsimp only
        have h9 : a2 ≠ e := by
          rintro rfl
          have h1 := c6 a2 (Nat.le_refl _) c3
          rw [b7 (by omega)] at h1
          cases h1
        omega
    | succ i =>
      obtain ⟨a2, e2, c1, c2, c3, c4, c5⟩ := ih b8 ht i r (by simpa using h)
      exact ⟨a2, e2, c1, by omega, c3, c4, fun r' h' => c5 r' (by simpa using h')⟩

def lsum : List Rn → Int
  | [] => 0
  | r :: l => r.len + lsum l
theorem lsum_append (a b : List Rn) : lsum (a ++ b) = lsum a + lsum b := by
  induction a with
  | nil => simp [lsum]
  | cons x a ih => simp only [List.cons_append, lsum, ih]; omega
theorem cnt_all (m : List Int) (a : Nat) : ∀ l, (∀ j, a ≤ j → j < a + l → mk m j = true) → cnt m a l = l := by
  intro l
  induction l with
  | zero => intro _; rfl
  | succ l ih =>
    intro h
    simp only [cnt]
    rw [ih (fun j h1 h2 => h j h1 (by omega)), if_pos (h (a + l) (by omega) (by omega))]
theorem Part.sum {m : List Int} {N : Nat} : ∀ {l : List Rn} {s t : Nat}, Part m N s l t → lsum l = (cnt m s (t - s) : Int) := by
  intro l
  induction l with
  | nil =>
    rintro s t ⟨h1, h2⟩
    rw [cnt_none m s (t - s) (fun j a1 a2 => by rw [h2 j a1 (by omega)]; decide)]
    rfl
  | cons r l ih =>
    rintro s t ⟨a, e, b1, b2, b3, b4, b5, b6, b7, b8⟩
    have hle := b8.le.1
    have e1 : t - s = (a - s) + ((e - a) + (t - e)) := by omega
    rw [e1, cnt_add, show s + (a - s) = a by omega, cnt_add, show a + (e - a) = e by omega, cnt_none m s (a - s) (fun j a1 a2 => by rw [b5 j a1 (by omega)]; decide), cnt_all m a (e - a) (fun j a1 a2 => b6 j a1 (by omega))]
    simp only [lsum]
    rw [ih b8, b1]
    dsimp only
    omega
def pIn (k : Nat) (r : Rn) : Bool := decide (r.loc ≤ (k : Int)) && decide ((k : Int) - r.loc < r.len)
theorem Part.out {m : List Int} {N : Nat} {k : Nat} : ∀ {l : List Rn} {s t : Nat}, Part m N s l t → k < s → l.any (pIn k) = false := by
  intro l
  induction l with
  | nil => intro s t _ _; rfl
  | cons r l ih =>
    rintro s t ⟨a, e, b1, b2, b3, b4, b5, b6, b7, b8⟩ hk
    rw [List.any_cons, ih b8 (by omega), Bool.or_false, b1]
    unfold pIn
    dsimp only
    rw [decide_eq_false (by omega)]
    rfl
theorem Part.any {m : List Int} {N : Nat} {k : Nat} : ∀ {l : List Rn} {s t : Nat}, Part m N s l t → s ≤ k → k < t → l.any (pIn k) = mk m k := by
  intro l
  induction l with
  | nil => rintro s t ⟨h1, h2⟩ h3 h4; rw [h2 k h3 h4]; rfl
  | cons r l ih =>
    rintro s t ⟨a, e, b1, b2, b3, b4, b5, b6, b7, b8⟩ h3 h4
    rw [List.any_cons]
    by_cases h : k < e
    · rw [b8.out h, Bool.or_false, b1]
      unfold pIn
      dsimp only
      by_cases h2 : a ≤ k
      · rw [decide_eq_true (by omega), decide_eq_true (by omega), b6 k h2 h]
        rfl
      · rw [decide_eq_false (by omega), b5 k h3 (by omega)]
        rfl
    · rw [ih b8 (by omega) h4, b1]
      unfold pIn
      dsimp only
      rw [show decide ((k : Int) - a < ((e - a : Nat) : Int)) = false from decide_eq_false (by omega), Bool.and_false, Bool.false_or]
end Go.Proofs.Ytdlmnnibgpfdbab
