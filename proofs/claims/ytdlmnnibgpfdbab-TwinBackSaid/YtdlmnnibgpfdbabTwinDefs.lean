/-
  Plain law: halves: pieces, their check, gaps. No program stands here.
-/
import Derived.Test.YtdlmnnibgpfdbabGapDefs
namespace Go.Proofs.Ytdlmnnibgpfdbab
open Go.RowKit

/-- A room: where, how long, how much of it is used. -/
structure Rm where
  loc : Int
  len : Int
  used : Int
deriving DecidableEq
def roomC (r : Rm) : List Value := [.int .i64 r.loc, .int .i64 r.len, .int .i64 r.used]
def roomsC (l : List Rm) : List Value := l.flatMap roomC
theorem roomsC_length (l : List Rm) : (roomsC l).length = l.length * 3 := flat_length roomC 3 (fun _ => rfl) l
theorem roomsC_one (l : List Rm) : ∀ u ∈ roomsC l, u.oneCell' = true := by
  intro u hu
  obtain ⟨s, _, hs⟩ := List.mem_flatMap.1 hu
  simp only [roomC, List.mem_cons, List.not_mem_nil, or_false] at hs
  rcases hs with rfl | rfl | rfl <;> rfl
theorem Reads.room {w : World} {B : Nat} {A : Option Addr} {n j : Nat} {l : List Rm} (h : Reads w B 3 A n (roomsC l)) (hj : j < n) :
    ∃ ad s, A = some ad ∧ ad.block < B ∧ l[j]? = some s ∧ w.cell? (ad.add (j * 3)) = some (.int .i64 s.loc) ∧
      w.cell? ⟨(ad.add (j * 3)).block, (ad.add (j * 3)).off + 1, none⟩ = some (.int .i64 s.len) ∧
      w.cell? ⟨(ad.add (j * 3)).block, (ad.add (j * 3)).off + 2, none⟩ = some (.int .i64 s.used) := by
  obtain ⟨ad, s, e, hb, hs, c0, cs⟩ := Reads.elem (f := roomC) (k := 3) (fun _ => rfl) h (by decide) hj
  exact ⟨ad, s, e, hb, hs, c0, cs 1 (by decide) (by decide), cs 2 (by decide) (by decide)⟩

/-- The powers of two that a piece may have. -/
def isP (x : Int) : Bool := [1, 2, 4, 8, 16, 32, 64, 128, 256].contains x
theorem isP_pow {x : Int} (h : isP x = true) : ∃ k : Nat, k ≤ 8 ∧ x = ((2 ^ k : Nat) : Int) := by
  unfold isP at h
  simp only [List.contains_eq_mem, List.mem_cons, List.not_mem_nil, or_false, decide_eq_true_eq] at h
  rcases h with rfl | rfl | rfl | rfl | rfl | rfl | rfl | rfl | rfl
  · exact ⟨0, by decide, rfl⟩
  · exact ⟨1, by decide, rfl⟩
  · exact ⟨2, by decide, rfl⟩
  · exact ⟨3, by decide, rfl⟩
  · exact ⟨4, by decide, rfl⟩
  · exact ⟨5, by decide, rfl⟩
  · exact ⟨6, by decide, rfl⟩
  · exact ⟨7, by decide, rfl⟩
  · exact ⟨8, by decide, rfl⟩
theorem isP_of {k : Nat} (h : k ≤ 8) : isP ((2 ^ k : Nat) : Int) = true := by
  have : ∀ k : Fin 9, isP ((2 ^ k.val : Nat) : Int) = true := by decide
  exact this ⟨k, by omega⟩

def pieceB (r : Rm) (all : Nat) : Bool :=
  decide (1 ≤ r.len) && (decide (r.len ≤ all) && (isP r.len && (decide (0 ≤ r.loc) && (decide (r.loc ≤ all - r.len) && (decide (r.loc % r.len = 0) && (decide (r.used ≤ r.len) && decide (r.len / 2 < r.used)))))))
def roomsE (all : Nat) : List Rm → Int → Int
  | [], _ => 0
  | r :: t, e => if pieceB r all = true ∧ e ≤ r.loc then roomsE all t (r.loc + r.len) else 3
def twinE (o : Int) (l : List Rm) : Int := if 0 ≤ o ∧ o ≤ 8 then roomsE (2 ^ o.toNat) l 0 else 4

/-- What a good piece is. -/
theorem pieceB_iff {r : Rm} {o : Nat} (ho : o ≤ 8) : pieceB r (2 ^ o) = true ↔
    ∃ k a u : Nat, k ≤ o ∧ r = ⟨a, ((2 ^ k : Nat) : Int), u⟩ ∧ a + 2 ^ k ≤ 2 ^ o ∧ a % 2 ^ k = 0 ∧ u ≤ 2 ^ k ∧ 2 ^ k / 2 < u := by
  unfold pieceB
  simp only [Bool.and_eq_true, decide_eq_true_eq]
  constructor
  · rintro ⟨h1, h2, h3, h4, h5, h6, h7, h8⟩
    obtain ⟨k, hk, e⟩ := isP_pow h3
    obtain ⟨a, l, u⟩ := r
    dsimp only at *
    subst e
    have hko : 2 ^ k ≤ 2 ^ o := by exact_mod_cast h2
    have hk1 : k ≤ o := (Nat.pow_le_pow_iff_right (by decide)).1 hko
    obtain ⟨A, rfl⟩ : ∃ A : Nat, a = A := ⟨a.toNat, by omega⟩
    have hp : 0 < 2 ^ k := Nat.pos_of_ne_zero (by simp)
    have hu : 0 ≤ u := by
      have : (0 : Int) ≤ ((2 ^ k : Nat) : Int) / 2 := by omega
      omega
    obtain ⟨U, rfl⟩ : ∃ U : Nat, u = U := ⟨u.toNat, by omega⟩
    refine ⟨k, A, U, hk1, rfl, by omega, ?_, by omega, by omega⟩
    exact_mod_cast h6
  · rintro ⟨k, a, u, hk, rfl, h1, h2, h3, h4⟩
    have hp : 0 < 2 ^ k := Nat.pos_of_ne_zero (by simp)
    dsimp only
    refine ⟨by omega, by omega, isP_of (by omega), by omega, by omega, ?_, by omega, by omega⟩
    exact_mod_cast h2

/-- Pieces in order, from e on, within 2 ^ o. -/
def Chain (o : Nat) : Nat → List Rm → Prop
  | _, [] => True
  | e, r :: t => ∃ k a u : Nat, k ≤ o ∧ r = ⟨a, ((2 ^ k : Nat) : Int), u⟩ ∧ a + 2 ^ k ≤ 2 ^ o ∧ a % 2 ^ k = 0 ∧ u ≤ 2 ^ k ∧ 2 ^ k / 2 < u ∧ e ≤ a ∧ Chain o (a + 2 ^ k) t
theorem roomsE_iff {o : Nat} (ho : o ≤ 8) : ∀ {l : List Rm} {e : Nat}, roomsE (2 ^ o) l e = 0 ↔ Chain o e l
  | [], e => by simp [roomsE, Chain]
  | r :: t, e => by
    unfold roomsE Chain
    constructor
    · intro h
      split at h
      · rename_i hc
        obtain ⟨k, a, u, h1, rfl, h2, h3, h4, h5⟩ := (pieceB_iff ho).1 hc.1
        refine ⟨k, a, u, h1, rfl, h2, h3, h4, h5, by have := hc.2; dsimp only at this; omega, ?_⟩
        exact (roomsE_iff ho).1 (by dsimp only at h; exact_mod_cast h)
      · cases h
    · rintro ⟨k, a, u, h1, rfl, h2, h3, h4, h5, h6, h7⟩
      rw [if_pos ⟨(pieceB_iff ho).2 ⟨k, a, u, h1, rfl, h2, h3, h4, h5⟩, by dsimp only; omega⟩]
      have := (roomsE_iff ho).2 h7
      dsimp only
      exact_mod_cast this
theorem twinE_iff {o : Int} {l : List Rm} : twinE o l = 0 ↔ ∃ k : Nat, k ≤ 8 ∧ o = k ∧ Chain k 0 l := by
  unfold twinE
  constructor
  · intro h
    split at h
    · rename_i hc
      obtain ⟨k, rfl⟩ : ∃ k : Nat, o = k := ⟨o.toNat, by omega⟩
      exact ⟨k, by omega, rfl, (roomsE_iff (by omega)).1 (by simpa using h)⟩
    · cases h
  · rintro ⟨k, hk, rfl, h⟩
    rw [if_pos ⟨by omega, by omega⟩]
    have := (roomsE_iff hk).2 h
    simpa using this

theorem Chain.mem {o : Nat} : ∀ {l : List Rm} {e : Nat}, Chain o e l → ∀ r ∈ l, ∃ k a u : Nat, k ≤ o ∧ r = ⟨a, ((2 ^ k : Nat) : Int), u⟩ ∧ a + 2 ^ k ≤ 2 ^ o ∧ a % 2 ^ k = 0 ∧ u ≤ 2 ^ k ∧ 2 ^ k / 2 < u ∧ e ≤ a
  | [], _, _, _, h => by simp at h
  | x :: t, e, hc, r, h => by
    obtain ⟨k, a, u, h1, rfl, h2, h3, h4, h5, h6, h7⟩ := hc
    rcases List.mem_cons.1 h with rfl | h
    · exact ⟨k, a, u, h1, rfl, h2, h3, h4, h5, h6⟩
    · obtain ⟨k', a', u', q1, q2, q3, q4, q5, q6, q7⟩ := h7.mem r h
      exact ⟨k', a', u', q1, q2, q3, q4, q5, q6, by omega⟩
theorem Chain.len {o : Nat} : ∀ {l : List Rm} {e : Nat}, Chain o e l → e ≤ 2 ^ o → e + l.length ≤ 2 ^ o
  | [], _, _, h => by simpa using h
  | x :: t, e, hc, _ => by
    obtain ⟨k, a, u, h1, rfl, h2, h3, h4, h5, h6, h7⟩ := hc
    have := h7.len h2
    have hp : 0 < 2 ^ k := Nat.pos_of_ne_zero (by simp)
    simp only [List.length_cons]
    omega

/-- What meets a stretch. -/
def meetsB (a L : Nat) (r : Rm) : Bool := decide (r.loc < ((a + L : Nat) : Int)) && decide ((a : Int) < r.loc + r.len)
def tgapsL (l : List Rm) : Nat → Nat → List Rn
  | 0, a => if l.any (meetsB a 1) = true then [] else [⟨a, 1⟩]
  | k + 1, a => if l.any (meetsB a (2 ^ (k + 1))) = true then tgapsL l k a ++ tgapsL l k (a + 2 ^ k) else [⟨a, ((2 ^ (k + 1) : Nat) : Int)⟩]
theorem tgapsL_length (l : List Rm) : ∀ k a, (tgapsL l k a).length ≤ 2 ^ k
  | 0, a => by unfold tgapsL; split <;> simp
  | k + 1, a => by
    unfold tgapsL
    have h1 := tgapsL_length l k a
    have h2 := tgapsL_length l k (a + 2 ^ k)
    have hp : 0 < 2 ^ k := Nat.pos_of_ne_zero (by simp)
    have hs : 2 ^ (k + 1) = 2 ^ k + 2 ^ k := by omega
    split
    · rw [List.length_append]; omega
    · simp only [List.length_cons, List.length_nil]; omega
end Go.Proofs.Ytdlmnnibgpfdbab
