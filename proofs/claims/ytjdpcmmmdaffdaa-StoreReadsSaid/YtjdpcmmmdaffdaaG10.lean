/-
  Texts joined: TwinDefs LawHalves LawPins LawNums LawObs LawStore.
-/
import Derived.Lib.SmallJoins
import Derived.SizedLaws
import Derived.Deep.Strs
import Derived.Test.YtjdpcmmmdaffdaaG1
import Derived.Test.YtjdpcmmmdaffdaaG2
import Derived.Test.YtjdpcmmmdaffdaaG5
import Derived.Test.YtjdpcmmmdaffdaaG9
/-
  Plain law: halves: pieces, their check, gaps. No program stands here.
-/
namespace Go.Proofs.Ytjdpcmmmdaffdaa
open Go.RowKit

/-- A room: where, how long, how much of it is used. -/
structure Rm where
  loc : Int
  len : Int
  used : Int
deriving DecidableEq
def roomC (r : Rm) : List Value := [.int .i64 r.loc, .int .i64 r.len, .int .i64 r.used]
def roomsC (l : List Rm) : List Value := l.flatMap roomC
theorem roomsC_length (l : List Rm) : (roomsC l).length = l.length * 3 := flat_length roomC 3 (fun _ => rfl) l
theorem roomsC_one (l : List Rm) : ∀ u ∈ roomsC l, u.oneCell' = true := by
  intro u hu
  obtain ⟨s, _, hs⟩ := List.mem_flatMap.1 hu
  simp only [roomC, List.mem_cons, List.not_mem_nil, or_false] at hs
  rcases hs with rfl | rfl | rfl <;> rfl
theorem Reads.room {w : World} {B : Nat} {A : Option Addr} {n j : Nat} {l : List Rm} (h : Reads w B 3 A n (roomsC l)) (hj : j < n) :
    ∃ ad s, A = some ad ∧ ad.block < B ∧ l[j]? = some s ∧ w.cell? (ad.add (j * 3)) = some (.int .i64 s.loc) ∧
      w.cell? ⟨(ad.add (j * 3)).block, (ad.add (j * 3)).off + 1, none⟩ = some (.int .i64 s.len) ∧
      w.cell? ⟨(ad.add (j * 3)).block, (ad.add (j * 3)).off + 2, none⟩ = some (.int .i64 s.used) := by
  obtain ⟨ad, s, e, hb, hs, c0, cs⟩ := Reads.elem (f := roomC) (k := 3) (fun _ => rfl) h (by decide) hj
  exact ⟨ad, s, e, hb, hs, c0, cs 1 (by decide) (by decide), cs 2 (by decide) (by decide)⟩

/-- The powers of two that a piece may have. -/
def isP (x : Int) : Bool := [1, 2, 4, 8, 16, 32, 64, 128, 256].contains x
theorem isP_pow {x : Int} (h : isP x = true) : ∃ k : Nat, k ≤ 8 ∧ x = ((2 ^ k : Nat) : Int) := by
  unfold isP at h
  simp only [List.contains_eq_mem, List.mem_cons, List.not_mem_nil, or_false, decide_eq_true_eq] at h
  rcases h with rfl | rfl | rfl | rfl | rfl | rfl | rfl | rfl | rfl
  · exact ⟨0, by decide, rfl⟩
  · exact ⟨1, by decide, rfl⟩
  · exact ⟨2, by decide, rfl⟩
  · exact ⟨3, by decide, rfl⟩
  · exact ⟨4, by decide, rfl⟩
  · exact ⟨5, by decide, rfl⟩
  · exact ⟨6, by decide, rfl⟩
  · exact ⟨7, by decide, rfl⟩
  · exact ⟨8, by decide, rfl⟩
theorem isP_of {k : Nat} (h : k ≤ 8) : isP ((2 ^ k : Nat) : Int) = true := by
  have : ∀ k : Fin 9, isP ((2 ^ k.val : Nat) : Int) = true := by decide
  exact this ⟨k, by omega⟩

def pieceB (r : Rm) (all : Nat) : Bool :=
  decide (1 ≤ r.len) && (decide (r.len ≤ all) && (isP r.len && (decide (0 ≤ r.loc) && (decide (r.loc ≤ all - r.len) && (decide (r.loc % r.len = 0) && (decide (r.used ≤ r.len) && decide (r.len / 2 < r.used)))))))
def roomsE (all : Nat) : List Rm → Int → Int
  | [], _ => 0
  | r :: t, e => if pieceB r all = true ∧ e ≤ r.loc then roomsE all t (r.loc + r.len) else 3
def twinE (o : Int) (l : List Rm) : Int := if 0 ≤ o ∧ o ≤ 8 then roomsE (2 ^ o.toNat) l 0 else 4

/-- What a good piece is. -/
theorem pieceB_iff {r : Rm} {o : Nat} (ho : o ≤ 8) : pieceB r (2 ^ o) = true ↔
    ∃ k a u : Nat, k ≤ o ∧ r = ⟨a, ((2 ^ k : Nat) : Int), u⟩ ∧ a + 2 ^ k ≤ 2 ^ o ∧ a % 2 ^ k = 0 ∧ u ≤ 2 ^ k ∧ 2 ^ k / 2 < u := by
  unfold pieceB
  simp only [Bool.and_eq_true, decide_eq_true_eq]
  constructor
  · rintro ⟨h1, h2, h3, h4, h5, h6, h7, h8⟩
    obtain ⟨k, hk, e⟩ := isP_pow h3
    obtain ⟨a, l, u⟩ := r
    dsimp only at *
    subst e
    have hko : 2 ^ k ≤ 2 ^ o := by exact_mod_cast h2
    have hk1 : k ≤ o := (Nat.pow_le_pow_iff_right (by decide)).1 hko
    obtain ⟨A, rfl⟩ : ∃ A : Nat, a = A := ⟨a.toNat, by omega⟩
    have hp : 0 < 2 ^ k := Nat.pos_of_ne_zero (by simp)
    have hu : 0 ≤ u := by
      have : (0 : Int) ≤ ((2 ^ k : Nat) : Int) / 2 := by omega
      omega
    obtain ⟨U, rfl⟩ : ∃ U : Nat, u = U := ⟨u.toNat, by omega⟩
    refine ⟨k, A, U, hk1, rfl, by omega, ?_, by omega, by omega⟩
    exact_mod_cast h6
  · rintro ⟨k, a, u, hk, rfl, h1, h2, h3, h4⟩
    have hp : 0 < 2 ^ k := Nat.pos_of_ne_zero (by simp)
    dsimp only
    refine ⟨by omega, by omega, isP_of (by omega), by omega, by omega, ?_, by omega, by omega⟩
    exact_mod_cast h2

/-- Pieces in order, from e on, within 2 ^ o. -/
def Chain (o : Nat) : Nat → List Rm → Prop
  | _, [] => True
  | e, r :: t => ∃ k a u : Nat, k ≤ o ∧ r = ⟨a, ((2 ^ k : Nat) : Int), u⟩ ∧ a + 2 ^ k ≤ 2 ^ o ∧ a % 2 ^ k = 0 ∧ u ≤ 2 ^ k ∧ 2 ^ k / 2 < u ∧ e ≤ a ∧ Chain o (a + 2 ^ k) t
theorem roomsE_iff {o : Nat} (ho : o ≤ 8) : ∀ {l : List Rm} {e : Nat}, roomsE (2 ^ o) l e = 0 ↔ Chain o e l
  | [], e => by simp [roomsE, Chain]
  | r :: t, e => by
    unfold roomsE Chain
    constructor
    · intro h
      split at h
      · rename_i hc
        obtain ⟨k, a, u, h1, rfl, h2, h3, h4, h5⟩ := (pieceB_iff ho).1 hc.1
        refine ⟨k, a, u, h1, rfl, h2, h3, h4, h5, by have := hc.2; dsimp only at this; omega, ?_⟩
        exact (roomsE_iff ho).1 (by dsimp only at h; exact_mod_cast h)
      · cases h
    · rintro ⟨k, a, u, h1, rfl, h2, h3, h4, h5, h6, h7⟩
      rw [if_pos ⟨(pieceB_iff ho).2 ⟨k, a, u, h1, rfl, h2, h3, h4, h5⟩, by dsimp only; omega⟩]
      have := (roomsE_iff ho).2 h7
      dsimp only
      exact_mod_cast this
theorem twinE_iff {o : Int} {l : List Rm} : twinE o l = 0 ↔ ∃ k : Nat, k ≤ 8 ∧ o = k ∧ Chain k 0 l := by
  unfold twinE
  constructor
  · intro h
    split at h
    · rename_i hc
      obtain ⟨k, rfl⟩ : ∃ k : Nat, o = k := ⟨o.toNat, by omega⟩
      exact ⟨k, by omega, rfl, (roomsE_iff (by omega)).1 (by simpa using h)⟩
    · cases h
  · rintro ⟨k, hk, rfl, h⟩
    rw [if_pos ⟨by omega, by omega⟩]
    have := (roomsE_iff hk).2 h
    simpa using this

theorem Chain.mem {o : Nat} : ∀ {l : List Rm} {e : Nat}, Chain o e l → ∀ r ∈ l, ∃ k a u : Nat, k ≤ o ∧ r = ⟨a, ((2 ^ k : Nat) : Int), u⟩ ∧ a + 2 ^ k ≤ 2 ^ o ∧ a % 2 ^ k = 0 ∧ u ≤ 2 ^ k ∧ 2 ^ k / 2 < u ∧ e ≤ a
  | [], _, _, _, h => by simp at h
  | x :: t, e, hc, r, h => by
    obtain ⟨k, a, u, h1, rfl, h2, h3, h4, h5, h6, h7⟩ := hc
    rcases List.mem_cons.1 h with rfl | h
    · exact ⟨k, a, u, h1, rfl, h2, h3, h4, h5, h6⟩
    · obtain ⟨k', a', u', q1, q2, q3, q4, q5, q6, q7⟩ := h7.mem r h
      exact ⟨k', a', u', q1, q2, q3, q4, q5, q6, by omega⟩
theorem Chain.len {o : Nat} : ∀ {l : List Rm} {e : Nat}, Chain o e l → e ≤ 2 ^ o → e + l.length ≤ 2 ^ o
  | [], _, _, h => by simpa using h
  | x :: t, e, hc, _ => by
    obtain ⟨k, a, u, h1, rfl, h2, h3, h4, h5, h6, h7⟩ := hc
    have := h7.len h2
    have hp : 0 < 2 ^ k := Nat.pos_of_ne_zero (by simp)
    simp only [List.length_cons]
    omega

/-- What meets a stretch. -/
def meetsB (a L : Nat) (r : Rm) : Bool := decide (r.loc < ((a + L : Nat) : Int)) && decide ((a : Int) < r.loc + r.len)
def tgapsL (l : List Rm) : Nat → Nat → List Rn
  | 0, a => if l.any (meetsB a 1) = true then [] else [⟨a, 1⟩]
  | k + 1, a => if l.any (meetsB a (2 ^ (k + 1))) = true then tgapsL l k a ++ tgapsL l k (a + 2 ^ k) else [⟨a, ((2 ^ (k + 1) : Nat) : Int)⟩]
theorem tgapsL_length (l : List Rm) : ∀ k a, (tgapsL l k a).length ≤ 2 ^ k
  | 0, a => by unfold tgapsL; split <;> simp
  | k + 1, a => by
    unfold tgapsL
    have h1 := tgapsL_length l k a
    have h2 := tgapsL_length l k (a + 2 ^ k)
    have hp : 0 < 2 ^ k := Nat.pos_of_ne_zero (by simp)
    have hs : 2 ^ (k + 1) = 2 ^ k + 2 ^ k := by omega
    split
    · rw [List.length_append]; omega
    · simp only [List.length_cons, List.length_nil]; omega
end Go.Proofs.Ytjdpcmmmdaffdaa

/-
  Opening halves (a struct of an int and a slice of rooms) that came in by value.
-/
namespace Go.Proofs.Ytjdpcmmmdaffdaa
open Go.ChangeShapes Go.WideShapes Go.ChangeAt Go.RowKit Go.Joins Go.Deep

instance : Inhabited Rm := ⟨⟨0, 0, 0⟩⟩

theorem open_elemsC {α : Type} [Inhabited α] (f : α → List Value) (k : Nat) (hk0 : 0 < k) (hf : ∀ a, (f a).length = k) {H : Type} {enc : TypeId × Value → H} {P : Program} {t e : TypeId} {W : World} {sp : Nat → Bool} {v : Value} {x : DataW H × List MemPlace} {fuel : Nat}
    (ht : P.underlying t = some (.slice e)) (hc : P.cellsOf e = k) (hel : ∀ n cs y, DataW.trod enc P W 0 sp true n e cs = some y → ∃ a, cs = f a)
    (hlt : ∀ p ∈ x.2, p.block < W.heap.size) (hf' : DataW.trod enc P W 0 sp true fuel t [v] = some x) :
    ∃ (A : Option Addr) (n c : Nat) (l : List α), v = .slice A n c ∧ n ≤ c ∧ c ≤ maxLen ∧ Reads W W.heap.size k A n (l.flatMap f) ∧ l.length = n := by
  rcases open_slice ht hf' with ⟨hcs, hx⟩ | ⟨a, len, cap, m, n, D, Pl, hcs, hb, hlc, hm, hmm, hx, hcell⟩
  · simp at hcs
    subst hcs
    exact ⟨none, 0, 0, [], rfl, Nat.le_refl _, Nat.zero_le _, Reads.none_, rfl⟩
  · simp at hcs
    subst hcs
    subst hx
    have hlm : len ≤ m := by rw [hmm]; split <;> omega
    rw [hc] at hcell hlt
    obtain ⟨V, hV⟩ := choose_lt (α := α) (p := fun i x => W.cells? 0 (a.add (i * k)) k = some (f x)) (fun i hi => by
      obtain ⟨cs', h1, h2⟩ := hcell i hi
      obtain ⟨x, rfl⟩ := hel _ _ _ h2
      exact ⟨x, h1⟩)
    refine ⟨some a, len, cap, (List.range len).map V, rfl, hlc, hm, ⟨by rw [flat_length f k hf]; simp, fun hn => ⟨a, rfl, ?_, fun j u hu => ?_⟩⟩, by simp⟩
    · have := hlt (.cell a.block (a.off + 0)) (List.mem_append_left _ (by
        unfold MemPlace.row
        refine List.mem_map.2 ⟨0, List.mem_range.2 ?_, rfl⟩
        exact Nat.mul_pos (by omega) hk0))
      exact this
    · have hj : j < len * k := by
        have := (List.getElem?_eq_some_iff.1 hu).1
        rw [flat_length f k hf] at this
        simpa using this
      have hq : j / k < len := Nat.div_lt_of_lt_mul (by rw [Nat.mul_comm]; exact hj)
      have hr : j % k < k := Nat.mod_lt _ hk0
      have hjd : j / k * k + j % k = j := by rw [Nat.mul_comm]; exact Nat.div_add_mod j k
      rw [← hjd, flat_at f k hf _ _ _ (by simpa using hq) hr] at hu
      simp only [List.getElem_map, List.getElem_range] at hu
      have := (World.cells?_some (hV (j / k) (by omega))).2.2 (j % k) hr
      rw [add_of_add, hjd] at this
      rw [this]
      exact hu

theorem list3b {α : Type} {l : List α} (h : l.length = 3) : ∃ a b c, l = [a, b, c] := by
  match l, h with
  | [a, b, c], _ => exact ⟨a, b, c, rfl⟩

end Go.Proofs.Ytjdpcmmmdaffdaa

/-
  Opening a slice of pins that came in, with its reach.
-/
namespace Go.Proofs.Ytjdpcmmmdaffdaa
open Go.ChangeShapes Go.WideShapes Go.ChangeAt Go.RowKit Go.Joins Go.Deep

instance inhP : Inhabited Rn := ⟨⟨0, 0⟩⟩
theorem list2P {α : Type} {l : List α} (h : l.length = 2) : ∃ a b, l = [a, b] := by
  match l, h with
  | [a, b], _ => exact ⟨a, b, rfl⟩
theorem k_pin_bytes : Try.prog.bytesOf 50 = 16 := by kernel_rfl
set_option maxRecDepth 100000 in
theorem open_pins {H : Type} {enc : TypeId × Value → H} {W : World} {r : Reach} {base : Nat} {sp : Nat → Bool} {v : Value} {d : DataW H} {ps : List MemPlace}
    (hval : Value.okWide Try.prog W r base 24 v) (hlt : ∀ x ∈ ps, x.block < W.heap.size) (h : DataW.Trod enc Try.prog W 0 sp true 24 v d ps) :
    ∃ (A : Option Addr) (n c : Nat) (l : List Rn), v = .slice A n c ∧ n ≤ c ∧ c ≤ maxLen ∧ Reads W W.heap.size 2 A n (runsC l) ∧ (n = 0 ∨ ∃ D E, d = .slice D E ∧ D.length = n) := by
  obtain ⟨A, n, c, l, h1, h2, h3, h4, -, h5⟩ := open_elems2 runC 2 (by decide) (fun _ => rfl) Try.underlying24 (by kernel_rfl) (fun n cs y hy => by
    obtain ⟨y0, y1, m, _, hl, a0, a1⟩ := trod_struct2 Try.underlying50 hy
    have hl2 : cs.length = 2 := hl.trans (by kernel_rfl)
    obtain ⟨c0, c1, rfl⟩ := list2P hl2
    have k0 : Try.prog.cellsOf 3 = 1 := by kernel_rfl
    dsimp only at a0 a1
    rw [k0] at a0 a1
    obtain ⟨x0, q0, -, -⟩ := DataW.trod_int Try.underlying3 a0
    obtain ⟨x1, q1, -, -⟩ := DataW.trod_int Try.underlying3 a1
    simp at q0 q1
    subst q0 q1
    exact ⟨⟨x0, x1⟩, rfl⟩) hval hlt h
  exact ⟨A, n, c, l, h1, h2, h3, h4, h5⟩
end Go.Proofs.Ytjdpcmmmdaffdaa

/-
  Opening a slice of numbers that came in, with its reach.
-/
namespace Go.Proofs.Ytjdpcmmmdaffdaa
open Go.ChangeShapes Go.WideShapes Go.ChangeAt Go.RowKit

theorem k_int_bytes : Try.prog.bytesOf 3 = 8 := by kernel_rfl
theorem open_nums2 {H : Type} {enc : TypeId × Value → H} {P : Program} {t e : TypeId} {k : IntKind} {W : World} {r : Reach} {base : Nat} {sp : Nat → Bool} {v : Value} {d : DataW H} {ps : List MemPlace} (ht : P.underlying t = some (.slice e)) (he : P.underlying e = some (.int k)) (hc : P.cellsOf e = 1)
    (hval : Value.okWide P W r base t v) (hlt : ∀ x ∈ ps, x.block < W.heap.size) (h : DataW.Trod enc P W 0 sp true t v d ps) :
    ∃ (A : Option Addr) (n c : Nat) (xs : List Int), v = .slice A n c ∧ n ≤ c ∧ c ≤ maxLen ∧ Reads W W.heap.size 1 A n (xs.map (.int k)) ∧ (∀ x ∈ xs, (Lit.int k x).wf = true) ∧ (n = 0 ∨ ∃ D E, d = .slice D E ∧ D.length = n) := by
  have hk := open_nums ht he hc hval hlt h
  obtain ⟨A, n, c, xs, h1, h2, h3, h4, h5⟩ := hk
  refine ⟨A, n, c, xs, h1, h2, h3, h4, h5, ?_⟩
  subst h1
  obtain ⟨fuel, hf⟩ := h
  rcases open_ints ht he hc hf with ⟨hcs, hx⟩ | ⟨a, len, cap, zs, hcs, hb, hlc, hm, hzl, hx, hcell, hwf⟩
  · simp [Value.cells] at hcs
    exact .inl hcs.2.1
  · simp [Value.cells] at hcs
    obtain ⟨rfl, rfl, rfl⟩ := hcs
    simp only [Prod.mk.injEq] at hx
    obtain ⟨rfl, rfl⟩ := hx
    have hlz : n ≤ zs.length := by rw [hzl]; split <;> omega
    exact .inr ⟨_, _, rfl, by simp [lits]; omega⟩
end Go.Proofs.Ytjdpcmmmdaffdaa

/-
  Opening a slice of objects (a tag, a slice of ints, a slice of words, a mark) that came in.
-/
namespace Go.Proofs.Ytjdpcmmmdaffdaa
open Go.ChangeShapes Go.WideShapes Go.ChangeAt Go.RowKit Go.Joins Go.Deep

instance : Inhabited (Ob × ObV) := ⟨(⟨0, [], [], false⟩, ⟨0, none, 0, 0, none, 0, 0, false⟩)⟩

theorem trod_nums {H : Type} {enc : TypeId × Value → H} {P : Program} {t e : TypeId} {k : IntKind} {W : World} {sp : Nat → Bool} {fuel : Nat} {v : Value} {x : DataW H × List MemPlace} (ht : P.underlying t = some (.slice e)) (he : P.underlying e = some (.int k)) (hc : P.cellsOf e = 1)
    (hlt : ∀ p ∈ x.2, p.block < W.heap.size) (h : DataW.trod enc P W 0 sp true fuel t [v] = some x) :
    ∃ (A : Option Addr) (n c : Nat) (xs : List Int), v = .slice A n c ∧ n ≤ c ∧ c ≤ maxLen ∧ xs.length = n ∧ Reads W W.heap.size 1 A n (xs.map (.int k)) ∧ (∀ x ∈ xs, (Lit.int k x).wf = true) := by
  rcases open_ints ht he hc h with ⟨hcs, hx⟩ | ⟨a, len, cap, zs, hcs, hb, hlc, hm, hzl, hx, hcell, hwf⟩
  · simp at hcs
    subst hcs
    exact ⟨none, 0, 0, [], rfl, Nat.le_refl _, Nat.zero_le _, rfl, Reads.none_, fun x hx => by cases hx⟩
  · simp at hcs
    subst hcs
    subst hx
    have hlz : len ≤ zs.length := by rw [hzl]; split <;> omega
    refine ⟨some a, len, cap, zs.take len, rfl, hlc, hm, by simp; omega, ⟨by simp; omega, fun hn => ⟨a, rfl, ?_, fun j u hu => ?_⟩⟩, fun x hx => hwf x (List.mem_of_mem_take hx)⟩
    · have := hlt (.cell a.block (a.off + 0)) (by
        unfold MemPlace.row
        exact List.mem_map.2 ⟨0, List.mem_range.2 (by omega), rfl⟩)
      exact this
    · have hj : j < len := by
        have := (List.getElem?_eq_some_iff.1 hu).1
        simp at this; omega
      rw [hcell j (by omega)]
      rw [List.getElem?_map, List.getElem?_take, if_pos hj, List.getElem?_eq_getElem (by omega)] at hu
      rw [← hu, List.getD_eq_getElem?_getD, List.getElem?_eq_getElem (by omega)]
      rfl

theorem open_elemsQ {α : Type} [Inhabited α] (f : α → List Value) (Q : α → Prop) (k : Nat) (hk0 : 0 < k) (hf : ∀ a, (f a).length = k) {H : Type} {enc : TypeId × Value → H} {P : Program} {t e : TypeId} {W : World} {r : Reach} {base : Nat} {sp : Nat → Bool} {v : Value} {d : DataW H} {ps : List MemPlace}
    (ht : P.underlying t = some (.slice e)) (hc : P.cellsOf e = k) (hel : ∀ n cs (y : DataW H × List MemPlace), (∀ p ∈ y.2, p.block < W.heap.size) → DataW.trod enc P W 0 sp true n e cs = some y → ∃ a, cs = f a ∧ Q a)
    (hval : Value.okWide P W r base t v) (hlt : ∀ x ∈ ps, x.block < W.heap.size) (h : DataW.Trod enc P W 0 sp true t v d ps) :
    ∃ (A : Option Addr) (n c : Nat) (l : List α), v = .slice A n c ∧ n ≤ c ∧ c ≤ maxLen ∧ Reads W W.heap.size k A n (l.flatMap f) ∧ (∀ a ∈ l, Q a) ∧ l.length = n ∧ (n = 0 ∨ ∃ D E, d = .slice D E ∧ D.length = n) := by
  obtain ⟨a0, len0, cap0, rfl⟩ := okWide_slice ht hval
  obtain ⟨fuel, hf'⟩ := h
  rcases open_slice ht hf' with ⟨hcs, hx⟩ | ⟨a, len, cap, m, n, D, Pl, hcs, hb, hlc, hm, hmm, hx, hcell⟩
  · simp [Value.cells] at hcs
    obtain ⟨rfl, rfl, rfl⟩ := hcs
    exact ⟨none, 0, 0, [], rfl, Nat.le_refl _, Nat.zero_le _, Reads.none_, (fun a ha => by cases ha), rfl, .inl rfl⟩
  · simp [Value.cells] at hcs
    obtain ⟨rfl, rfl, rfl⟩ := hcs
    simp only [Prod.mk.injEq] at hx
    obtain ⟨rfl, rfl⟩ := hx
    have hlm : len0 ≤ m := by rw [hmm]; split <;> omega
    rw [hc] at hcell hlt
    obtain ⟨V, hV⟩ := choose_lt (α := α) (p := fun i x => W.cells? 0 (a.add (i * k)) k = some (f x) ∧ Q x) (fun i hi => by
      obtain ⟨cs', h1, h2⟩ := hcell i hi
      obtain ⟨x, rfl, hq⟩ := hel _ _ _ (fun p hp => hlt p (List.mem_append_right _ (List.mem_flatMap.2 ⟨i, List.mem_range.2 hi, hp⟩))) h2
      exact ⟨x, h1, hq⟩)
    refine ⟨some a, len0, cap0, (List.range len0).map V, rfl, hlc, hm, ⟨by rw [flat_length f k hf]; simp, fun hn => ⟨a, rfl, ?_, fun j u hu => ?_⟩⟩, fun x hx => ?_, by simp, .inr ⟨_, _, rfl, by simp⟩⟩
    · have := hlt (.cell a.block (a.off + 0)) (List.mem_append_left _ (by
        unfold MemPlace.row
        refine List.mem_map.2 ⟨0, List.mem_range.2 ?_, rfl⟩
        exact Nat.mul_pos (by omega) hk0))
      exact this
    · have hj : j < len0 * k := by
        have := (List.getElem?_eq_some_iff.1 hu).1
        rw [flat_length f k hf] at this
        simpa using this
      have hq : j / k < len0 := Nat.div_lt_of_lt_mul (by rw [Nat.mul_comm]; exact hj)
      have hr : j % k < k := Nat.mod_lt _ hk0
      have hjd : j / k * k + j % k = j := by rw [Nat.mul_comm]; exact Nat.div_add_mod j k
      rw [← hjd, flat_at f k hf _ _ _ (by simpa using hq) hr] at hu
      simp only [List.getElem_map, List.getElem_range] at hu
      have := (World.cells?_some (hV (j / k) (by omega)).1).2.2 (j % k) hr
      rw [add_of_add, hjd] at this
      rw [this]
      exact hu
    · obtain ⟨i, hi, rfl⟩ := List.mem_map.1 hx
      exact (hV i (by have := List.mem_range.1 hi; omega)).2

theorem list4b {α : Type} {l : List α} (h : l.length = 4) : ∃ a b c d, l = [a, b, c, d] := by
  match l, h with
  | [a, b, c, d], _ => exact ⟨a, b, c, d, rfl⟩
theorem k_ob_bytes : Try.prog.bytesOf 73 = 64 := by kernel_rfl
def ObIn (W : World) (p : Ob × ObV) : Prop := ObR W W.heap.size p.1 p.2 ∧ (∀ x ∈ p.1.refs, (Lit.int .i64 x).wf = true) ∧ ∀ x ∈ p.1.body, (Lit.int .u64 x).wf = true
end Go.Proofs.Ytjdpcmmmdaffdaa

/-
  Opening a store (a struct of four slices) that came in by value.
-/
namespace Go.Proofs.Ytjdpcmmmdaffdaa
open Go.ChangeShapes Go.WideShapes Go.ChangeAt Go.RowKit Go.Joins Go.Deep

set_option maxRecDepth 100000 in
theorem open_store {H : Type} {enc : TypeId × Value → H} {W : World} {r : Reach} {base : Nat} {sp : Nat → Bool} {v : Value} {d : DataW H} {ps : List MemPlace}
    (hval : Value.okWide Try.prog W r base 28 v) (hlt : ∀ x ∈ ps, x.block < W.heap.size) (h : DataW.Trod enc Try.prog W 0 sp true 28 v d ps) :
    ∃ (A : Option Addr) (n c : Nat) (RA : Option Addr) (rn rc : Nat) (PA : Option Addr) (pn pc : Nat) (HA : Option Addr) (hn hc : Nat) (S : St), v = .agg #[.slice A n c, .slice RA rn rc, .slice PA pn pc, .slice HA hn hc] ∧ StR W W.heap.size A n RA rn PA pn HA hn S ∧ StK n c rn pn hn S := by
  obtain ⟨c0, c1, c2, c3, y0, y1, y2, y3, m, rfl, rfl, rfl, hy0, hy1, hy2, hy3⟩ := open_agg4 Try.underlying28 (by kernel_rfl) (by kernel_rfl) hval h
  have k4 : Try.prog.cellsOf 35 = 1 := by kernel_rfl
  have k0 : Try.prog.cellsOf 3 = 1 := by kernel_rfl
  have k3 : Try.prog.cellsOf 4 = 1 := by kernel_rfl
  obtain ⟨A, n, c, a, rfl, a1, a2, a3, a4, a5⟩ := trod_nums Try.underlying22 Try.underlying35 k4 (fun x hx => hlt x (by simp [hx])) hy0
  obtain ⟨RA, rn, rc, r, rfl, r1, r2, r3, r4, r5⟩ := trod_nums Try.underlying23 Try.underlying3 k0 (fun x hx => hlt x (by simp [hx])) hy1
  obtain ⟨PA, pn, pc, p, rfl, p1, p2, p3, p4⟩ := open_elemsC runC 2 (by decide) (fun _ => rfl) Try.underlying24 (by kernel_rfl) (fun n cs y hy => by
    obtain ⟨z0, z1, m, _, hl, a0, a1⟩ := trod_struct2 Try.underlying50 hy
    have hl2 : cs.length = 2 := hl.trans (by kernel_rfl)
    obtain ⟨c0, c1, rfl⟩ := list2P hl2
    dsimp only at a0 a1
    rw [k0] at a0 a1
    obtain ⟨x0, q0, -, -⟩ := DataW.trod_int Try.underlying3 a0
    obtain ⟨x1, q1, -, -⟩ := DataW.trod_int Try.underlying3 a1
    simp at q0 q1
    subst q0 q1
    exact ⟨⟨x0, x1⟩, rfl⟩) (fun x hx => hlt x (by simp [hx])) hy2
  obtain ⟨HA, hn, hc, l, rfl, l1, l2, l3, l4⟩ := open_elemsC slotC 3 (by decide) (fun _ => rfl) Try.underlying26 (by kernel_rfl) (fun n cs y hy => by
    obtain ⟨z0, z1, z2, m, _, hl, a0, a1, a2⟩ := trod_struct3 Try.underlying53 hy
    have hl3 : cs.length = 3 := hl.trans (by kernel_rfl)
    obtain ⟨c0, c1, c2, rfl⟩ := list3 hl3
    dsimp only at a0 a1 a2
    rw [k0] at a0 a2
    rw [k3] at a1
    obtain ⟨x0, q0, -, -⟩ := DataW.trod_int Try.underlying3 a0
    obtain ⟨x1, q1, -⟩ := DataW.trod_bool Try.underlying4 a1
    obtain ⟨x2, q2, -, -⟩ := DataW.trod_int Try.underlying3 a2
    simp at q0 q1 q2
    subst q0 q1 q2
    exact ⟨⟨x0, x1, x2⟩, rfl⟩) (fun x hx => hlt x (by simp [hx])) hy3
  unfold maxLen at r2 p2 l2
  exact ⟨A, n, c, RA, rn, rc, PA, pn, pc, HA, hn, hc, ⟨a, r, p, l⟩, rfl, ⟨a4, r4, p3, l3⟩, ⟨a1, a2, a5, by omega, by omega, by omega⟩⟩
end Go.Proofs.Ytjdpcmmmdaffdaa
