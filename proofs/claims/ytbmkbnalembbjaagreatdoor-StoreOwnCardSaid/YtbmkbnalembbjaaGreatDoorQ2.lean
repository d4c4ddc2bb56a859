/-
  Texts joined: HeadDefs Arena Map Arena2 GapDefs Pin TintDefs Head.
-/
import Derived.WalkKit
import Derived.Maps.OwnSet
import Derived.Maps.OwnOps
import Derived.Test.YtbmkbnalembbjaaGreatDoorRows
import Derived.BigQuiet
import Derived.Test.YtbmkbnalembbjaaGreatDoorQ0
import Derived.Test.YtbmkbnalembbjaaGreatDoorQ1
namespace Go.Proofs.YtbmkbnalembbjaaGreatDoor
open Go.RowKit
def hv (r b t : Int) (f : Bool) : Value := .agg #[.int .i64 r, .int .i64 b, .int .i64 t, .bool f]
def headE (r b t : Int) (f : Bool) : Int :=
  if r < 0 ∨ b < 0 ∨ t < 0 ∨ 256 < r ∨ 256 < b ∨ 65535 < t then 4
  else if f = true ∧ (0 < r ∨ 0 < t) then 3
  else if 256 < 1 + r + b then 2 else 0
def wordOf (r b t : Int) (f : Bool) : Int := r + b * 65536 + t * 4294967296 + (if f then 281474976710656 else 0)
theorem headE_ok {r b t : Int} {f : Bool} : headE r b t f = 0 ↔ (0 ≤ r ∧ r ≤ 256 ∧ 0 ≤ b ∧ b ≤ 256 ∧ 0 ≤ t ∧ t ≤ 65535 ∧ 1 + r + b ≤ 256 ∧ (f = true → r = 0 ∧ t = 0)) := by
  unfold headE
  constructor
  · intro h
    split at h
    · cases h
    · split at h
      · cases h
      · split at h
        · cases h
        · rename_i a b' c
          exact ⟨by omega, by omega, by omega, by omega, by omega, by omega, by omega, fun hf => by
            subst hf
            simp at b'
            omega⟩
  · rintro ⟨h1, h2, h3, h4, h5, h6, h7, h8⟩
    rw [if_neg (by omega), if_neg (by rintro ⟨hf, h⟩; have := h8 hf; omega), if_neg (by omega)]
def rdR (v : Int) : Int := v % 65536
def rdB (v : Int) : Int := v / 65536 % 65536
def rdT (v : Int) : Int := v / 4294967296 % 65536
def rdF (v : Int) : Bool := decide (v / 281474976710656 % 2 = 1)
def readOk (v : Int) : Prop := v / 562949953421312 = 0 ∧ headE (rdR v) (rdB v) (rdT v) (rdF v) = 0
instance readOkDec (v : Int) : Decidable (readOk v) := by unfold readOk; infer_instance
end Go.Proofs.YtbmkbnalembbjaaGreatDoor

namespace Go.Proofs.YtbmkbnalembbjaaGreatDoor
open Go.RowKit
structure Spot where
  loc : Int
  r : Int
  b : Int
  t : Int
  f : Bool
deriving DecidableEq
def Spot.long (s : Spot) : Int := 1 + s.r + s.b
def spotC (s : Spot) : List Value := [.int .i64 s.loc, .int .i64 s.r, .int .i64 s.b, .int .i64 s.t, .bool s.f]
def spotsC (l : List Spot) : List Value := l.flatMap spotC
def spotOf (i : Nat) (v : Int) : Spot := ⟨i, rdR v, rdB v, rdT v, rdF v⟩
def hlen (v : Int) : Nat := (1 + rdR v + rdB v).toNat
def spotsGo (a : List Int) : Nat → Nat → Option (List Spot)
  | 0, _ => some []
  | n + 1, i => if a.length ≤ i then some [] else
    if readOk (a.getD i 0) ∧ i + hlen (a.getD i 0) ≤ a.length then (spotsGo a n (i + hlen (a.getD i 0))).map (spotOf i (a.getD i 0) :: ·) else none
def spotsAt (a : List Int) (i : Nat) : Option (List Spot) := spotsGo a (a.length - i) i
theorem hlen_pos {v : Int} (h : readOk v) : 1 ≤ hlen v := by
  have := headE_ok.1 h.2
  unfold hlen; omega
theorem spotsGo_fuel (a : List Int) : ∀ (n m i : Nat), a.length - i ≤ n → a.length - i ≤ m → spotsGo a n i = spotsGo a m i := by
  intro n
  induction n with
  | zero =>
    intro m i h1 h2
    cases m with
    | zero => rfl
    | succ m => simp only [spotsGo]; rw [if_pos (by omega)]
  | succ n ih =>
    intro m i h1 h2
    cases m with
    | zero => simp only [spotsGo]; rw [if_pos (by omega)]
    | succ m =>
      simp only [spotsGo]
      split
      · rfl
      · split
        · rename_i h
          have := hlen_pos h.1
          rw [ih m _ (by omega) (by omega)]
        · rfl
theorem spotsAt_end {a : List Int} {i : Nat} (h : a.length ≤ i) : spotsAt a i = some [] := by
  unfold spotsAt
  rw [show a.length - i = 0 by omega]
  rfl
theorem spotsAt_step {a : List Int} {i : Nat} (h : i < a.length) (h1 : readOk (a.getD i 0)) (h2 : i + hlen (a.getD i 0) ≤ a.length) :
    spotsAt a i = (spotsAt a (i + hlen (a.getD i 0))).map (spotOf i (a.getD i 0) :: ·) := by
  have := hlen_pos h1
  unfold spotsAt
  rw [show a.length - i = (a.length - i - 1) + 1 by omega]
  simp only [spotsGo]
  rw [if_neg (by omega), if_pos ⟨h1, h2⟩, spotsGo_fuel a _ (a.length - (i + hlen (a.getD i 0))) _ (by omega) (by omega)]
theorem spotsAt_bad {a : List Int} {i : Nat} (h : i < a.length) (h1 : ¬ (readOk (a.getD i 0) ∧ i + hlen (a.getD i 0) ≤ a.length)) : spotsAt a i = none := by
  unfold spotsAt
  rw [show a.length - i = (a.length - i - 1) + 1 by omega]
  simp only [spotsGo]
  rw [if_neg (by omega), if_neg h1]
def spotsE (a : List Int) : Int := if 256 < a.length then 2 else if spotsAt a 0 = none then 3 else 0
def spotsL (a : List Int) : List Spot := if 256 < a.length then [] else (spotsAt a 0).getD []
def Parse (a : List Int) : Nat → List Spot → Prop
  | i, [] => i = a.length
  | i, s :: l => i < a.length ∧ readOk (a.getD i 0) ∧ s = spotOf i (a.getD i 0) ∧ i + hlen (a.getD i 0) ≤ a.length ∧ Parse a (i + hlen (a.getD i 0)) l
theorem parse_of (a : List Int) : ∀ (n i : Nat) (l : List Spot), a.length - i ≤ n → i ≤ a.length → spotsAt a i = some l → Parse a i l := by
  intro n
  induction n with
  | zero =>
    intro i l h1 h2 h
    have hi : i = a.length := by omega
    subst hi
    rw [spotsAt_end (Nat.le_refl _)] at h
    obtain rfl := Option.some.inj h
    rfl
  | succ n ih =>
    intro i l h1 h2 h
    by_cases hi : i < a.length
    · by_cases hok : readOk (a.getD i 0) ∧ i + hlen (a.getD i 0) ≤ a.length
      · rw [spotsAt_step hi hok.1 hok.2] at h
        obtain ⟨l', h', rfl⟩ := Option.map_eq_some_iff.1 h
        have := hlen_pos hok.1
        exact ⟨hi, hok.1, rfl, hok.2, ih _ _ (by omega) hok.2 h'⟩
      · rw [spotsAt_bad hi hok] at h
        cases h
    · rw [spotsAt_end (by omega)] at h
      obtain rfl := Option.some.inj h
      show i = a.length
      omega
theorem parse_ok {a : List Int} (h : spotsE a = 0) : a.length ≤ 256 ∧ Parse a 0 (spotsL a) := by
  unfold spotsE at h
  split at h
  · cases h
  · rename_i hl
    split at h
    · cases h
    · rename_i hn
      refine ⟨by omega, ?_⟩
      unfold spotsL
      rw [if_neg hl]
      cases hs : spotsAt a 0 with
      | none => exact absurd hs hn
      | some l => exact parse_of a _ 0 l (Nat.le_refl _) (Nat.zero_le _) hs
theorem spotsAt_parse (a : List Int) : ∀ (l : List Spot) (i : Nat), Parse a i l → spotsAt a i = some l := by
  intro l
  induction l with
  | nil => intro i h; exact spotsAt_end (by have : i = a.length := h; omega)
  | cons s l ih =>
    rintro i ⟨h1, h2, rfl, h4, h5⟩
    rw [spotsAt_step h1 h2 h4, ih _ h5]
    rfl
theorem spotsL_bad {a : List Int} (h : spotsE a ≠ 0) : spotsL a = [] := by
  unfold spotsE at h
  unfold spotsL
  split
  · rfl
  · rename_i hl
    rw [if_neg hl] at h
    split at h
    · rename_i hn; rw [hn]; rfl
    · exact absurd rfl h
theorem spotsC_length (l : List Spot) : (spotsC l).length = l.length * 5 := flat_length spotC 5 (fun _ => rfl) l
theorem spotsC_snoc (l : List Spot) (s : Spot) : spotsC (l ++ [s]) = spotsC l ++ spotC s := by simp [spotsC]
theorem Reads.elem {α : Type} {f : α → List Value} {k : Nat} {w : World} {B : Nat} {A : Option Addr} {n j : Nat} {l : List α} (hf : ∀ a, (f a).length = k) (h : Reads w B k A n (l.flatMap f)) (hk0 : 0 < k) (hj : j < n) :
    ∃ ad s, A = some ad ∧ ad.block < B ∧ l[j]? = some s ∧ w.cell? (ad.add (j * k)) = (f s)[0]? ∧ ∀ i, 0 < i → i < k → w.cell? ⟨(ad.add (j * k)).block, (ad.add (j * k)).off + i, none⟩ = (f s)[i]? := by
  have hn : l.length = n := by
    have := h.1; rw [flat_length f k hf] at this
    exact Nat.eq_of_mul_eq_mul_right hk0 this
  obtain ⟨ad, e, hb, hc⟩ := h.2 (by omega)
  refine ⟨ad, l[j], e, hb, List.getElem?_eq_getElem (by omega), ?_, fun i h0 hi => ?_⟩
  · have h1 := flat_at f k hf l j 0 (by omega) hk0
    have hl : 0 < (f (l[j]'(by omega))).length := by rw [hf]; exact hk0
    rw [List.getElem?_eq_getElem hl] at h1 ⊢
    have := hc (j * k) _ h1
    exact this
  · have h1 := flat_at f k hf l j i (by omega) hi
    have hl : i < (f (l[j]'(by omega))).length := by rw [hf]; exact hi
    rw [List.getElem?_eq_getElem hl] at h1 ⊢
    have h2 := hc (j * k + i) _ h1
    rw [← add_of_add, addr_add_pos _ _ h0] at h2
    exact h2
theorem parse_length (a : List Int) : ∀ (l : List Spot) (i : Nat), Parse a i l → i + l.length ≤ a.length := by
  intro l
  induction l with
  | nil => intro i h; have : i = a.length := h; simp; omega
  | cons s l ih =>
    rintro i ⟨h1, h2, rfl, h4, h5⟩
    have := ih _ h5
    have := hlen_pos h2
    simp only [List.length_cons]
    omega
theorem spotsL_length (a : List Int) : (spotsL a).length ≤ 256 := by
  by_cases h : spotsE a = 0
  · have := parse_length a _ _ (parse_ok h).2
    have := (parse_ok h).1
    omega
  · rw [spotsL_bad h]; simp
theorem Reads.spot {w : World} {B : Nat} {A : Option Addr} {n j : Nat} {l : List Spot} (h : Reads w B 5 A n (spotsC l)) (hj : j < n) :
    ∃ ad s, A = some ad ∧ ad.block < B ∧ l[j]? = some s ∧ w.cell? (ad.add (j * 5)) = some (.int .i64 s.loc) ∧
      w.cell? ⟨(ad.add (j * 5)).block, (ad.add (j * 5)).off + 1, none⟩ = some (.int .i64 s.r) ∧ w.cell? ⟨(ad.add (j * 5)).block, (ad.add (j * 5)).off + 2, none⟩ = some (.int .i64 s.b) ∧
      w.cell? ⟨(ad.add (j * 5)).block, (ad.add (j * 5)).off + 3, none⟩ = some (.int .i64 s.t) ∧ w.cell? ⟨(ad.add (j * 5)).block, (ad.add (j * 5)).off + 4, none⟩ = some (.bool s.f) := by
  obtain ⟨ad, s, e, hb, hs, c0, cs⟩ := Reads.elem (f := spotC) (k := 5) (fun _ => rfl) h (by decide) hj
  exact ⟨ad, s, e, hb, hs, c0, cs 1 (by decide) (by decide), cs 2 (by decide) (by decide), cs 3 (by decide) (by decide), cs 4 (by decide) (by decide)⟩
theorem drop_of_get {α : Type} {l : List α} {j : Nat} {s : α} (h : l[j]? = some s) : l.drop j = s :: l.drop (j + 1) := by
  obtain ⟨h1, rfl⟩ := List.getElem?_eq_some_iff.1 h
  exact List.drop_eq_getElem_cons h1
end Go.Proofs.YtbmkbnalembbjaaGreatDoor

namespace Go.Proofs.YtbmkbnalembbjaaGreatDoor
open Go.RowKit Go.Maps
def upd (f : Int → Option Value) (x : Int) (v : Value) : Int → Option Value := fun y => if y = x then some v else f y
def MapIs (w : World) (P : Program) (k : TypeId) (q : IntKind) (b n : Nat) (f : Int → Option Value) : Prop :=
  ∃ D : DataW Value, w.ownsMap P k (fun v => some (.held v, [])) b n D ∧ ∀ x, (Lit.int q x).wf = true → Maps.has D (.int q x) = (f x).isSome ∧ ∀ z, D.atKey (.int q x) (.held z) = .held ((f x).getD z)
section
variable {w : World} {P : Program} {k t e : TypeId} {q : IntKind} {b n : Nat} {f : Int → Option Value}
theorem MapIs.made (w : World) (P : Program) (k : TypeId) (q : IntKind) : MapIs (w.alloc (.map #[] 0)) P k q w.heap.size 0 (fun _ => none) :=
  ⟨.map [], World.ownsMap_made w P k _, fun _ _ => ⟨rfl, fun _ => rfl⟩⟩
theorem MapIs.lt (h : MapIs w P k q b n f) : b < w.heap.size := by obtain ⟨D, h, _⟩ := h; exact h.lt
theorem MapIs.mono (h : MapIs w P k q b n f) {n' : Nat} (hn : n ≤ n') : MapIs w P k q b n' f := by obtain ⟨D, h, h2⟩ := h; exact ⟨D, h.mono hn, h2⟩
theorem MapIs.kept {w' : World} {row : Option Nat} (h : MapIs w P k q b n f) (hg : w.grownBy w' row) (hne : some b ≠ row) : MapIs w' P k q b n f := by obtain ⟨D, h, h2⟩ := h; exact ⟨D, h.kept hg hne, h2⟩
theorem MapIs.alloc (h : MapIs w P k q b n f) (o : Obj) : MapIs (w.alloc o) P k q b n f := by obtain ⟨D, h, h2⟩ := h; exact ⟨D, h.alloc o, h2⟩
theorem MapIs.drew (h : MapIs w P k q b n f) : MapIs w.drew P k q b n f := h
theorem MapIs.drewN (h : MapIs w P k q b n f) (j : Nat) : MapIs (w.drewN j) P k q b n f := h
theorem MapIs.setCell (h : MapIs w P k q b n f) {a : Addr} (ha : b ≠ a.block) (u : Value) : MapIs (w.setCell a u) P k q b n f := by obtain ⟨D, h, h2⟩ := h; exact ⟨D, h.setCell ha u, h2⟩
theorem MapIs.below {B : Nat} {w' : World} (h : MapIs w P k q b n f) (hb : Below B w w') (hB : b < B) : MapIs w' P k q b n f := by
  obtain ⟨D, ⟨es, clock, h1, h2⟩, h3⟩ := h
  exact ⟨D, ⟨es, clock, (hb.block b hB).trans h1, h2⟩, h3⟩
theorem MapIs.congr (h : MapIs w P k q b n f) {g : Int → Option Value} (hg : ∀ x, (Lit.int q x).wf = true → f x = g x) : MapIs w P k q b n g := by
  obtain ⟨D, h1, h2⟩ := h
  exact ⟨D, h1, fun x hx => by rw [← hg x hx]; exact h2 x hx⟩
theorem MapIs.look (h : MapIs w P k q b n f) (hk : P.underlying k = some (.int q)) (ht : P.underlying t = some (.map k e)) {z : Value} (hz : (zeroValue e).run P w = .ok z w) {x : Int} (hx : (Lit.int q x).wf = true) :
    (Instr.lookup t (.map (some b)) (.int q x) false).run P w = .ok ((f x).getD z) w := by
  obtain ⟨D, h1, h2⟩ := h
  obtain ⟨v, ps, hrun, hv⟩ := h1.lookup (int_keyed hk) ht hz rfl (keyOf_int_mk hk hx)
  rw [(h2 x hx).2 z] at hv
  simp only [Option.some.injEq, Prod.mk.injEq, DataW.held.injEq] at hv
  rw [hrun, hv.1]
theorem MapIs.look_ok (h : MapIs w P k q b n f) (hk : P.underlying k = some (.int q)) (ht : P.underlying t = some (.map k e)) {z : Value} (hz : (zeroValue e).run P w = .ok z w) {x : Int} (hx : (Lit.int q x).wf = true) :
    (Instr.lookup t (.map (some b)) (.int q x) true).run P w = .ok (.tuple #[(f x).getD z, .bool (f x).isSome]) w := by
  obtain ⟨D, h1, h2⟩ := h
  obtain ⟨v, ps, hrun, hv⟩ := h1.look_ok (int_keyed hk) ht hz rfl (keyOf_int_mk hk hx)
  rw [(h2 x hx).2 z] at hv
  simp only [Option.some.injEq, Prod.mk.injEq, DataW.held.injEq] at hv
  rw [hrun, hv.1, (h2 x hx).1]
theorem MapIs.store (h : MapIs w P k q b n f) (hk : P.underlying k = some (.int q)) (ht : P.underlying t = some (.map k e)) (hn : n < maxLen) {x : Int} (hx : (Lit.int q x).wf = true) (v : Value) :
    ∃ w', (Instr.mapUpdate t (.map (some b)) (.int q x) v).run P w = .ok () w' ∧ MapIs w' P k q b (n + 1) (upd f x v) ∧ w.grownBy w' (some b) := by
  obtain ⟨D, h1, h2⟩ := h
  obtain ⟨w', hrun, h3, hg⟩ := h1.update (int_keyed hk) ht hn (keyOf_int_mk hk hx) (val := v) rfl
  have hm := h1.isMap
  have hkl : WideAt.IsKeyLit (.int q x) := (int_keyed hk).key (keyOf_int_mk hk hx)
  refine ⟨w', hrun, ⟨_, h3, fun y hy => ?_⟩, hg⟩
  by_cases hyx : y = x
  · subst hyx
    refine ⟨?_, fun z => ?_⟩
    · rw [has_put_same hm hkl]; simp [upd]
    · rw [atKey_put_same hm hkl]; simp [upd]
  · have hne : (Lit.int q y) ≠ .int q x := fun e => hyx (by injection e)
    refine ⟨?_, fun z => ?_⟩
    · rw [has_put_other hne, (h2 y hy).1]; simp [upd, hyx]
    · rw [atKey_put_other hne, (h2 y hy).2 z]; simp [upd, hyx]
end
end Go.Proofs.YtbmkbnalembbjaaGreatDoor

namespace Go.Proofs.YtbmkbnalembbjaaGreatDoor
open Go.RowKit
structure SpotOk (a : List Int) (s : Spot) : Prop where
  loc0 : 0 ≤ s.loc
  r0 : 0 ≤ s.r
  b0 : 0 ≤ s.b
  t0 : 0 ≤ s.t
  t1 : s.t ≤ 65535
  fits : s.loc + s.long ≤ a.length
  free : s.f = true → s.r = 0 ∧ s.t = 0
  word : a[s.loc.toNat]? = some (wordOf s.r s.b s.t s.f)
  head : headE s.r s.b s.t s.f = 0
  fit256 : s.long ≤ 256
theorem readOk_word {v : Int} (h : readOk v) : wordOf (rdR v) (rdB v) (rdT v) (rdF v) = v := by
  obtain ⟨hz, hE⟩ := h
  unfold wordOf rdF
  have h2 : v / 281474976710656 % 2 = v / 281474976710656 := by omega
  have h3 : v / 281474976710656 = 0 ∨ v / 281474976710656 = 1 := by omega
  unfold rdR rdB rdT
  rcases h3 with h3 | h3
  · rw [h3]; simp; omega
  · rw [h3]; simp; omega
theorem spotOk_of {a : List Int} {j : Nat} (h : j < a.length) (h1 : readOk (a.getD j 0)) (h2 : j + hlen (a.getD j 0) ≤ a.length) : SpotOk a (spotOf j (a.getD j 0)) := by
  have hE := headE_ok.1 h1.2
  have hl : hlen (a.getD j 0) = 1 + rdR (a.getD j 0) + rdB (a.getD j 0) := by unfold hlen; omega
  refine ⟨?_, hE.1, hE.2.2.1, hE.2.2.2.2.1, hE.2.2.2.2.2.1, ?_, hE.2.2.2.2.2.2.2, ?_, h1.2, ?_⟩
  · simp [spotOf]
  · simp only [spotOf, Spot.long]; omega
  · simp only [spotOf, Int.toNat_natCast]
    rw [readOk_word h1, List.getElem?_eq_getElem h]
    simp [h]
  · simp only [spotOf, Spot.long]; omega
theorem parse_mem {a : List Int} : ∀ {l : List Spot} {i : Nat}, Parse a i l → ∀ s ∈ l, SpotOk a s ∧ (i : Int) ≤ s.loc := by
  intro l
  induction l with
  | nil => intro i _ s hs; cases hs
  | cons x l ih =>
    rintro i ⟨h1, h2, rfl, h4, h5⟩ s hs
    rcases List.mem_cons.1 hs with rfl | hs
    · exact ⟨spotOk_of h1 h2 h4, by simp [spotOf]⟩
    · have := ih h5 s hs
      have := hlen_pos h2
      exact ⟨(ih h5 s hs).1, by omega⟩
theorem parse_order {a : List Int} : ∀ {l : List Spot} {i : Nat}, Parse a i l → l.Pairwise (fun s t => s.loc + s.long ≤ t.loc) := by
  intro l
  induction l with
  | nil => intro i _; exact List.Pairwise.nil
  | cons x l ih =>
    rintro i ⟨h1, h2, rfl, h4, h5⟩
    refine List.pairwise_cons.2 ⟨fun s hs => ?_, ih h5⟩
    have hE := headE_ok.1 h2.2
    have := (parse_mem h5 s hs).2
    have hl : hlen (a.getD i 0) = 1 + rdR (a.getD i 0) + rdB (a.getD i 0) := by unfold hlen; omega
    simp only [spotOf, Spot.long]
    omega
theorem spots_rise {a : List Int} (h : spotsE a = 0) : (spotsL a).Pairwise (fun s t => s.loc < t.loc) := by
  have hp := (parse_ok h).2
  refine (parse_order hp).imp_of_mem (fun {s t} hs _ hst => ?_)
  have := (parse_mem hp s hs).1
  have := this.r0
  have := (parse_mem hp s hs).1.b0
  unfold Spot.long at hst
  omega
def isPlace (v : Int) (s : Spot) : Bool := !s.f && (s.loc + 1 == v)
def placeF (l : List Spot) (v : Int) : Option Int := if v = 0 then some (-1) else (l.findIdx? (isPlace v)).map (fun (i : Nat) => (i : Int))
def placeV (l : List Spot) : Int → Option Value := fun v => (placeF l v).map (.int .i64)
theorem placeV_nil : placeV [] = upd (fun _ => none) 0 (.int .i64 (-1)) := by
  funext v
  simp only [placeV, placeF, upd]
  by_cases h : v = 0 <;> simp [h]
theorem placeV_free {l : List Spot} {s : Spot} (h : s.f = true) : placeV (l ++ [s]) = placeV l := by
  funext v
  simp only [placeV, placeF]
  by_cases hv : v = 0
  · simp [hv]
  · rw [if_neg hv, if_neg hv, List.findIdx?_append]
    have : List.findIdx? (isPlace v) [s] = none := by
      rw [List.findIdx?_eq_none_iff]
      intro x hx
      obtain rfl := List.mem_singleton.1 hx
      simp [isPlace, h]
    rw [this]
    simp
theorem placeV_snoc {l : List Spot} {s : Spot} (h : s.f = false) (h0 : 0 ≤ s.loc) (hl : ∀ x ∈ l, x.loc < s.loc) : placeV (l ++ [s]) = upd (placeV l) (s.loc + 1) (.int .i64 l.length) := by
  funext v
  simp only [placeV, placeF, upd]
  by_cases hv : v = 0
  · rw [if_pos hv, if_pos hv, if_neg (by omega)]
  · rw [if_neg hv, if_neg hv, List.findIdx?_append]
    by_cases hs : v = s.loc + 1
    · rw [if_pos hs]
      have h1 : l.findIdx? (isPlace v) = none := by
        rw [List.findIdx?_eq_none_iff]
        intro x hx
        have := hl x hx
        simp [isPlace]
        omega
      have h2 : List.findIdx? (isPlace v) [s] = some 0 := by
        simp [List.findIdx?_cons, isPlace, h, hs]
      rw [h1, h2]
      simp
    · rw [if_neg hs]
      have h2 : List.findIdx? (isPlace v) [s] = none := by
        rw [List.findIdx?_eq_none_iff]
        intro x hx
        obtain rfl := List.mem_singleton.1 hx
        simp [isPlace]
        omega
      rw [h2]
      simp
def refsOf (a : List Int) (s : Spot) : List Int := (a.drop (s.loc.toNat + 1)).take s.r.toNat
def bodyOf (a : List Int) (s : Spot) : List Int := (a.drop (s.loc.toNat + 1 + s.r.toNat)).take s.b.toNat
def refsOk (l : List Spot) (a : List Int) : Bool := l.all fun s => (refsOf a s).all fun v => (placeF l v).isSome
def checkE (a : List Int) : Int := if spotsE a ≠ 0 then spotsE a else if refsOk (spotsL a) a = true then 0 else 5
theorem checkE_ok {a : List Int} : checkE a = 0 ↔ spotsE a = 0 ∧ refsOk (spotsL a) a = true := by
  unfold checkE
  split
  · rename_i h; exact ⟨fun h2 => absurd h2 h, fun h2 => absurd h2.1 h⟩
  · rename_i h
    split
    · rename_i h2; exact ⟨fun _ => ⟨by simpa using h, h2⟩, fun _ => rfl⟩
    · rename_i h2; exact ⟨(fun h3 => by cases h3), fun h3 => absurd h3.2 h2⟩
theorem refsOf_length {a : List Int} {s : Spot} (h : SpotOk a s) : (refsOf a s).length = s.r.toNat := by
  have h1 := h.loc0
  have h2 := h.r0
  have h3 := h.b0
  have h4 := h.fits
  unfold Spot.long at h4
  unfold refsOf
  rw [List.length_take, List.length_drop]
  omega
theorem bodyOf_length {a : List Int} {s : Spot} (h : SpotOk a s) : (bodyOf a s).length = s.b.toNat := by
  have h1 := h.loc0
  have h2 := h.r0
  have h3 := h.b0
  have h4 := h.fits
  unfold Spot.long at h4
  unfold bodyOf
  rw [List.length_take, List.length_drop]
  omega
theorem Reads.sub {w : World} {B : Nat} {A : Option Addr} {n c lo hi : Nat} {xs : List Value} (h : Reads w B 1 A n xs) (h1 : lo ≤ hi) (h2 : hi ≤ n) (h3 : n ≤ c) :
    Reads w B 1 (if c = lo then A else A.map (·.add lo)) (hi - lo) ((xs.drop lo).take (hi - lo)) := by
  have hc := h.cut (k := lo) (cap := c) (by omega) h3
  rw [Nat.mul_one] at hc
  refine ⟨by rw [List.length_take, List.length_drop, h.1]; omega, fun hk0 => ?_⟩
  obtain ⟨ad, e, hb, hcell⟩ := hc.2 (by omega)
  refine ⟨ad, e, hb, fun j u hu => hcell j u ?_⟩
  rw [List.getElem?_take] at hu
  split at hu
  · exact hu
  · cases hu
end Go.Proofs.YtbmkbnalembbjaaGreatDoor

namespace Go.Proofs.YtbmkbnalembbjaaGreatDoor
open Go.RowKit
structure Rn where
  loc : Int
  len : Int
deriving DecidableEq
def runC (r : Rn) : List Value := [.int .i64 r.loc, .int .i64 r.len]
def runsC (l : List Rn) : List Value := l.flatMap runC
theorem runsC_length (l : List Rn) : (runsC l).length = l.length * 2 := flat_length runC 2 (fun _ => rfl) l
theorem runsC_one (l : List Rn) : ∀ u ∈ runsC l, u.oneCell' = true := by
  intro u hu
  obtain ⟨s, _, hs⟩ := List.mem_flatMap.1 hu
  simp only [runC, List.mem_cons, List.not_mem_nil, or_false] at hs
  rcases hs with rfl | rfl <;> rfl
theorem runsC_snoc (l : List Rn) (s : Rn) : runsC (l ++ [s]) = runsC l ++ runC s := by simp [runsC]
theorem Reads.run {w : World} {B : Nat} {A : Option Addr} {n j : Nat} {l : List Rn} (h : Reads w B 2 A n (runsC l)) (hj : j < n) :
    ∃ ad s, A = some ad ∧ ad.block < B ∧ l[j]? = some s ∧ w.cell? (ad.add (j * 2)) = some (.int .i64 s.loc) ∧
      w.cell? ⟨(ad.add (j * 2)).block, (ad.add (j * 2)).off + 1, none⟩ = some (.int .i64 s.len) := by
  obtain ⟨ad, s, e, hb, hs, c0, cs⟩ := Reads.elem (f := runC) (k := 2) (fun _ => rfl) h (by decide) hj
  exact ⟨ad, s, e, hb, hs, c0, cs 1 (by decide) (by decide)⟩
def badRun (r : Rn) : Bool := decide (r.loc < 0) || decide (r.len < 1)
def fitIx (n : Int) : Nat → List Rn → List Int
  | _, [] => []
  | i, r :: l => if n ≤ r.len then (i : Int) :: fitIx n (i + 1) l else fitIx n (i + 1) l
def fitsE (l : List Rn) (n : Int) : Int := if n < 1 then 1 else if l.any badRun = true then 4 else if fitIx n 0 l = [] then 7 else 0
theorem fitIx_snoc (n : Int) (l : List Rn) (r : Rn) (i : Nat) : fitIx n i (l ++ [r]) = fitIx n i l ++ (if n ≤ r.len then [((i + l.length : Nat) : Int)] else []) := by
  induction l generalizing i with
  | nil => simp only [List.nil_append, fitIx, List.length_nil, Nat.add_zero]
  | cons a l ih =>
    simp only [List.cons_append, fitIx, ih, List.length_cons]
    rw [show i + 1 + l.length = i + (l.length + 1) by omega]
    split <;> simp
theorem fitIx_mem {n : Int} {l : List Rn} {i : Nat} {x : Int} : x ∈ fitIx n i l ↔ ∃ (j : Nat) (r : Rn), l[j]? = some r ∧ n ≤ r.len ∧ x = ((i + j : Nat) : Int) := by
  induction l generalizing i with
  | nil => simp [fitIx]
  | cons a l ih =>
    simp only [fitIx]
    constructor
    · intro h
      split at h
      · rename_i ha
        rcases List.mem_cons.1 h with rfl | h
        · exact ⟨0, a, rfl, ha, rfl⟩
        · obtain ⟨j, r, h1, h2, h3⟩ := ih.1 h
          exact ⟨j + 1, r, h1, h2, by rw [h3]; omega⟩
      · obtain ⟨j, r, h1, h2, h3⟩ := ih.1 h
        exact ⟨j + 1, r, h1, h2, by rw [h3]; omega⟩
    · rintro ⟨j, r, h1, h2, rfl⟩
      cases j with
      | zero =>
        obtain rfl : a = r := by simpa using h1
        rw [if_pos h2]
        exact List.mem_cons_self
      | succ j =>
        have hm : ((i + (j + 1) : Nat) : Int) ∈ fitIx n (i + 1) l := ih.2 ⟨j, r, by simpa using h1, h2, by omega⟩
        split
        · exact List.mem_cons_of_mem _ hm
        · exact hm
theorem fitsE_ok {l : List Rn} {n : Int} : fitsE l n = 0 ↔ 1 ≤ n ∧ l.any badRun = false ∧ fitIx n 0 l ≠ [] := by
  unfold fitsE
  split
  · constructor
    · intro h; cases h
    · omega
  · split
    · rename_i h; constructor
      · intro h; cases h
      · rintro ⟨_, h2, _⟩; rw [h] at h2; cases h2
    · rename_i h
      split
      · rename_i h3; constructor
        · intro h; cases h
        · rintro ⟨_, _, h4⟩; exact absurd h3 h4
      · rename_i h3; exact ⟨fun _ => ⟨by omega, by simpa using h, h3⟩, fun _ => rfl⟩
def bump (acc : List Rn) (n : Int) : List Rn := acc.dropLast ++ (match acc.getLast? with | some r => [⟨r.loc, r.len + n⟩] | none => [])
def gapsA (acc : List Rn) (prev : Bool) : List Spot → List Rn
  | [] => acc
  | s :: l => if s.f = false then gapsA acc false l else if prev = true then gapsA (bump acc s.long) true l else gapsA (acc ++ [⟨s.loc, s.long⟩]) true l
def gapsL (l : List Spot) : List Rn := gapsA [] false l
theorem bump_snoc (acc : List Rn) (r : Rn) (n : Int) : bump (acc ++ [r]) n = acc ++ [⟨r.loc, r.len + n⟩] := by simp [bump]
theorem bump_length {acc : List Rn} (n : Int) : (bump acc n).length = acc.length := by
  rcases List.eq_nil_or_concat acc with rfl | ⟨l, r, rfl⟩
  · rfl
  · rw [List.concat_eq_append, bump_snoc]; simp
theorem gapsA_length (acc : List Rn) (prev : Bool) (l : List Spot) : (gapsA acc prev l).length ≤ acc.length + l.length := by
  induction l generalizing acc prev with
  | nil => simp [gapsA]
  | cons s l ih =>
    simp only [gapsA, List.length_cons]
    split
    · have := ih acc false; omega
    · split
      · have := ih (bump acc s.long) true; rw [bump_length] at this; omega
      · have := ih (acc ++ [⟨s.loc, s.long⟩]) true; simp only [List.length_append, List.length_cons, List.length_nil] at this; omega
theorem runsC_bump (acc : List Rn) (l n x : Int) : (runsC (acc ++ [⟨l, n⟩])).set (acc.length * 2 + 1) (.int .i64 x) = runsC (acc ++ [⟨l, x⟩]) := by
  rw [runsC_snoc, runsC_snoc, List.set_append_right _ _ (by rw [runsC_length]; omega), runsC_length, show acc.length * 2 + 1 - acc.length * 2 = 1 by omega]
  rfl
theorem runsC_last (acc : List Rn) (l n : Int) : (runsC (acc ++ [⟨l, n⟩]))[acc.length * 2 + 1]? = some (.int .i64 n) := by
  rw [runsC_snoc, List.getElem?_append_right (by rw [runsC_length]; omega), runsC_length, show acc.length * 2 + 1 - acc.length * 2 = 1 by omega]
  rfl
end Go.Proofs.YtbmkbnalembbjaaGreatDoor

namespace Go.Proofs.YtbmkbnalembbjaaGreatDoor
open Go.RowKit
def pinBad (x : Rn) : Bool := !(decide (0 ≤ x.loc) && decide (x.loc < 256)) || decide (x.len < 1) || decide (1000000 < x.len)
def pinGo : Option Int → List Rn → Int
  | _, [] => 0
  | pv, x :: t => if pinBad x = true then 4 else if pv.any (fun p => decide (x.loc ≤ p)) = true then 3 else pinGo (some x.loc) t
def pinE (l : List Rn) : Int := if 16 < l.length then 2 else pinGo none l
structure PinsOk (l : List Rn) : Prop where
  len : l.length ≤ 16
  ok : ∀ x ∈ l, pinBad x = false
  rise : l.Pairwise (fun x y => x.loc < y.loc)
theorem pinGo_ok : ∀ (pv : Option Int) (l : List Rn), pinGo pv l = 0 ↔ (∀ x ∈ l, pinBad x = false) ∧ l.Pairwise (fun x y => x.loc < y.loc) ∧ ∀ p, pv = some p → ∀ x ∈ l, p < x.loc
  | pv, [] => by simp [pinGo]
  | pv, x :: t => by
    have ih := pinGo_ok (some x.loc) t
    unfold pinGo
    by_cases h1 : pinBad x = true
    · rw [if_pos h1]
      simp only [List.mem_cons, forall_eq_or_imp, h1]
      simp
    · rw [if_neg h1]
      have h1' : pinBad x = false := by simpa using h1
      by_cases h2 : pv.any (fun p => decide (x.loc ≤ p)) = true
      · rw [if_pos h2]
        refine ⟨fun h => (by cases h), fun ⟨_, _, h⟩ => ?_⟩
        cases pv with
        | none => simp at h2
        | some p =>
          have := h p rfl x List.mem_cons_self
          simp only [Option.any_some, decide_eq_true_eq] at h2
          omega
      · rw [if_neg h2, ih]
        constructor
        · rintro ⟨a1, a2, a3⟩
          refine ⟨fun y hy => ?_, List.pairwise_cons.2 ⟨fun y hy => a3 _ rfl y hy, a2⟩, fun p hp y hy => ?_⟩
          · rcases List.mem_cons.1 hy with rfl | hy
            · exact h1'
            · exact a1 y hy
          · subst hp
            simp only [Option.any_some, decide_eq_true_eq] at h2
            rcases List.mem_cons.1 hy with rfl | hy
            · omega
            · have := a3 _ rfl y hy; omega
        · rintro ⟨a1, a2, a3⟩
          exact ⟨fun y hy => a1 y (List.mem_cons_of_mem _ hy), (List.pairwise_cons.1 a2).2, fun p hp y hy => by injection hp with hp; subst hp; exact (List.pairwise_cons.1 a2).1 y hy⟩
theorem pinE_ok {l : List Rn} : pinE l = 0 ↔ PinsOk l := by
  unfold pinE
  by_cases h : 16 < l.length
  · rw [if_pos h]
    exact ⟨fun h => (by cases h), fun hk => by have := hk.len; omega⟩
  · rw [if_neg h, pinGo_ok]
    exact ⟨fun ⟨a, b, _⟩ => ⟨by omega, a, b⟩, fun ⟨_, a, b⟩ => ⟨a, b, by simp⟩⟩
def thereB (x : Int) : Bool := decide (0 ≤ x) && decide (x < 256)
set_option maxHeartbeats 400000 in
theorem pthere_any (x : Int) (w : World) : Calls Tryz.prog 88 #[.int .i64 x] w fun e w' => e = .returned (.bool (thereB x)) ∧ w' = w := by
  unfold thereB
  by_cases h0 : 0 ≤ x
  · have g0 : decide (0 ≤ x) = true := decide_eq_true h0
    have g0' : decide (x ≥ 0) = true := decide_eq_true h0
    rw [g0]
    go_enter Tryz.func88, Tryz.ntmps88
    go_wp2
    go_ret
    exact ⟨by first | rfl | simp, rfl⟩
  · have g0 : decide (0 ≤ x) = false := decide_eq_false h0
    have g0' : decide (x ≥ 0) = false := decide_eq_false h0
    rw [g0]
    go_enter Tryz.func88, Tryz.ntmps88
    go_wp2
    go_ret
    exact ⟨by first | rfl | simp, rfl⟩
set_option maxRecDepth 100000 in
set_option maxHeartbeats 2000000 in
theorem pcheck_any (A : Option Addr) (n c : Nat) (l : List Rn) (w : World) (hr : Reads w w.heap.size 2 A n (runsC l)) (hn : n ≤ 9223372036854775807) :
    Calls Tryz.prog 55 #[.slice A n c] w fun e w' => e = .returned (.int .i64 (pinE l)) ∧ Below w.heap.size w w' := by
  have hl : l.length = n := by have := hr.1; rw [runsC_length] at this; omega
  by_cases hbig : 16 < n
  · have e : pinE l = 2 := by unfold pinE; rw [if_pos (by omega)]
    have g1 : decide (16 < n) = true := decide_eq_true hbig
    have g1' : decide ((16 : Int) < (n : Int)) = true := decide_eq_true (by omega)
    rw [e]
    clear hl e
    go_enter Tryz.func55, Tryz.ntmps55
    go_wp2
    go_ret
    exact ⟨rfl, Below.refl _ _⟩
  · have g1 : decide (16 < n) = false := decide_eq_false hbig
    have g1' : decide ((16 : Int) < (n : Int)) = false := decide_eq_false (by omega)
    have HE : Hid (pinE l = pinGo none l) := by show _ = _; unfold pinE; rw [if_neg (by omega)]
    have HL := Lib.hid hl
    have HT := Lib.hid pthere_any
    clear hl
    go_enter Tryz.func55, Tryz.ntmps55
    go_wp2
    go_loopw [10] (fun i wr => ∃ (j : Nat) (pv : Option Int), j ≤ n ∧ i = .int .i64 j ∧ Hid (pinGo none l = pinGo pv (l.drop j)) ∧ Hid (pv = if j = 0 then none else (l[j - 1]?).map (·.loc)) ∧ Below w.heap.size w wr) (fun i _ => n - (intOf i).toNat)
    case atStart => exact ⟨0, none, Nat.zero_le _, rfl, rfl, rfl, Below.refl _ _⟩
    case round =>
      obtain ⟨j, pv, hj, rfl, HG, HP, hb⟩ := hrel
      by_cases hlt : j < n
      · obtain ⟨ad, x, rfl, had, hx, c0, c1⟩ := (hr.below hb).run hlt
        have hd : l.drop j = x :: l.drop (j + 1) := by
          obtain ⟨q1, q2⟩ := List.getElem?_eq_some_iff.1 hx
          rw [List.drop_eq_getElem_cons q1, q2]
        have hG := HG.out
        rw [hd, pinGo] at hG
        have hj1 : j + 1 ≤ n := hlt
        obtain ⟨loc, len⟩ := x
        dsimp only at c0 c1
        have hbx := hb.alloc hb.size (.cells #[.int .i64 loc, .int .i64 len] 57)
        have D0 := Blk.new wr 57 #[.int .i64 loc, .int .i64 len]
        have d0 := D0.cell 0
        have d1 := D0.cell 1
        simp only [List.getElem?_toArray, List.getElem?_cons_zero, List.getElem?_cons_succ] at d0 d1
        cases hth : thereB loc
        · have HT1 := Lib.hid (by have := HT.out loc (wr.alloc (.cells #[.int .i64 loc, .int .i64 len] 57)); rw [hth] at this; exact this)
          have HR : Hid (pinE l = 4) := by show _ = _; rw [HE.out, hG, if_pos (by unfold thereB at hth; simp [pinBad, hth])]
          clear hx hG hd hth
          go_wp2_with fail
          refine HT1.out.mono ?_
          rintro e w1 ⟨rfl, rfl⟩
          go_wp2
          go_ret
          exact ⟨by rw [HR.out]; rfl, hbx⟩
        · have HT1 := Lib.hid (by have := HT.out loc (wr.alloc (.cells #[.int .i64 loc, .int .i64 len] 57)); rw [hth] at this; exact this)
          by_cases h1 : len < 1
          · have z1 : decide (len < 1) = true := decide_eq_true h1
            have HR : Hid (pinE l = 4) := by show _ = _; rw [HE.out, hG, if_pos (by simp [pinBad, z1])]
            clear hx hG hd hth
            go_wp2_with fail
            refine HT1.out.mono ?_
            rintro e w1 ⟨rfl, rfl⟩
            go_wp2
            go_ret
            exact ⟨by rw [HR.out]; rfl, hbx⟩
          · have z1 : decide (len < 1) = false := decide_eq_false h1
            by_cases h2 : 1000000 < len
            · have z2 : decide (1000000 < len) = true := decide_eq_true h2
              have HR : Hid (pinE l = 4) := by show _ = _; rw [HE.out, hG, if_pos (by simp [pinBad, z2])]
              clear hx hG hd hth
              go_wp2_with fail
              refine HT1.out.mono ?_
              rintro e w1 ⟨rfl, rfl⟩
              go_wp2
              go_ret
              exact ⟨by rw [HR.out]; rfl, hbx⟩
            · have z2 : decide (1000000 < len) = false := decide_eq_false h2
              rw [if_neg (by unfold thereB at hth; simp [pinBad, z1, z2, hth])] at hG
              have HX := Lib.hid hx
              by_cases hj0 : j = 0
              · have hpv : pv = none := by have := HP.out; rw [if_pos hj0] at this; exact this
                subst hpv
                have z3 : decide ((0 : Int) < (j : Int)) = false := decide_eq_false (by omega)
                have z3' : decide (0 < j) = false := decide_eq_false (by omega)
                have HG2 : Hid (pinGo none l = pinGo (some loc) (l.drop (j + 1))) := by show _ = _; rw [hG]; simp
                have HP2 : Hid (some loc = if (j + 1 : Nat) = 0 then none else (l[j + 1 - 1]?).map (·.loc)) := by show _ = _; rw [if_neg (by omega), show (j + 1 - 1 : Nat) = j by omega, hx]; rfl
                clear hx hG hd hth hj0
                go_wp2_with fail
                refine HT1.out.mono ?_
                rintro e w1 ⟨rfl, rfl⟩
                go_wp2
                go_quiet (fail)
                go_wp2
                go_roundw
                case rel => exact ⟨j + 1, some loc, hj1, by go_num, HG2, HP2, below_drewN hbx _⟩
                case measure => simp [intOf]; omega
              · obtain ⟨k, rfl⟩ : ∃ k, j = k + 1 := ⟨j - 1, by omega⟩
                obtain ⟨ad2, y, e2, had2, hy, c2, c3⟩ := (hr.below hb).run (show k < n by omega)
                obtain rfl : ad = ad2 := by injection e2
                have hpv : pv = some y.loc := by have := HP.out; rw [if_neg (by omega), show k + 1 - 1 = k by omega, hy] at this; exact this
                subst hpv
                have wk : IntKind.i64.wrap ((k : Int) + 1 - 1) = k := by rw [show (k : Int) + 1 - 1 = k by omega]; exact IntWalk.i64_in _ (by omega)
                have wk2 : (k : Int) + 1 - 1 = k := by omega
                have wk3 : IntKind.i64.wrap (k : Int) = k := IntWalk.i64_in _ (by omega)
                have z3 : decide ((0 : Int) < (k : Int) + 1) = true := decide_eq_true (by omega)
                have z4 : (0 : Int) < (k : Int) + 1 := by omega
                have hkn : k < n := by omega
                have hkn' : (k : Int) < n := by omega
                have c2' := (hbx.cell (p := ad.add (k * 2)) (by unfold Addr.add; split <;> exact Nat.lt_of_lt_of_le had (Nat.le_refl _)))
                have e2' : (wr.alloc (.cells #[.int .i64 loc, .int .i64 len] 57)).cell? (ad.add (k * 2)) = some (.int .i64 y.loc) := by
                  rw [World.cell?_alloc_lt wr _ _ (by have := hb.size; unfold Addr.add; split <;> (first | omega | (dsimp only; omega)))]
                  exact c2
                obtain ⟨yl, yn⟩ := y
                try dsimp only at c2
                try dsimp only at c3
                try dsimp only at e2'
                try dsimp only at hG
                by_cases hge : loc ≤ yl
                · have z5 : decide (loc ≤ yl) = true := decide_eq_true hge
                  have HR : Hid (pinE l = 3) := by show _ = _; rw [HE.out, hG, if_pos (by simpa using hge)]
                  clear hx hG hd hth hy c2' HP
                  go_wp2_with fail
                  refine HT1.out.mono ?_
                  rintro e w1 ⟨rfl, rfl⟩
                  go_wp2
                  go_quiet (fail)
                  go_wp2
                  go_ret
                  exact ⟨by rw [HR.out]; rfl, below_drewN hbx _⟩
                · have z5 : decide (loc ≤ yl) = false := decide_eq_false hge
                  have HG2 : Hid (pinGo none l = pinGo (some loc) (l.drop (k + 1 + 1))) := by show _ = _; rw [hG, if_neg (by simpa using hge)]
                  have HP2 : Hid (some loc = if k + 1 + 1 = 0 then none else (l[k + 1 + 1 - 1]?).map (·.loc)) := by show _ = _; rw [if_neg (by omega), show k + 1 + 1 - 1 = k + 1 by omega, hx]; rfl
                  clear hx hG hd hth hy c2' HP
                  go_wp2_with fail
                  refine HT1.out.mono ?_
                  rintro e w1 ⟨rfl, rfl⟩
                  go_wp2
                  go_quiet (fail)
                  go_wp2
                  go_roundw
                  case rel => exact ⟨k + 1 + 1, some loc, hj1, by go_num, HG2, HP2, below_drewN hbx _⟩
                  case measure => simp [intOf]; omega
      · have hjn : j = n := by omega
        have HR : Hid (pinE l = 0) := by
          show _ = _
          rw [HE.out, HG.out, hjn, List.drop_of_length_le (by rw [HL.out]; exact Nat.le_refl _)]
          rfl
        have g0 : decide (j < n) = false := decide_eq_false hlt
        clear hjn HG HP
        go_wp2
        go_ret
        exact ⟨by rw [HR.out]; rfl, hb⟩
end Go.Proofs.YtbmkbnalembbjaaGreatDoor

namespace Go.Proofs.YtbmkbnalembbjaaGreatDoor
open Go.RowKit
def isBeg (x : Int) (s : Spot) : Bool := !s.f && (s.loc == x)
def begsL (S : List Spot) : List Int := (S.filter fun s => !s.f).map (·.loc)
def spotAt (S : List Spot) (x : Int) : Option Spot := S.find? (isBeg x)
def headC (s : Spot) : Value := .agg #[.int .i64 s.r, .int .i64 s.b, .int .i64 s.t, .bool s.f]
def headF (S : List Spot) : Int → Option Value := fun x => (spotAt S x).map headC
def linksL (a : List Int) (s : Spot) : List Int := ((refsOf a s).filter fun v => v != 0).map fun v => v - 1
def linksAt (a : List Int) (S : List Spot) (x : Int) : List Int := match spotAt S x with | some s => linksL a s | none => []
theorem spotAt_some {S : List Spot} {x : Int} {s : Spot} (h : spotAt S x = some s) : s ∈ S ∧ s.f = false ∧ s.loc = x := by
  have h1 := List.find?_some h
  have h2 := List.mem_of_find?_eq_some h
  simp only [isBeg, Bool.and_eq_true, Bool.not_eq_true', beq_iff_eq] at h1
  exact ⟨h2, h1.1, h1.2⟩
theorem begsL_iff {S : List Spot} {x : Int} : x ∈ begsL S ↔ ∃ s, spotAt S x = some s := by
  unfold begsL spotAt
  rw [List.mem_map]
  constructor
  · rintro ⟨s, hs, rfl⟩
    obtain ⟨h1, h2⟩ := List.mem_filter.1 hs
    cases h : S.find? (isBeg s.loc) with
    | some s' => exact ⟨s', rfl⟩
    | none =>
      have := List.find?_eq_none.1 h s h1
      simp only [isBeg, h2, beq_self_eq_true, Bool.and_self, not_true] at this
  · rintro ⟨s, hs⟩
    obtain ⟨h1, h2, h3⟩ := spotAt_some hs
    exact ⟨s, List.mem_filter.2 ⟨h1, by simp [h2]⟩, h3⟩
theorem headF_isSome {S : List Spot} {x : Int} : (headF S x).isSome = true ↔ x ∈ begsL S := by
  rw [begsL_iff]
  unfold headF
  cases spotAt S x <;> simp
theorem begsL_snoc (l : List Spot) (s : Spot) : begsL (l ++ [s]) = if s.f = true then begsL l else begsL l ++ [s.loc] := by
  unfold begsL
  rw [List.filter_append, List.map_append]
  cases h : s.f <;> simp [h]
theorem headF_free {l : List Spot} {s : Spot} (h : s.f = true) : headF (l ++ [s]) = headF l := by
  funext x
  unfold headF spotAt
  rw [List.find?_append]
  have : List.find? (isBeg x) [s] = none := by simp [isBeg, h]
  rw [this]
  simp
theorem headF_snoc {l : List Spot} {s : Spot} (h : s.f = false) (hl : ∀ x ∈ l, x.loc < s.loc) : headF (l ++ [s]) = upd (headF l) s.loc (headC s) := by
  funext x
  unfold headF spotAt upd
  rw [List.find?_append]
  by_cases hx : x = s.loc
  · subst hx
    have h1 : List.find? (isBeg s.loc) l = none := by
      rw [List.find?_eq_none]
      intro y hy
      have := hl y hy
      simp [isBeg]
      intro _
      omega
    rw [h1, if_pos rfl]
    simp [isBeg, h]
  · rw [if_neg hx]
    have h1 : List.find? (isBeg x) [s] = none := by simp [isBeg]; intro _; omega
    rw [h1]
    simp
theorem begsL_bounds {a : List Int} (h : spotsE a = 0) : ∀ x ∈ begsL (spotsL a), 0 ≤ x ∧ x < 256 := by
  intro x hx
  obtain ⟨s, hs⟩ := begsL_iff.1 hx
  obtain ⟨h1, -, rfl⟩ := spotAt_some hs
  obtain ⟨hlen, hp⟩ := parse_ok h
  have := (parse_mem hp s h1).1
  have e1 := this.loc0
  have e2 := this.fits
  have e3 := this.r0
  have e4 := this.b0
  unfold Spot.long at e2
  omega
theorem placeF_some {l : List Spot} {v : Int} (h : (placeF l v).isSome = true) : v = 0 ∨ v - 1 ∈ begsL l := by
  unfold placeF at h
  by_cases h0 : v = 0
  · exact .inl h0
  · rw [if_neg h0] at h
    right
    cases hf : l.findIdx? (isPlace v) with
    | none => rw [hf] at h; cases h
    | some i =>
      obtain ⟨h1, h2, -⟩ := List.findIdx?_eq_some_iff_getElem.1 hf
      unfold begsL
      refine List.mem_map.2 ⟨l[i], List.mem_filter.2 ⟨List.getElem_mem h1, ?_⟩, ?_⟩
      · simp only [isPlace, Bool.and_eq_true] at h2; exact h2.1
      · simp only [isPlace, Bool.and_eq_true, beq_iff_eq] at h2; omega
theorem links_begs {a : List Int} (h : checkE a = 0) {s : Spot} (hs : s ∈ spotsL a) : ∀ y ∈ linksL a s, y ∈ begsL (spotsL a) := by
  intro y hy
  obtain ⟨v, hv, rfl⟩ := List.mem_map.1 hy
  obtain ⟨h1, h2⟩ := List.mem_filter.1 hv
  have h3 := List.all_eq_true.1 (List.all_eq_true.1 (checkE_ok.1 h).2 s hs) v h1
  rcases placeF_some h3 with h4 | h4
  · simp [h4] at h2
  · exact h4
theorem linksAt_begs {a : List Int} (h : checkE a = 0) (x : Int) : ∀ y ∈ linksAt a (spotsL a) x, y ∈ begsL (spotsL a) := by
  intro y hy
  unfold linksAt at hy
  split at hy
  · rename_i s hs
    exact links_begs h (spotAt_some hs).1 y hy
  · cases hy
structure Reached (a : List Int) (S : List Spot) (from_ L : List Int) : Prop where
  begs : ∀ x ∈ L, x ∈ begsL S
  roots : ∀ x ∈ from_, x ∈ L
  closed : ∀ x ∈ L, ∀ y ∈ linksAt a S x, y ∈ L
  least : ∀ X : Int → Prop, (∀ x ∈ from_, X x) → (∀ x, X x → ∀ y ∈ linksAt a S x, X y) → ∀ x ∈ L, X x
  sorted : L.Pairwise (fun x y => x ≤ y)
  once : L.Nodup
theorem sorted_unique : ∀ {L L' : List Int}, L.Pairwise (fun x y => x ≤ y) → L.Nodup → L'.Pairwise (fun x y => x ≤ y) → L'.Nodup → (∀ x, x ∈ L ↔ x ∈ L') → L = L'
  | [], [], _, _, _, _, _ => rfl
  | [], y :: t, _, _, _, _, h => by have := (h y).2 List.mem_cons_self; cases this
  | x :: t, [], _, _, _, _, h => by have := (h x).1 List.mem_cons_self; cases this
  | x :: t, y :: t', h1, h2, h3, h4, h => by
    obtain ⟨a1, a2⟩ := List.pairwise_cons.1 h1
    obtain ⟨b1, b2⟩ := List.nodup_cons.1 h2
    obtain ⟨c1, c2⟩ := List.pairwise_cons.1 h3
    obtain ⟨d1, d2⟩ := List.nodup_cons.1 h4
    have hxy : x = y := by
      have e1 : x ≤ y := by
        rcases List.mem_cons.1 ((h y).2 List.mem_cons_self) with e | e
        · omega
        · exact a1 y e
      have e2 : y ≤ x := by
        rcases List.mem_cons.1 ((h x).1 List.mem_cons_self) with e | e
        · omega
        · exact c1 x e
      omega
    subst hxy
    rw [sorted_unique a2 b2 c2 d2 (fun z => by
      constructor
      · intro hz
        rcases List.mem_cons.1 ((h z).1 (List.mem_cons_of_mem _ hz)) with e | e
        · subst e; exact absurd hz b1
        · exact e
      · intro hz
        rcases List.mem_cons.1 ((h z).2 (List.mem_cons_of_mem _ hz)) with e | e
        · subst e; exact absurd hz d1
        · exact e)]
theorem Reached.unique {a : List Int} {S : List Spot} {f L L' : List Int} (h : Reached a S f L) (h' : Reached a S f L') : L = L' :=
  sorted_unique h.sorted h.once h'.sorted h'.once (fun x => ⟨fun hx => h.least (· ∈ L') h'.roots h'.closed x hx, fun hx => h'.least (· ∈ L) h.roots h.closed x hx⟩)
theorem nodup_bound : ∀ (n : Nat) (L : List Int), L.Nodup → (∀ x ∈ L, 0 ≤ x ∧ x < n) → L.length ≤ n
  | 0, [], _, _ => Nat.le_refl _
  | 0, x :: _, _, h => by have := h x List.mem_cons_self; omega
  | n + 1, L, hn, h => by
    have h1 := nodup_bound n (L.erase (n : Int)) (hn.erase _) (fun x hx => by
      have h2 := h x (List.mem_of_mem_erase hx)
      have h3 : x ≠ (n : Int) := fun e => by subst e; exact absurd hx (hn.not_mem_erase)
      omega)
    have h4 := List.length_erase (a := (n : Int)) (l := L)
    split at h4 <;> omega
structure Search (a : List Int) (S : List Spot) (from_ out : List Int) (i : Nat) : Prop where
  begs : ∀ x ∈ out, x ∈ begsL S
  once : out.Nodup
  least : ∀ X : Int → Prop, (∀ x ∈ from_, X x) → (∀ x, X x → ∀ y ∈ linksAt a S x, X y) → ∀ x ∈ out, X x
  seen : ∀ k x, k < i → out[k]? = some x → ∀ y ∈ linksAt a S x, y ∈ out
def addL (out : List Int) (x : Int) : List Int := if x ∈ out then out else out ++ [x]
theorem addL_sub (out : List Int) (x : Int) : (∀ y ∈ out, y ∈ addL out x) ∧ x ∈ addL out x := by
  unfold addL
  split
  · rename_i h; exact ⟨fun y hy => hy, h⟩
  · exact ⟨fun y hy => List.mem_append_left _ hy, by simp⟩
theorem addL_mem {out : List Int} {x y : Int} (h : y ∈ addL out x) : y ∈ out ∨ y = x := by
  unfold addL at h
  split at h
  · exact .inl h
  · simpa using h
theorem addL_get {out : List Int} {x y : Int} {k : Nat} (hk : k < out.length) (h : (addL out x)[k]? = some y) : out[k]? = some y := by
  unfold addL at h
  split at h
  · exact h
  · rwa [List.getElem?_append_left hk] at h
theorem addL_nodup {out : List Int} {x : Int} (h : out.Nodup) : (addL out x).Nodup := by
  unfold addL
  split
  · exact h
  · rename_i hx
    exact List.nodup_append.2 ⟨h, by simp, by rintro a ha b hb rfl; simp at hb; subst hb; exact hx ha⟩
theorem addL_len (out : List Int) (x : Int) : out.length ≤ (addL out x).length := by unfold addL; split <;> simp
theorem Search.nil (a : List Int) (S : List Spot) (f : List Int) : Search a S f [] 0 := ⟨by simp, by simp, by simp, by simp⟩
theorem Search.add {a : List Int} {S : List Spot} {f out : List Int} {i : Nat} (h : Search a S f out i) (hi : i ≤ out.length) {x : Int} (hx : x ∈ begsL S)
    (hl : ∀ X : Int → Prop, (∀ x ∈ f, X x) → (∀ x, X x → ∀ y ∈ linksAt a S x, X y) → X x) : Search a S f (addL out x) i := by
  obtain ⟨s1, s2⟩ := addL_sub out x
  refine ⟨fun y hy => ?_, addL_nodup h.once, fun X hX hc y hy => ?_, fun k y hk hy z hz => s1 z (h.seen k y hk (addL_get (by omega) hy) z hz)⟩
  · rcases addL_mem hy with h1 | rfl
    · exact h.begs y h1
    · exact hx
  · rcases addL_mem hy with h1 | rfl
    · exact h.least X hX hc y h1
    · exact hl X hX hc
theorem Search.len {a : List Int} {f out : List Int} {i : Nat} (h : Search a (spotsL a) f out i) (ha : spotsE a = 0) : out.length ≤ 256 :=
  nodup_bound 256 out h.once (fun x hx => begsL_bounds ha x (h.begs x hx))
end Go.Proofs.YtbmkbnalembbjaaGreatDoor

namespace Go.Proofs.YtbmkbnalembbjaaGreatDoor
open Go.RowKit
set_option maxHeartbeats 400000 in
theorem hlong_any (r b t : Int) (f : Bool) (w : World) (h : 0 ≤ r ∧ r ≤ 100000 ∧ 0 ≤ b ∧ b ≤ 100000) :
    Calls Tryz.prog 64 #[.agg #[.int .i64 r, .int .i64 b, .int .i64 t, .bool f]] w fun e w' => e = .returned (.int .i64 (1 + r + b)) ∧ Below w.heap.size w w' := by
  obtain ⟨h1, h2, h3, h4⟩ := h
  go_enter Tryz.func64, Tryz.ntmps64
  go_wp2
  go_ret
  exact ⟨rfl, below_new _ _⟩
set_option maxHeartbeats 1000000 in
theorem hcheck_any (r b t : Int) (f : Bool) (w : World) :
    Calls Tryz.prog 34 #[.agg #[.int .i64 r, .int .i64 b, .int .i64 t, .bool f]] w fun e w' => e = .returned (.int .i64 (headE r b t f)) ∧ Below w.heap.size w w' := by
  by_cases hr : r < 0 ∨ b < 0 ∨ t < 0 ∨ 256 < r ∨ 256 < b ∨ 65535 < t
  · have HE : Hid (headE r b t f = 4) := by show _ = _; unfold headE; rw [if_pos hr]
    go_enter Tryz.func34, Tryz.ntmps34
    go_wp2_with fail
    all_goals
      go_ret
      exact ⟨ret_int HE.out.symm, below_new _ _⟩
  · have g1 : 0 ≤ r := by omega
    have g2 : 0 ≤ b := by omega
    have g3 : 0 ≤ t := by omega
    have g4 : r ≤ 256 := by omega
    have g5 : b ≤ 256 := by omega
    have g6 : t ≤ 65535 := by omega
    by_cases hf : f = true ∧ (0 < r ∨ 0 < t)
    · have HE : Hid (headE r b t f = 3) := by show _ = _; unfold headE; rw [if_neg hr, if_pos hf]
      obtain ⟨rfl, hf⟩ := hf
      clear hr
      rcases hf with hf | hf
      all_goals
        go_enter Tryz.func34, Tryz.ntmps34
        go_wp2_with fail
        all_goals
          go_ret
          exact ⟨ret_int HE.out.symm, below_new _ _⟩
    · have hf2 : f = false ∨ (f = true ∧ r = 0 ∧ t = 0) := by
        cases f
        · exact .inl rfl
        · exact .inr ⟨rfl, by simp at hf; omega⟩
      by_cases hl : 256 < 1 + r + b
      · have HE : Hid (headE r b t f = 2) := by show _ = _; unfold headE; rw [if_neg hr, if_neg hf, if_pos hl]
        clear hr hf
        rcases hf2 with rfl | ⟨rfl, rfl, rfl⟩
        all_goals
          go_enter Tryz.func34, Tryz.ntmps34
          go_wp2_with (go_at_call 64; refine (hlong_any _ _ _ _ _ (by omega)).mono ?_; rintro e w1 ⟨rfl, hb1⟩)
          all_goals
            go_ret
            exact ⟨ret_int HE.out.symm, below_step (below_new _ _) hb1⟩
      · have HE : Hid (headE r b t f = 0) := by show _ = _; unfold headE; rw [if_neg hr, if_neg hf, if_neg hl]
        clear hr hf
        rcases hf2 with rfl | ⟨rfl, rfl, rfl⟩
        all_goals
          go_enter Tryz.func34, Tryz.ntmps34
          go_wp2_with (go_at_call 64; refine (hlong_any _ _ _ _ _ (by omega)).mono ?_; rintro e w1 ⟨rfl, hb1⟩)
          all_goals
            go_ret
            exact ⟨ret_int HE.out.symm, below_step (below_new _ _) hb1⟩
set_option maxHeartbeats 400000 in
theorem hword_ok (r b t : Int) (f : Bool) (w : World) (hE : headE r b t f = 0) :
    Calls Tryz.prog 62 #[.agg #[.int .i64 r, .int .i64 b, .int .i64 t, .bool f]] w fun e w' => e = .returned (.tuple #[.int .u64 (wordOf r b t f), .int .i64 0]) ∧ Below w.heap.size w w' := by
  obtain ⟨h1, h2, h3, h4, h5, h6, h7, h8⟩ := headE_ok.1 hE
  have HE := Lib.hid hE
  have HF := Lib.hid h8
  clear hE h8
  have o1 := bor_join 16 (b * 65536) r (by omega) (by omega) (by omega) (by omega) (by omega) (by omega)
  have o2 := bor_join 32 (t * 4294967296) (r + b * 65536) (by omega) (by omega) (by omega) (by omega) (by omega) (by omega)
  have o3 := bor_join 48 281474976710656 (r + b * 65536 + t * 4294967296) (by omega) (by omega) (by omega) (by omega) (by omega) (by omega)
  cases f
  all_goals
    go_enter Tryz.func62, Tryz.ntmps62
    go_wp2_with (go_at_call 34; refine (hcheck_any _ _ _ _ _).mono ?_; rw [HE.out]; rintro e w1 ⟨rfl, hb1⟩; obtain ⟨hc1, hf1⟩ := bcell hb1)
    go_ret2
    exact ⟨by simp [wordOf], below_step (below_new _ _) hb1⟩
set_option maxHeartbeats 400000 in
theorem hlongc_ok (r b t : Int) (f : Bool) (w : World) (hE : headE r b t f = 0) :
    Calls Tryz.prog 65 #[.agg #[.int .i64 r, .int .i64 b, .int .i64 t, .bool f]] w fun e w' => e = .returned (.tuple #[.int .i64 (1 + r + b), .int .i64 0]) ∧ Below w.heap.size w w' := by
  obtain ⟨h1, h2, h3, h4, h5, h6, h7, h8⟩ := headE_ok.1 hE
  have HE := Lib.hid hE
  clear hE h8
  go_enter Tryz.func65, Tryz.ntmps65
  go_wp2_with (first
    | (go_at_call 34; refine (hcheck_any _ _ _ _ _).mono ?_; rw [HE.out]; rintro e w1 ⟨rfl, hb1⟩; obtain ⟨hc1, hf1⟩ := bcell hb1)
    | (go_at_call 64; refine (hlong_any _ _ _ _ _ (by omega)).mono ?_; rintro e w2 ⟨rfl, hb2⟩))
  go_ret2
  exact ⟨rfl, below_step (below_step (below_new _ _) hb1) hb2⟩
theorem hread_ok (v : Int) (w : World) (v0 : 0 ≤ v) (v1 : v < 18446744073709551616) (hok : readOk v) :
    Calls Tryz.prog 140 #[.int .u64 v] w fun e w' => e = .returned (.tuple #[.agg #[.int .i64 (rdR v), .int .i64 (rdB v), .int .i64 (rdT v), .bool (rdF v)], .int .i64 0]) ∧ Below w.heap.size w w' := by
  obtain ⟨hz, hE⟩ := hok
  have H := fun w => hcheck_any (rdR v) (rdB v) (rdT v) (rdF v) w
  rw [hE] at H
  have HH := Lib.hid H
  clear H hE
  have e1 : bits .and .u64 v 65535 = rdR v := band16 v v0 v1
  have e2 : bits .and .u64 (v / 65536) 65535 = rdB v := band16 (v / 65536) (by omega) (by omega)
  have e3 : bits .and .u64 (v / 4294967296) 65535 = rdT v := band16 (v / 4294967296) (by omega) (by omega)
  have e4 : (bits .and .u64 v 281474976710656 != 0) = rdF v := by
    rw [band48 v v0 v1]
    unfold rdF
    rw [Bool.eq_iff_iff]
    simp
    omega
  have b1 : 0 ≤ rdR v := by unfold rdR; omega
  have b2 : rdR v < 65536 := by unfold rdR; omega
  have b3 : 0 ≤ rdB v := by unfold rdB; omega
  have b4 : rdB v < 65536 := by unfold rdB; omega
  have b5 : 0 ≤ rdT v := by unfold rdT; omega
  have b6 : rdT v < 65536 := by unfold rdT; omega
  generalize rdR v = r at *
  generalize rdB v = b at *
  generalize rdT v = t at *
  generalize rdF v = f at *
  go_enter Tryz.func140, Tryz.ntmps140
  go_wp2_with (go_at_call 34; refine (HH.out _).mono ?_; rintro e w1 ⟨rfl, hb1⟩; obtain ⟨hc1, hf1⟩ := bcell hb1)
  have HB : Blk w1 w.heap.size 50 #[.int .i64 0, .int .i64 0, .int .i64 0, .bool false] := ((Blk.new _ _ _).alloc _).below hb1 (by simp only [World.size_alloc]; omega)
  have k0 := HB.cell 0
  have k1 := HB.cell 1
  have k2 := HB.cell 2
  have k3 := HB.cell 3
  simp at k0 k1 k2 k3
  have hb3 := below_step (below_step (below_new _ _) (below_new _ _)) hb1
  refine bodyPost_ret (v := .tuple #[.agg #[.int .i64 r, .int .i64 b, .int .i64 t, .bool f], .int .i64 0]) ?_ rfl ⟨rfl, ?_⟩
  · (simp only [results, Tryz.results140]; go_simp)
  · repeat (first | exact hb3 | refine Below.setCell ?_ (by simp) _)
theorem hread_bad (v : Int) (w : World) (v0 : 0 ≤ v) (v1 : v < 18446744073709551616) (hbad : ¬ readOk v) :
    Calls Tryz.prog 140 #[.int .u64 v] w fun e w' => e = .returned (.tuple #[.agg #[.int .i64 0, .int .i64 0, .int .i64 0, .bool false], .int .i64 3]) ∧ Below w.heap.size w w' := by
  have H := fun w => hcheck_any (rdR v) (rdB v) (rdT v) (rdF v) w
  have HH := Lib.hid H
  clear H
  have hb : ¬ v / 562949953421312 = 0 ∨ (v / 562949953421312 = 0 ∧ headE (rdR v) (rdB v) (rdT v) (rdF v) ≠ 0) := by
    unfold readOk at hbad
    by_cases h : v / 562949953421312 = 0
    · exact .inr ⟨h, fun h2 => hbad ⟨h, h2⟩⟩
    · exact .inl h
  clear hbad
  have e1 : bits .and .u64 v 65535 = rdR v := band16 v v0 v1
  have e2 : bits .and .u64 (v / 65536) 65535 = rdB v := band16 (v / 65536) (by omega) (by omega)
  have e3 : bits .and .u64 (v / 4294967296) 65535 = rdT v := band16 (v / 4294967296) (by omega) (by omega)
  have e4 : (bits .and .u64 v 281474976710656 != 0) = rdF v := by
    rw [band48 v v0 v1]
    unfold rdF
    rw [Bool.eq_iff_iff]
    simp
    omega
  have b1 : 0 ≤ rdR v := by unfold rdR; omega
  have b2 : rdR v < 65536 := by unfold rdR; omega
  have b3 : 0 ≤ rdB v := by unfold rdB; omega
  have b4 : rdB v < 65536 := by unfold rdB; omega
  have b5 : 0 ≤ rdT v := by unfold rdT; omega
  have b6 : rdT v < 65536 := by unfold rdT; omega
  generalize headE (rdR v) (rdB v) (rdT v) (rdF v) = E at *
  generalize rdR v = r at *
  generalize rdB v = b at *
  generalize rdT v = t at *
  generalize rdF v = f at *
  rcases hb with hz | ⟨hz, hE⟩
  · go_enter Tryz.func140, Tryz.ntmps140
    go_wp2_with fail
    refine bodyPost_ret (v := .tuple #[.agg #[.int .i64 0, .int .i64 0, .int .i64 0, .bool false], .int .i64 3]) ?_ rfl ⟨rfl, ?_⟩
    · simp [results, Tryz.results140, go_sem]
    · repeat (first | exact below_step (below_new _ _) (below_new _ _) | refine Below.setCell ?_ (by simp) _)
  · have hE1 : (E != 0) = true := by simpa using hE
    have hE2 : (E == 0) = false := by simpa using hE
    go_enter Tryz.func140, Tryz.ntmps140
    go_wp2_with (go_at_call 34; refine (HH.out _).mono ?_; rintro e w1 ⟨rfl, hb1⟩; obtain ⟨hc1, hf1⟩ := bcell hb1)
    have HB : Blk w1 w.heap.size 50 #[.int .i64 0, .int .i64 0, .int .i64 0, .bool false] := ((Blk.new _ _ _).alloc _).below hb1 (by simp only [World.size_alloc]; omega)
    have k0 := HB.cell 0
    have k1 := HB.cell 1
    have k2 := HB.cell 2
    have k3 := HB.cell 3
    simp at k0 k1 k2 k3
    have hb3 := below_step (below_step (below_new _ _) (below_new _ _)) hb1
    refine bodyPost_ret (v := .tuple #[.agg #[.int .i64 0, .int .i64 0, .int .i64 0, .bool false], .int .i64 3]) ?_ rfl ⟨rfl, ?_⟩
    · (simp only [results, Tryz.results140]; go_simp)
    · repeat (first | exact hb3 | refine Below.setCell ?_ (by simp) _)
end Go.Proofs.YtbmkbnalembbjaaGreatDoor
