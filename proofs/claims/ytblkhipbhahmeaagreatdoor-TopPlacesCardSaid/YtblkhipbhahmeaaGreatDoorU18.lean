/-
  Texts joined: PlayDefs PlayLaw Repeat WordNew StNew LawNums DeskNum DeskDefs.
-/
import Derived.Shelf.Bits.Mul64
import Derived.Ground.NamesProg
import Derived.Shelf.Lay
import Derived.IntWalk
import Derived.SizedLaws
import Derived.Shelf.Strconv.ErrVarAll
import Derived.Shelf.Strconv.Itoa3
import Derived.Lib.ItoaLen
import Derived.Lib.AtoiAllCases
import Derived.Lib.SplitLaws
import Derived.Test.YtblkhipbhahmeaaGreatDoorU0
import Derived.Test.YtblkhipbhahmeaaGreatDoorU1
import Derived.Test.YtblkhipbhahmeaaGreatDoorU2
import Derived.Test.YtblkhipbhahmeaaGreatDoorU3
import Derived.Test.YtblkhipbhahmeaaGreatDoorU8
import Derived.Test.YtblkhipbhahmeaaGreatDoorU10
import Derived.Test.YtblkhipbhahmeaaGreatDoorU11
import Derived.Test.YtblkhipbhahmeaaGreatDoorU12
import Derived.Test.YtblkhipbhahmeaaGreatDoorU16
import Derived.Test.YtblkhipbhahmeaaGreatDoorU17
namespace Go.Proofs.YtblkhipbhahmeaaGreatDoor
open Go.RowKit
structure OpV where
 kind : Int
 a : Int
 b : Int
 c : Int
 v : Int
def formsT : List Bool := [
 false, false, false, false,
 true, true, true, true,
 false, false, false, false,
 true, true, true, false,
 true, true, true, false,
 true, true, false, false,
 true, true, false, true,
 true, false, false, false,
 true, false, false, false,
 true, true, false, false,
 true, false, false, false,
 true, false, false, true,
 false, false, false, true,
 true, false, false, false]
def formB (k i : Nat) : Bool := formsT.getD (k * 4 + i) false
def rightB (o : OpV) : Bool := decide (1 ≤ o.kind) && decide (o.kind ≤ 13) && ((formB o.kind.toNat 0 || o.a == 0) && (formB o.kind.toNat 1 || o.b == 0) && (formB o.kind.toNat 2 || o.c == 0) && (formB o.kind.toNat 3 || o.v == 0))
noncomputable def sweep (S : St) : St × Int := open Classical in if h : ∃ p : St × Int, ∃ L Y now : List Int, Coll S p.1 p.2 L Y now then h.choose else (S, 0)
theorem Coll.sweep {S S' : St} {fr : Int} {L Y now : List Int} (h : Coll S S' fr L Y now) : sweep S = (S', fr) := by
 have hx : ∃ p : St × Int, ∃ L Y now : List Int, Coll S p.1 p.2 L Y now := ⟨(S', fr), L, Y, now, h⟩
 unfold Proofs.YtblkhipbhahmeaaGreatDoor.sweep
 rw [dif_pos hx]
 obtain ⟨L2, Y2, now2, h2⟩ := hx.choose_spec
 obtain ⟨e1, e2⟩ := h.unique h2
 exact Prod.ext e1 e2
def firstG (a : List Int) (N : Int) : Rn := ((ggL a)[(firstV (ggL a) N).toNat]?).getD ⟨0, 0⟩
theorem FirstGap.is {a : List Int} {N : Int} {j : Nat} {g : Rn} (h : FirstGap a N j g) : firstG a N = g := by
 unfold firstG
 rw [h.ix, Int.toNat_natCast, h.at_]
 rfl
def putIn (S : St) (k : Nat) (r b t : Int) : St := ⟨takenA S.a (firstG S.a (1 + r + b)) r b t, S.r.set k (firstG S.a (1 + r + b)).loc, S.p, S.l⟩
noncomputable def placeX (l : List Rn) (x : Int) : Nat := open Classical in if h : ∃ j, PlaceOf l x j then h.choose else 0
theorem PlaceOf.is {l : List Rn} {x : Int} {j : Nat} (h : PlaceOf l x j) : placeX l x = j := by
 have hx : ∃ j, PlaceOf l x j := ⟨j, h⟩
 unfold placeX
 rw [dif_pos hx]
 exact hx.choose_spec.unique h
def atX (S : St) (slot : Int) : Int := S.r.getD slot.toNat 0
structure Out where
 st : St
 told : Int
 er : Int
noncomputable def makeO (S : St) (slot r b t : Int) : Out :=
 if makeE S slot r b t false ≠ 0 then ⟨S, 0, makeE S slot r b t false⟩
 else if fitsE (ggL S.a) (1 + r + b) = 0 then ⟨putIn S slot.toNat r b t, 0, 0⟩
 else if fitsE (ggL (sweep S).1.a) (1 + r + b) = 0 then ⟨putIn (sweep S).1 slot.toNat r b t, 1, 0⟩
 else ⟨S, 0, 7⟩
noncomputable def collO (S : St) : Out := if stE S ≠ 0 then ⟨S, 0, stE S⟩ else ⟨(sweep S).1, (sweep S).2, 0⟩
def refO (S : St) (x y z : Int) : Out := if refE S x y z ≠ 0 then ⟨S, 0, refE S x y z⟩ else ⟨⟨S.a, S.r.set z.toNat (S.a.getD (atX S x + 1 + y).toNat 0 - 1), S.p, S.l⟩, 0, 0⟩
def setO (S : St) (x y z : Int) : Out := if refE S x y z ≠ 0 then ⟨S, 0, refE S x y z⟩ else ⟨⟨S.a.set (atX S x + 1 + y).toNat (atX S z + 1), S.r, S.p, S.l⟩, 0, 0⟩
def getO (S : St) (x y : Int) : Out := if bodyE S x y ≠ 0 then ⟨S, 0, bodyE S x y⟩ else ⟨S, S.a.getD (atX S x + 1 + (spS S x).r + y).toNat 0, 0⟩
def putO (S : St) (x y v : Int) : Out := if bodyE S x y ≠ 0 then ⟨S, 0, bodyE S x y⟩ else ⟨⟨S.a.set (atX S x + 1 + (spS S x).r + y).toNat v, S.r, S.p, S.l⟩, 0, 0⟩
noncomputable instance pinOk_dec (S : St) (X : Int) (j : Nat) : Decidable (PinOk S X j) := Classical.propDecidable _
noncomputable instance unpinOk_dec (S : St) (x : Int) (j : Nat) : Decidable (UnpinOk S x j) := Classical.propDecidable _
noncomputable def pinO (S : St) (x : Int) : Out :=
 if objE S x ≠ 0 then ⟨S, 0, objE S x⟩
 else if PinOk S (atX S x) (placeX S.p (atX S x)) then ⟨⟨S.a, S.r, moreP S.p (atX S x) (placeX S.p (atX S x)) (countP S.p (atX S x) + 1), S.l⟩, atX S x, 0⟩
 else ⟨S, 0, addE S.p (atX S x)⟩
noncomputable def unpinO (S : St) (x : Int) : Out :=
 if stE S ≠ 0 then ⟨S, 0, stE S⟩
 else if UnpinOk S x (placeX S.p x) then ⟨⟨S.a, S.r, lessP S.p (placeX S.p x) x (countP S.p x - 1), S.l⟩, 0, 0⟩
 else ⟨S, 0, dropE S.p x⟩
def peekO (S : St) (x k : Int) : Out :=
 if stE S ≠ 0 then ⟨S, 0, stE S⟩
 else if x ∉ pinsL S.p then ⟨S, 0, 8⟩
 else if k < 0 ∨ ((spotAt (spotsL S.a) x).getD ⟨0, 0, 0, 0, false⟩).b ≤ k then ⟨S, 0, 4⟩
 else ⟨S, (bodyOf S.a ((spotAt (spotsL S.a) x).getD ⟨0, 0, 0, 0, false⟩)).getD k.toNat 0, 0⟩
def openO (S : St) (x : Int) : Out :=
 if objE S x ≠ 0 then ⟨S, 0, objE S x⟩
 else if openE S.l (atX S x) ≠ 0 then ⟨S, 0, openE S.l (atX S x)⟩
 else ⟨⟨S.a, S.r, S.p, S.l.set (freeIx S.l).toNat ⟨(S.l.getD (freeIx S.l).toNat ⟨0, false, 0⟩).gen + 1, true, atX S x⟩⟩, freeIx S.l + ((S.l.getD (freeIx S.l).toNat ⟨0, false, 0⟩).gen + 1) * 65536, 0⟩
def useO (S : St) (v slot : Int) : Out :=
 if slotTE S slot ≠ 0 then ⟨S, 0, slotTE S slot⟩
 else match findS S.l v with
  | some sl => ⟨⟨S.a, S.r.set slot.toNat sl.loc, S.p, S.l⟩, 0, 0⟩
  | none => ⟨S, 0, 9⟩
def shutO (S : St) (v : Int) : Out :=
 if stE S ≠ 0 then ⟨S, 0, stE S⟩
 else match findS S.l v with
  | some sl => ⟨⟨S.a, S.r, S.p, S.l.set (v % 65536).toNat ⟨sl.gen, false, 0⟩⟩, 0, 0⟩
  | none => ⟨S, 0, 9⟩
def dropO (S : St) (slot : Int) : Out := if slotTE S slot ≠ 0 then ⟨S, 0, slotTE S slot⟩ else ⟨⟨S.a, S.r.set slot.toNat (-1), S.p, S.l⟩, 0, 0⟩
noncomputable def doO (S : St) (o : OpV) : Out :=
 if rightB o = false then ⟨S, 0, 1⟩
 else if o.kind = 1 then makeO S o.a o.b o.c (o.v % 65536)
 else if o.kind = 2 then collO S
 else if o.kind = 3 then refO S o.a o.b o.c
 else if o.kind = 4 then setO S o.a o.b o.c
 else if o.kind = 5 then getO S o.a o.b
 else if o.kind = 6 then putO S o.a o.b o.v
 else if o.kind = 7 then pinO S o.a
 else if o.kind = 8 then unpinO S o.a
 else if o.kind = 9 then peekO S o.a o.b
 else if o.kind = 10 then openO S o.a
 else if o.kind = 11 then useO S o.v o.a
 else if o.kind = 12 then shutO S o.v
 else dropO S o.a
structure ToldV where
 e : Int
 v : Int
deriving DecidableEq
noncomputable def nextS (S : St) (o : OpV) : St := if (doO S o).er = 0 then (doO S o).st else S
noncomputable def toldS (S : St) (o : OpV) : ToldV := ⟨(doO S o).er, (doO S o).told⟩
noncomputable def playS : St → List OpV → St
 | S, [] => S
 | S, o :: l => playS (nextS S o) l
noncomputable def playT : St → List OpV → List ToldV
 | _, [] => []
 | S, o :: l => toldS S o :: playT (nextS S o) l
theorem atX_is {S : St} {k : Nat} {x : Int} (hx : S.r[k]? = some x) : atX S k = x := by
 unfold atX
 rw [List.getD_eq_getElem?_getD, Int.toNat_natCast, hx]
 rfl
theorem wf_small {v : Int} (h0 : 0 ≤ v) (h1 : v ≤ 1000) : (Lit.int .u64 v).wf = true := by
 simp [Lit.wf, IntKind.min, IntKind.max, IntKind.signed, IntKind.bits]
 omega
theorem StOk.rootsLive {S : St} (h : StOk S) {k : Nat} {y : Int} (hy : y = -1 ∨ y ∈ begsL (spotsL S.a)) : StOk ⟨S.a, S.r.set k y, S.p, S.l⟩ := by
 obtain ⟨h1, h2, h3, h4⟩ := rootE_ok h.roots
 have hyr : -1 ≤ y ∧ y < S.a.length := by
  rcases hy with rfl | hy
  ·omega
  ·have := begs_lt h.arena hy
   omega
 refine ⟨h.arena, rootE_of h1 h2 (by rw [List.length_set]; exact h3) (fun v hv => ?_), h.pins, h.hands, fun x hx => ?_⟩
 ·rcases List.mem_or_eq_of_mem_set hv with hv | rfl
  ·exact h4 v hv
  ·exact hyr
 ·rcases fromL_mem.1 hx with ⟨h5, h6⟩ | ⟨s, h5, h6, rfl⟩ | ⟨z, h5, rfl⟩
  ·rcases List.mem_or_eq_of_mem_set h5 with h5 | rfl
   ·exact h.live x (root_at h5 h6)
   ·rcases hy with rfl | hy
    ·omega
    ·exact hy
  ·exact h.live _ (open_at h5 h6)
  ·exact h.live _ (pin_at h5)
theorem ref_ix {a : List Int} {s : Spot} {K : Nat} (hK : (K : Int) < s.r) : (refsOf a s)[K]? = a[s.loc.toNat + 1 + K]? := by
 unfold refsOf
 rw [List.getElem?_take, if_pos (by omega), List.getElem?_drop]
theorem ref_word {S : St} (hS : StOk S) {X K : Nat} {s : Spot} {i : Nat} (hO : ObjAt S X s i) (hk : (K : Int) < s.r) : ∃ v : Nat, S.a[X + 1 + K]? = some (v : Int) ∧ v ≤ 256 ∧ ((v : Int) - 1 = -1 ∨ (v : Int) - 1 ∈ begsL (spotsL S.a)) := by
 have hfit := hO.ok.fits
 have hb := hO.ok.b0
 have hm := List.mem_of_getElem? hO.at_
 have hloc := hO.loc
 have hlen : X + 1 + K < S.a.length := by simp only [Spot.long] at hfit; omega
 have hr := (checkE_ok.1 hS.arena).2
 unfold refsOk at hr
 have h1 := List.all_eq_true.1 hr s hm
 have hv : (refsOf S.a s)[K]? = some S.a[X + 1 + K] := by
  rw [ref_ix hk, show s.loc.toNat + 1 + K = X + 1 + K by omega, List.getElem?_eq_getElem hlen]
 have h2 := List.all_eq_true.1 h1 _ (List.mem_of_getElem? hv)
 by_cases h0 : S.a[X + 1 + K] = 0
 ·exact ⟨0, by rw [List.getElem?_eq_getElem hlen, h0]; rfl, by omega, .inl (by omega)⟩
 ·have h3 := place_inv h2 h0
  have h4 := begs_lt hS.arena h3
  have h5 := (parse_ok (checkE_ok.1 hS.arena).1).1
  obtain ⟨v, hv'⟩ := Int.eq_ofNat_of_zero_le (show 0 ≤ S.a[X + 1 + K] by omega)
  refine ⟨v, by rw [List.getElem?_eq_getElem hlen, hv'], by omega, .inr ?_⟩
  rw [← hv']
  exact h3
theorem refO_is {S : St} {k X K O v : Nat} (hE : refE S k K O = 0) (hx : S.r[k]? = some (X : Int)) (hv : S.a[X + 1 + K]? = some (v : Int)) : refO S k K O = ⟨⟨S.a, S.r.set O ((v : Int) - 1), S.p, S.l⟩, 0, 0⟩ := by
 unfold refO
 rw [if_neg (by rw [hE]; decide), atX_is hx, show ((X : Int) + 1 + K).toNat = X + 1 + K by omega, List.getD_eq_getElem?_getD, hv, Int.toNat_natCast]
 rfl
theorem setO_is {S : St} {k X K O : Nat} {y : Int} (hE : refE S k K O = 0) (hx : S.r[k]? = some (X : Int)) (hy : S.r[O]? = some y) : setO S k K O = ⟨⟨S.a.set (X + 1 + K) (y + 1), S.r, S.p, S.l⟩, 0, 0⟩ := by
 unfold setO
 rw [if_neg (by rw [hE]; decide), atX_is hx, atX_is hy, show ((X : Int) + 1 + K).toNat = X + 1 + K by omega]
theorem getO_is {S : St} {k X K v : Nat} {s : Spot} {i : Nat} (hE : bodyE S k K = 0) (hx : S.r[k]? = some (X : Int)) (hO : ObjAt S X s i) (hv : S.a[X + 1 + s.r.toNat + K]? = some (v : Int)) : getO S k K = ⟨S, v, 0⟩ := by
 have hr := hO.ok.r0
 unfold getO
 rw [if_neg (by rw [hE]; decide), atX_is hx, spS_at hx hO, show ((X : Int) + 1 + s.r + K).toNat = X + 1 + s.r.toNat + K by omega, List.getD_eq_getElem?_getD, hv]
 rfl
theorem putO_is {S : St} {k X K : Nat} {v : Int} {s : Spot} {i : Nat} (hE : bodyE S k K = 0) (hx : S.r[k]? = some (X : Int)) (hO : ObjAt S X s i) : putO S k K v = ⟨⟨S.a.set (X + 1 + s.r.toNat + K) v, S.r, S.p, S.l⟩, 0, 0⟩ := by
 have hr := hO.ok.r0
 unfold putO
 rw [if_neg (by rw [hE]; decide), atX_is hx, spS_at hx hO, show ((X : Int) + 1 + s.r + K).toNat = X + 1 + s.r.toNat + K by omega]
theorem pinO_ok {S : St} {k X j : Nat} (hE : objE S k = 0) (hx : S.r[k]? = some (X : Int)) (hP : PinOk S X j) : pinO S k = ⟨⟨S.a, S.r, moreP S.p X j (countP S.p X + 1), S.l⟩, X, 0⟩ := by
 unfold pinO
 rw [if_neg (by rw [hE]; decide), atX_is hx, hP.1.is, if_pos hP]
theorem pinO_no {S : St} {k X : Nat} (hE : objE S k = 0) (hx : S.r[k]? = some (X : Int)) (hP : ∀ j, ¬ PinOk S X j) : pinO S k = ⟨S, 0, addE S.p X⟩ := by
 unfold pinO
 rw [if_neg (by rw [hE]; decide), atX_is hx, if_neg (hP _)]
theorem unpinO_ok {S : St} {x : Int} {j : Nat} (hS : StOk S) (hP : UnpinOk S x j) : unpinO S x = ⟨⟨S.a, S.r, lessP S.p j x (countP S.p x - 1), S.l⟩, 0, 0⟩ := by
 unfold unpinO
 rw [if_neg (by rw [stE_ok.2 hS]; decide), hP.2.1.is, if_pos hP]
theorem unpinO_no {S : St} {x : Int} (hS : StOk S) (hP : ∀ j, ¬ UnpinOk S x j) : unpinO S x = ⟨S, 0, dropE S.p x⟩ := by
 unfold unpinO
 rw [if_neg (by rw [stE_ok.2 hS]; decide), if_neg (hP _)]
theorem openO_is {S : St} {k X j : Nat} {sl : Slot} (hE : objE S k = 0) (hx : S.r[k]? = some (X : Int)) (hE2 : openE S.l X = 0) (hj : freeIx S.l = j) (hs : S.l[j]? = some sl) : openO S k = ⟨⟨S.a, S.r, S.p, S.l.set j ⟨sl.gen + 1, true, (X : Int)⟩⟩, (j : Int) + (sl.gen + 1) * 65536, 0⟩ := by
 unfold openO
 rw [if_neg (by rw [hE]; decide), atX_is hx, if_neg (by rw [hE2]; decide), hj, Int.toNat_natCast, List.getD_eq_getElem?_getD, hs]
 rfl
theorem openO_no {S : St} {k X : Nat} (hE : objE S k = 0) (hx : S.r[k]? = some (X : Int)) (hE2 : openE S.l X ≠ 0) : openO S k = ⟨S, 0, openE S.l X⟩ := by
 unfold openO
 rw [if_neg (by rw [hE]; decide), atX_is hx, if_pos hE2]
structure StGood (S : St) : Prop where
 ok : StOk S
 wf : W64 S.a
theorem Out.good_if {p : Prop} [Decidable p] {a b : Out} (ha : p → a.er ≠ 0) (hb : ¬ p → b.er = 0 → StGood b.st) : (if p then a else b).er = 0 → StGood (if p then a else b).st := by
 intro h
 by_cases hp : p
 ·rw [if_pos hp] at h
  exact absurd h (ha hp)
 ·rw [if_neg hp] at h ⊢
  exact hb hp h
theorem Out.good_or {p : Prop} [Decidable p] {a b : Out} (ha : a.er = 0 → StGood a.st) (hb : b.er = 0 → StGood b.st) : (if p then a else b).er = 0 → StGood (if p then a else b).st := by
 split
 ·exact ha
 ·exact hb
theorem lessP_mem {l : List Rn} {j : Nat} {x v : Int} {z : Rn} (hz : z ∈ lessP l j x v) : z ∈ l ∨ z = ⟨x, v⟩ ∧ v ≠ 0 := by
 unfold lessP at hz
 by_cases h : v = 0
 ·rw [if_pos h] at hz
  rcases List.mem_append.1 hz with hz | hz
  ·exact .inl (List.mem_of_mem_take hz)
  ·exact .inl (List.mem_of_mem_drop hz)
 ·rw [if_neg h] at hz
  rcases List.mem_or_eq_of_mem_set hz with hz | rfl
  ·exact .inl hz
  ·exact .inr ⟨rfl, h⟩
section
variable {S : St} (hS : StGood S)
include hS
theorem makeO_good (slot r b t : Int) : (makeO S slot r b t).er = 0 → StGood (makeO S slot r b t).st := by
 unfold makeO
 refine Out.good_if (fun h => h) (fun h0 => ?_)
 obtain ⟨hOK, -, hE, k, rfl, hk⟩ := makeE_zero (by simpa using h0)
 rw [Int.toNat_natCast]
 by_cases h1 : fitsE (ggL S.a) (1 + r + b) = 0
 ·rw [if_pos h1]
  intro _
  obtain ⟨j, g, hG⟩ := first_gap h1
  unfold putIn
  rw [hG.is]
  exact ⟨(made_of hOK hE hG hk).ok, taken_wf hOK.arena hS.wf hG hE⟩
 ·rw [if_neg h1]
  by_cases h2 : fitsE (ggL (sweep S).1.a) (1 + r + b) = 0
  ·rw [if_pos h2]
   intro _
   obtain ⟨j, g, hG⟩ := first_gap h2
   by_cases hx : ∃ p : St × Int, ∃ L Y now : List Int, Coll S p.1 p.2 L Y now
   ·obtain ⟨⟨S', fr⟩, L, Y, now, hC⟩ := hx
    rw [hC.sweep] at hG ⊢
    simp only at hC hG
    unfold putIn
    simp only
    rw [hG.is]
    exact ⟨(made_of (hC.ok hOK) hE hG (by rw [hC.r, List.length_map]; exact hk)).ok, taken_wf (hC.ok hOK).arena (hC.wf hS.wf) hG hE⟩
   ·have e : sweep S = (S, 0) := dif_neg hx
    rw [e] at hG ⊢
    unfold putIn
    simp only at hG ⊢
    rw [hG.is]
    exact ⟨(made_of hOK hE hG hk).ok, taken_wf hOK.arena hS.wf hG hE⟩
  ·rw [if_neg h2]
   intro h
   exact absurd h (show ¬ (7 : Int) = 0 by decide)
theorem sweep_good : StGood (sweep S).1 := by
 by_cases hx : ∃ p : St × Int, ∃ L Y now : List Int, Coll S p.1 p.2 L Y now
 ·obtain ⟨⟨S', fr⟩, L, Y, now, hC⟩ := hx
  rw [hC.sweep]
  exact ⟨hC.ok hS.ok, hC.wf hS.wf⟩
 ·have e : sweep S = (S, 0) := dif_neg hx
  rw [e]
  exact hS
theorem collO_good : (collO S).er = 0 → StGood (collO S).st := by
 unfold collO
 exact Out.good_if (fun h => h) (fun _ _ => sweep_good hS)
theorem refO_good (x y z : Int) : (refO S x y z).er = 0 → StGood (refO S x y z).st := by
 intro h
 have hE : refE S x y z = 0 := by
  refine Classical.byContradiction fun h0 => ?_
  unfold refO at h
  rw [if_pos h0] at h
  exact h0 h
 obtain ⟨hOK, k, X, K, O, s, i, rfl, rfl, rfl, hx, hO, hK, hz⟩ := refE_zero hE
 obtain ⟨v, hv, h1, h2⟩ := ref_word hOK hO hK
 rw [refO_is hE hx hv]
 exact ⟨hOK.rootsLive h2, hS.wf⟩
theorem setO_good (x y z : Int) : (setO S x y z).er = 0 → StGood (setO S x y z).st := by
 intro h
 have hE : refE S x y z = 0 := by
  refine Classical.byContradiction fun h0 => ?_
  unfold setO at h
  rw [if_pos h0] at h
  exact h0 h
 obtain ⟨hOK, k, X, K, O, s, i, rfl, rfl, rfl, hx, hO, hK, hz⟩ := refE_zero hE
 have hy : S.r[O]? = some S.r[O] := List.getElem?_eq_getElem hz
 obtain ⟨q1, q2, q3⟩ := root_val hOK (List.mem_of_getElem? hy)
 rw [setO_is hE hx hy]
 exact ⟨(set_law hOK hO hK q1).1, wf_set hS.wf (wf_small (by omega) (by omega))⟩
theorem getO_good (x y : Int) : (getO S x y).er = 0 → StGood (getO S x y).st := by
 unfold getO
 exact Out.good_if (fun h => h) (fun _ _ => hS)
theorem putO_good (x y v : Int) (hv : (Lit.int .u64 v).wf = true) : (putO S x y v).er = 0 → StGood (putO S x y v).st := by
 intro h
 have hE : bodyE S x y = 0 := by
  refine Classical.byContradiction fun h0 => ?_
  unfold putO at h
  rw [if_pos h0] at h
  exact h0 h
 obtain ⟨hOK, k, X, K, s, i, rfl, rfl, hx, hO, hK⟩ := bodyE_zero hE
 rw [putO_is hE hx hO]
 exact ⟨(put_law hOK hO hK v).1, wf_set hS.wf hv⟩
theorem pinO_good (x : Int) : (pinO S x).er = 0 → StGood (pinO S x).st := by
 intro h
 have hE : objE S x = 0 := by
  refine Classical.byContradiction fun h0 => ?_
  unfold pinO at h
  rw [if_pos h0] at h
  exact h0 h
 obtain ⟨hOK, k, X, s, i, rfl, hx, hO, -⟩ := root_obj hE
 by_cases hP : ∃ j, PinOk S X j
 ·obtain ⟨j, hP⟩ := hP
  rw [pinO_ok hE hx hP]
  exact ⟨pin_law hOK (root_at (List.mem_of_getElem? hx) (by omega)) hP, hS.wf⟩
 ·rw [pinO_no hE hx (fun j hj => hP ⟨j, hj⟩)] at h ⊢
  exact ⟨hOK, hS.wf⟩
theorem less_ok {x : Int} {j : Nat} (h : UnpinOk S x j) : PinsOk (lessP S.p j x (countP S.p x - 1)) ∧ x ∈ S.begs := by
 obtain ⟨h1, h2, h3⟩ := h
 have hp := hS.ok.pins
 obtain ⟨y, hy, rfl⟩ := hasAt_some h3
 have hym := List.mem_of_getElem? hy
 have hc := countP_some hp hym
 have hb := bad_no.1 (show pinBad ⟨y.loc, y.len⟩ = false from hp.ok y hym)
 rw [hc]
 refine ⟨⟨?_, fun z hz => ?_, ?_⟩, pin_at hym⟩
 ·have := hp.len
  unfold lessP
  split
  ·rw [List.length_append, List.length_take, List.length_drop]; omega
  ·rw [List.length_set]; omega
 ·rcases lessP_mem hz with hz | ⟨rfl, h0⟩
  ·exact hp.ok z hz
  ·exact bad_no.2 ⟨hb.1, by omega, by omega⟩
 ·unfold lessP
  split
  ·refine hp.rise.sublist ?_
   conv => rhs; rw [← List.take_append_drop j S.p]
   refine List.Sublist.append (List.Sublist.refl _) ?_
   rw [← List.drop_drop]
   exact List.drop_sublist _ _
  ·exact set_rise hp.rise hy
theorem unpinO_good (x : Int) : (unpinO S x).er = 0 → StGood (unpinO S x).st := by
 intro h
 by_cases hP : ∃ j, UnpinOk S x j
 ·obtain ⟨j, hP⟩ := hP
  rw [unpinO_ok hS.ok hP]
  obtain ⟨h1, h2⟩ := less_ok hS hP
  refine ⟨hS.ok.pinsSet h1 (fun y hy => ?_), hS.wf⟩
  rcases lessP_mem hy with hy | ⟨rfl, -⟩
  ·exact pin_at hy
  ·exact h2
 ·rw [unpinO_no hS.ok (fun j hj => hP ⟨j, hj⟩)]
  exact hS
theorem peekO_good (x k : Int) : (peekO S x k).er = 0 → StGood (peekO S x k).st := by
 unfold peekO
 exact Out.good_if (fun h => h) (fun _ => Out.good_if (fun _ => (show ¬ (8 : Int) = 0 by decide)) (fun _ => Out.good_if (fun _ => (show ¬ (4 : Int) = 0 by decide)) (fun _ _ => hS)))
theorem openO_good (x : Int) : (openO S x).er = 0 → StGood (openO S x).st := by
 intro h
 have hE : objE S x = 0 := by
  refine Classical.byContradiction fun h0 => ?_
  unfold openO at h
  rw [if_pos h0] at h
  exact h0 h
 obtain ⟨hOK, k, X, s, i, rfl, hx, hO, -⟩ := root_obj hE
 have hX : (X : Int) ∈ S.begs := root_at (List.mem_of_getElem? hx) (by omega)
 rcases open_cases hOK hX with ⟨h1, j, sl, hop, g0, g1, g2, g3⟩ | h1
 ·rw [openO_is hE hx h1 hop.ix hop.at_]
  have h2 := begs_lt hOK.arena (hOK.live X hX)
  have h3 := (parse_ok (checkE_ok.1 hOK.arena).1).1
  exact ⟨hOK.slots (slot_open g0 g1 (by omega)) (fun _ => hX), hS.wf⟩
 ·rw [openO_no hE hx (by rw [h1]; decide)] at h
  rw [h1] at h
  exact absurd h (show ¬ (7 : Int) = 0 by decide)
theorem useO_good (v slot : Int) : (useO S v slot).er = 0 → StGood (useO S v slot).st := by
 unfold useO
 refine Out.good_if (fun h => h) (fun _ => ?_)
 split
 ·rename_i sl hsl
  intro _
  obtain ⟨-, h2, h3, -⟩ := findS_some.1 hsl
  exact ⟨hS.ok.rootsSet (.inr (open_at (List.mem_of_getElem? h2) h3)), hS.wf⟩
 ·intro h
  exact absurd h (show ¬ (9 : Int) = 0 by decide)
theorem shutO_good (v : Int) : (shutO S v).er = 0 → StGood (shutO S v).st := by
 unfold shutO
 refine Out.good_if (fun h => h) (fun _ => ?_)
 split
 ·rename_i sl hsl
  intro _
  obtain ⟨-, h2, h3, -⟩ := findS_some.1 hsl
  have h4 := slotE_gen (slotE_of hS.ok.hands h2)
  exact ⟨hS.ok.slots (slot_shut h4.1 h4.2) (fun h => by cases h), hS.wf⟩
 ·intro h
  exact absurd h (show ¬ (9 : Int) = 0 by decide)
theorem dropO_good (slot : Int) : (dropO S slot).er = 0 → StGood (dropO S slot).st := by
 unfold dropO
 exact Out.good_if (fun h => h) (fun _ _ => ⟨hS.ok.rootsSet (.inl rfl), hS.wf⟩)
theorem doO_good (o : OpV) (hv : (Lit.int .u64 o.v).wf = true) : (doO S o).er = 0 → StGood (doO S o).st := by
 unfold doO
 refine Out.good_if (fun _ => (show ¬ (1 : Int) = 0 by decide)) (fun _ => ?_)
 refine Out.good_or (makeO_good hS _ _ _ _) (Out.good_or (collO_good hS) (Out.good_or (refO_good hS _ _ _) (Out.good_or (setO_good hS _ _ _) (Out.good_or (getO_good hS _ _) (Out.good_or (putO_good hS _ _ _ hv) (Out.good_or (pinO_good hS _) (Out.good_or (unpinO_good hS _) (Out.good_or (peekO_good hS _ _) (Out.good_or (openO_good hS _) (Out.good_or (useO_good hS _ _) (Out.good_or (shutO_good hS _) (dropO_good hS _))))))))))))
end
end Go.Proofs.YtblkhipbhahmeaaGreatDoor

namespace Go.Proofs
open Go.RowKit Go.Shelf
shelf_lay Lays.n212 Nm 212 at Tryz as Tryz.mulU
end Go.Proofs
namespace Go.Proofs.YtblkhipbhahmeaaGreatDoor
open Go.RowKit
theorem replicate_snoc2 (v : Value) (a b : Nat) : List.replicate (a + b) v = List.replicate a v ++ List.replicate b v := by rw [List.replicate_append_replicate]
theorem splice_rep {cur : List Value} {v : Value} {M m : Nat} (h : cur.take M = List.replicate M v) (hM : M + m ≤ cur.length) : (splice cur M (List.replicate m v)).take (M + m) = List.replicate (M + m) v ∧ (splice cur M (List.replicate m v)).length = cur.length := by
 have hl := length_splice cur M (List.replicate m v) (by simpa using hM)
 refine ⟨?_, hl⟩
 have hM2 : M ≤ cur.length := by omega
 have ht : (cur.take M).length = M := by rw [List.length_take]; omega
 unfold splice
 rw [h, ← List.append_assoc, replicate_snoc2, List.take_append_of_le_length (by simp), List.take_of_length_le (by simp)]
set_option maxRecDepth 100000 in
set_option maxHeartbeats 1000000 in
theorem repeat_one (gv n : Nat) (v : Int) (w : World) (hv : Blk w gv 3 #[.int .i64 v]) (hn : n ≤ 1000) :
  Calls Tryz.prog 115 #[.slice (some ⟨gv, 0, none⟩) 1 1, .int .i64 n] w fun e w' => ∃ g, e = .returned (.slice (some ⟨g, 0, none⟩) n n) ∧ w'.ownsRow w.heap.size 3 1 (.slice (some ⟨g, 0, none⟩) n n) n ((List.replicate n v).map (.int .i64)) ∧ Below w.heap.size w w' := by
 have HMul := Lib.hid (fun w => Any.bits_Mul Tryz.mulU 1 n (by decide) (by omega) w)
 obtain ⟨i0, hi, hz0, hz1, hz2⟩ := info_parts info_int
 have hmk := run_make_rowN (P := Tryz.prog) 23 3 i0 (.int .i64 0) Tryz.underlying23 hi hz0 .i64 .i64 n n (Nat.le_refl _) (by rw [hz2]; omega) (by omega) w
 rw [hz1, Nat.mul_one] at hmk
 have hmk : (Instr.makeSlice 23 (.int .i64 n) (.int .i64 n)).run Tryz.prog w = .ok (.slice (some ⟨w.heap.size, 0, none⟩) n n) (w.alloc (.cells (madeCells #[Value.int .i64 0] n) 3)) := hmk
 have hd0 : 1 * n / 18446744073709551616 = 0 := by omega
 have hd1 : 1 * n % 18446744073709551616 = n := by omega
 rw [hd0, hd1] at HMul
 have hvl := hv.lt
 have hvc := hv.cell 0
 simp only [List.getElem?_toArray, List.getElem?_cons_zero] at hvc
 -- what make makes, and the first copy
 have hg0 : ((w.alloc (.cells (madeCells #[Value.int .i64 0] n) 3))).heap[w.heap.size]? = some (.cells (List.replicate n (Value.int .i64 0)).toArray 3 (0, 0)) := by rw [madeCells_one]; exact heap_alloc_new w _
 have hb0 := below_new w (.cells (madeCells #[Value.int .i64 0] n) 3)
 have hv0 := hv.alloc (.cells (madeCells #[Value.int .i64 0] n) 3)
 obtain ⟨W0, hW0⟩ : ∃ W0, W0 = w.alloc (.cells (madeCells #[Value.int .i64 0] n) 3) := ⟨_, rfl⟩
 rw [← hW0] at hg0 hb0 hv0
 obtain ⟨m, hm⟩ : ∃ m, m = Nat.min 1 n := ⟨_, rfl⟩
 have hm1 : m ≤ n := by rw [hm]; exact Nat.min_le_right _ _
 have hm2 : m ≤ 1 := by rw [hm]; exact Nat.min_le_left _ _
 have hm3 : n = 0 ∨ m = 1 := by rw [hm]; simp only [Nat.min_def]; split <;> omega
 obtain ⟨cur, hcur⟩ : ∃ cur, cur = splice (List.replicate n (Value.int .i64 0)) 0 (List.replicate m (Value.int .i64 v)) := ⟨_, rfl⟩
 have hsp := splice_rep (v := Value.int .i64 v) (M := 0) (m := m) (cur := List.replicate n (Value.int .i64 0)) (by simp) (by simpa using hm1)
 rw [← hcur, Nat.zero_add, List.length_replicate] at hsp
 obtain ⟨W1, hW1⟩ : ∃ W1, W1 = W0.setRow w.heap.size cur.toArray := ⟨_, rfl⟩
 have hcp : ∀ ty, (Builtin.copy_ #[23, 23] ty #[.slice (some ⟨w.heap.size, 0, none⟩) n n, .slice (some ⟨gv, 0, none⟩) 1 1]).run Tryz.prog W0 = .ok (goInt m) W1 := fun ty => by
  rw [hW1, hcur]
  refine run_copyK (P := Tryz.prog) W0 23 23 ty 3 1 w.heap.size 0 n n ⟨gv, 0, none⟩ 1 1 m _ 3 _ Tryz.underlying23 size_int hg0 hm.symm (by simp) (fun j u hj => ?_) (by simp; omega) (fun u hu => by obtain ⟨-, rfl⟩ := List.mem_replicate.1 hu; rfl)
  obtain ⟨h1, rfl⟩ := List.getElem?_eq_some_iff.1 hj
  simp only [List.length_replicate] at h1
  obtain rfl : j = 0 := by omega
  rw [Addr.add_lit, List.getElem_replicate]
  have := hv0.cell 0
  simpa using this
 have hg1 : W1.heap[w.heap.size]? = some (.cells cur.toArray 3 (0, 0)) := by rw [hW1]; exact setRow_heap W0 _ _ _ _ _ hg0
 have hb1 : Below w.heap.size w W1 := by rw [hW1]; exact below_setRow hb0 (Nat.le_refl _) _
 have g1 : decide ((n : Int) < 0) = false := decide_eq_false (by omega)
 have g2 : decide (9223372036854775807 < n) = false := decide_eq_false (by omega)
 rw [hW0] at hcp
 have HG := Lib.hid hg1
 have HB := Lib.hid hb1
 have HC := Lib.hid hcp
 have HS := Lib.hid hsp
 have w1 : IntKind.u64.wrap (n : Int) = n := IntWalk.u64_in _ (by omega)
 have w2 : IntKind.i64.wrap (n : Int) = n := IntWalk.i64_in _ (by omega)
 have HM3 := Lib.hid hm3
 clear hg1 hb1 hcp hsp hW1 hcur hg0 hb0 hv0 hW0 hm hd0 hd1 hm3 hvc
 go_enter Tryz.func115, Tryz.ntmps115
 go_wp2_with (first | (go_at_call 150; refine (HMul.out _).mono ?_; rintro e w' ⟨rfl, hw⟩; rw [hw]; clear hw w') | (refine wpList_copy_run _ rfl (.tmp 31) (.tmp 32) 23 23 rfl (.slice (some ⟨w.heap.size, 0, none⟩) n n) (.slice (some ⟨gv, 0, none⟩) 1 1) rfl rfl (HC.out _) ?_))
 go_loopw [8] (fun s wr => ∃ (M : Nat) (cur : List Value), s = .int .i64 M ∧ M ≤ n ∧ (n = 0 ∨ 1 ≤ M) ∧ Hid (wr.heap[w.heap.size]? = some (.cells cur.toArray 3 (0, 0)) ∧ cur.length = n ∧ cur.take M = List.replicate M (.int .i64 v)) ∧ Hid (Below w.heap.size w wr)) (fun s _ => n - (intOf s).toNat)
 case atStart => exact ⟨m, cur, rfl, hm1, by rcases HM3.out with h | h; exact .inl h; exact .inr (by omega), ⟨HG.out, HS.out.2, HS.out.1⟩, HB⟩
 case round =>
  obtain ⟨M, cur, rfl, hM, hM1, HC, HB⟩ := hrel
  by_cases hlt : M < n
  ·have hM1 : 1 ≤ M := by omega
   obtain ⟨k, hk⟩ : ∃ k, k = Nat.min M (n - M) := ⟨_, rfl⟩
   have hk1 : 1 ≤ k := by rw [hk]; simp only [Nat.min_def]; split <;> omega
   have hk2 : k ≤ n - M := by rw [hk]; exact Nat.min_le_right _ _
   have hk3 : k ≤ M := by rw [hk]; exact Nat.min_le_left _ _
   obtain ⟨c1, c2, c3⟩ := HC.out
   have hsp := splice_rep (v := Value.int .i64 v) (M := M) (m := k) (cur := cur) c3 (by omega)
   obtain ⟨W2, hW2⟩ : ∃ W2, W2 = wr.drew.setRow w.heap.size (splice cur M (List.replicate k (Value.int .i64 v))).toArray := ⟨_, rfl⟩
   have hcp : ∀ ty, (Builtin.copy_ #[23, 23] ty #[.slice (some ⟨w.heap.size, M, none⟩) (n - M) (n - M), .slice (some ⟨w.heap.size, 0, none⟩) M n]).run Tryz.prog wr.drew = .ok (goInt k) W2 := fun ty => by
    rw [hW2]
    refine run_copyK (P := Tryz.prog) wr.drew 23 23 ty 3 1 w.heap.size M (n - M) (n - M) ⟨w.heap.size, 0, none⟩ M n k cur 3 _ Tryz.underlying23 size_int c1 hk.symm (by simp) (fun j u hj => ?_) (by simp; omega) (fun u hu => by obtain ⟨-, rfl⟩ := List.mem_replicate.1 hu; rfl)
    obtain ⟨h1, rfl⟩ := List.getElem?_eq_some_iff.1 hj
    simp only [List.length_replicate] at h1
    rw [Addr.add_lit, Nat.zero_add, cell_of_row wr.drew _ _ _ _ _ c1, List.getElem_replicate]
    have h2 : (cur.take M)[j]? = some (Value.int .i64 v) := by rw [c3, List.getElem?_replicate, if_pos (by omega)]
    rw [List.getElem?_take, if_pos (by omega)] at h2
    simpa using h2
   have hg2 : W2.heap[w.heap.size]? = some (.cells (splice cur M (List.replicate k (Value.int .i64 v))).toArray 3 (0, 0)) := by rw [hW2]; exact setRow_heap wr.drew _ _ _ _ _ c1
   have hb2 : Below w.heap.size w W2 := by rw [hW2]; exact below_setRow HB.out.drew (Nat.le_refl _) _
   obtain ⟨M2, hM2⟩ : ∃ M2, M2 = M + k := ⟨_, rfl⟩
   rw [← hM2] at hsp
   have w3 : IntKind.i64.wrap ((M : Int) + k) = M2 := by rw [IntWalk.i64_in _ (by omega)]; omega
   have HC2 := Lib.hid hcp
   have HG2 := Lib.hid hg2
   have HB2 := Lib.hid hb2
   have HS2 := Lib.hid (And.intro hsp.2 hsp.1)
   have q1 : M2 ≤ n := by omega
   have q2 : M < M2 := by omega
   have q3 : ¬ n = M := by omega
   have q4 : M ≤ n := hM
   have HCl := Lib.hid c2
   clear hcp hg2 hb2 hsp hW2 hM2 hk hk1 hk2 hk3 c1 c2 c3
   go_wp2
   go_region_law (refine step_copy_run rfl (.tmp 41) (.tmp 44) 23 23 rfl (.slice (some ⟨w.heap.size, M, none⟩) (n - M) (n - M)) (.slice (some ⟨w.heap.size, 0, none⟩) M n) (by simp [Act.eval, Act.put]) (by simp [Act.eval, Act.put]) (HC2.out _) ?_)
   all_goals
    simp only [Act.put, List.getElem_toArray, List.getElem_cons_zero, List.getElem_cons_succ, List.setIfInBounds_toArray, List.set_cons_zero, List.set_cons_succ]
    go_wp2
    go_roundw
    case rel => exact ⟨M2, _, by first | rfl | go_num, q1, .inr (by omega), ⟨HG2.out, by rw [HS2.out.1]; exact HCl.out, HS2.out.2⟩, HB2⟩
    case measure => simp [intOf]; omega
  ·obtain ⟨c1, c2, c3⟩ := HC.out
   have hMn : M = n := by omega
   have hown := own_close (base := w.heap.size) (size := 1) (n := n) (c := n) cur (Nat.le_refl _) c1 (Nat.le_refl _) (by unfold maxLen; omega) (by omega)
   rw [Nat.mul_one, ← hMn, c3, hMn] at hown
   have HO := Lib.hid hown
   have q5 : decide (M < n) = false := decide_eq_false hlt
   clear c1 c2 c3 hown hMn
   go_wp2
   go_ret
   exact ⟨_, rfl, by rw [List.map_replicate]; exact HO.out, HB.out⟩
set_option maxHeartbeats 400000 in
theorem wnew_ok (n : Nat) (w : World) (hn : n ≤ 256) :
  Calls Tryz.prog 16 #[.int .i64 n] w fun e w' => e = .returned (.tuple #[.slice (some ⟨w.heap.size, 0, none⟩) n n, .int .i64 0]) ∧ w' = w.alloc (.cells (madeCells #[Value.int .u64 0] n) 40) := by
 obtain ⟨i0, hi, hz0, hz1, hz2⟩ := info_parts info_u64
 have hmk := fun W => run_make_rowN (P := Tryz.prog) 22 40 i0 (.int .u64 0) Tryz.underlying22 hi hz0 .i64 .i64 n n (Nat.le_refl _) (by rw [hz2]; omega) (by omega) W
 rw [hz1, Nat.mul_one] at hmk
 have h1 : ¬ (n : Int) < 0 := by omega
 have h2 : ¬ (256 : Int) < n := by omega
 go_enter Tryz.func16, Tryz.ntmps16
 go_wp2
 go_ret2
 exact ⟨rfl, rfl⟩
set_option maxHeartbeats 400000 in
theorem wnew_bad (n : Int) (w : World) (hn : n < 0 ∨ 256 < n) :
  Calls Tryz.prog 16 #[.int .i64 n] w fun e w' => e = .returned (.tuple #[.slice none 0 0, .int .i64 4]) ∧ w' = w := by
 rcases hn with h | h
 ·go_enter Tryz.func16, Tryz.ntmps16
  go_wp2
  go_ret2
  exact ⟨rfl, rfl⟩
 ·have h1 : ¬ n < 0 := by omega
  go_enter Tryz.func16, Tryz.ntmps16
  go_wp2
  go_ret2
  exact ⟨rfl, rfl⟩
theorem results_tmp4c {fn : Func} {t u v x : Tmp} (h : fn.results = #[.tmp t, .tmp u, .tmp v, .tmp x]) (tmps : Array Value) (P : Program) (w : World) :
  (results fn tmps).run P w = .ok (.tuple #[tmps.getD t undef, tmps.getD u undef, tmps.getD v undef, tmps.getD x undef]) w := by simp [results, h]
theorem made_slots (n : Nat) : madeCells #[.int .i64 0, .bool false, .int .i64 0] (n * 3) = (slotsC (List.replicate n ⟨0, false, 0⟩)).toArray := by
 apply Array.ext
 ·simp [madeCells, slotsC_length]
 ·intro i h1 h2
  have h3 : i < n * 3 := by simpa [madeCells] using h1
  have hq : i / 3 < n := Nat.div_lt_of_lt_mul (by omega)
  have hr : i % 3 < 3 := Nat.mod_lt _ (by decide)
  have hi : i / 3 * 3 + i % 3 = i := by omega
  have h4 := slotsC_at (List.replicate n ⟨0, false, 0⟩) (i / 3) (i % 3) (by simpa using hq) hr
  rw [hi, List.getElem_replicate] at h4
  have h5 : (madeCells #[.int .i64 0, .bool false, .int .i64 0] (n * 3))[i]? = (slotC ⟨0, false, 0⟩)[i % 3]? := by
   rw [Array.getElem?_eq_getElem h1]
   have hr2 : i % 3 = 0 ∨ i % 3 = 1 ∨ i % 3 = 2 := by omega
   rcases hr2 with e | e | e <;> simp [madeCells, e, slotC]
  rw [← h4, Array.getElem?_eq_getElem h1] at h5
  rw [List.getElem?_eq_getElem (by simpa using h2)] at h5
  simpa using h5
theorem own_slots (w : World) (base n : Nat) (hb : base ≤ w.heap.size) (hn : n ≤ maxLen) :
  (w.alloc (.cells (madeCells #[.int .i64 0, .bool false, .int .i64 0] (n * 3)) 265)).ownsRow base 265 3 (.slice (some ⟨w.heap.size, 0, none⟩) n n) n (slotsC (List.replicate n ⟨0, false, 0⟩)) := by
 rw [made_slots]
 have h := own_close (w := w.alloc (.cells (slotsC (List.replicate n ⟨0, false, 0⟩)).toArray 265)) (base := base) (e := 265) (size := 3) (n := n) (c := n) (g := w.heap.size) (slotsC (List.replicate n ⟨0, false, 0⟩)) hb (heap_alloc_new w _) (Nat.le_refl _) hn (by rw [slotsC_length, List.length_replicate])
 rwa [List.take_of_length_le (by rw [slotsC_length, List.length_replicate]; exact Nat.le_refl _)] at h
theorem info_slot3 : (Tryz.prog.info? 265).map (fun i => (i.zero, i.size, i.bytes)) = some (some (.agg #[.int .i64 0, .bool false, .int .i64 0]), 3, 24) := by kernel_rfl
set_option maxHeartbeats 400000 in
theorem hnew_ok (n : Nat) (w : World) (hn : n ≤ 16) :
  Calls Tryz.prog 114 #[.int .i64 n] w fun e w' => e = .returned (.tuple #[.slice (some ⟨w.heap.size, 0, none⟩) n n, .int .i64 0]) ∧ w' = w.alloc (.cells (madeCells #[.int .i64 0, .bool false, .int .i64 0] (n * 3)) 265) := by
 obtain ⟨i0, hi, hz0, hz1, hz2⟩ := info_parts info_slot3
 have hmk := fun W => run_make_rowN (P := Tryz.prog) 111 265 i0 (.agg #[.int .i64 0, .bool false, .int .i64 0]) Tryz.underlying111 hi hz0 .i64 .i64 n n (Nat.le_refl _) (by rw [hz2]; omega) (by omega) W
 rw [hz1] at hmk
 have hcs : (Value.agg #[.int .i64 0, .bool false, .int .i64 0]).cells = #[.int .i64 0, .bool false, .int .i64 0] := rfl
 rw [hcs] at hmk
 have h1 : ¬ (n : Int) < 0 := by omega
 have h2 : ¬ (16 : Int) < n := by omega
 clear hcs
 go_enter Tryz.func114, Tryz.ntmps114
 go_wp2
 go_ret2
 exact ⟨rfl, rfl⟩
def newA (W : Nat) : List Int := if 0 < W then (List.replicate W 0).set 0 (wordOf 0 (W - 1) 0 true) else []
def newSt (W R H : Nat) : St := ⟨newA W, List.replicate R (-1), [], List.replicate H ⟨0, false, 0⟩⟩
theorem newA_length (W : Nat) : (newA W).length = W := by
 unfold newA
 split
 ·simp
 ·simp; omega
set_option maxRecDepth 100000 in
set_option maxHeartbeats 2000000 in
theorem newFn_ok (W R H : Nat) (w : World) (hW : W ≤ 256) (hR : R ≤ 32) (hH : H ≤ 16) :
  Calls Tryz.prog 98 #[.int .i64 W, .int .i64 R, .int .i64 H] w fun e w' => Below w.heap.size w w' ∧ ∃ (A1 : Option Addr) (c1 : Nat) (A2 : Option Addr) (c2 : Nat) (A4 : Option Addr) (c4 : Nat),
   e = .returned (.tuple #[.agg #[.slice A1 W c1, .slice A2 R c2, .slice none 0 0, .slice A4 H c4], .int .i64 0]) ∧ StO w' w.heap.size A1 W c1 A2 R c2 none 0 0 A4 H c4 (newSt W R H) := by
 have HW := Lib.hid (fun w => wnew_ok W w hW)
 have HHn := Lib.hid (fun w => hnew_ok H w hH)
 have HRp := Lib.hid (fun gv w hv => repeat_one gv R (-1) w hv (by omega))
 have g1 : decide (((R : Nat) : Int) < 0) = false := decide_eq_false (by omega)
 have g2 : decide (32 < R) = false := decide_eq_false (by omega)
 have g2' : decide ((32 : Int) < (R : Int)) = false := decide_eq_false (by omega)
 have hb1 := below_new w (.cells #[.slice none 0 0, .slice none 0 0, .slice none 0 0, .slice none 0 0] 113)
 have DR := Blk.new w 113 #[.slice none 0 0, .slice none 0 0, .slice none 0 0, .slice none 0 0]
 go_enter Tryz.func98, Tryz.ntmps98
 go_wp2_with fail
 refine (HW.out _).mono ?_
 rintro e w1 ⟨rfl, rfl⟩
 have hO1 := own_make1 (w.alloc (.cells #[.slice none 0 0, .slice none 0 0, .slice none 0 0, .slice none 0 0] 113)) w.heap.size 40 (.int .u64 0) W _ rfl hb1.size (by unfold maxLen; omega)
 have hb2 := hb1.alloc hb1.size (.cells (madeCells #[.int .u64 0] W) 40)
 have DR := DR.alloc (.cells (madeCells #[.int .u64 0] W) 40)
 rw [World.size_alloc] at hO1
 go_wp2_with fail
 refine (HHn.out _).mono ?_
 rintro e w2 ⟨rfl, rfl⟩
 have hO4 := own_slots ((w.alloc (.cells #[.slice none 0 0, .slice none 0 0, .slice none 0 0, .slice none 0 0] 113)).alloc (.cells (madeCells #[.int .u64 0] W) 40)) w.heap.size H hb2.size (by unfold maxLen; omega)
 have hO1 := hO1.alloc (.cells (madeCells #[.int .i64 0, .bool false, .int .i64 0] (H * 3)) 265)
 have hb3 := hb2.alloc hb2.size (.cells (madeCells #[.int .i64 0, .bool false, .int .i64 0] (H * 3)) 265)
 have DR := DR.alloc (.cells (madeCells #[.int .i64 0, .bool false, .int .i64 0] (H * 3)) 265)
 simp only [World.size_alloc] at hO4
 obtain ⟨W2, hW2⟩ : ∃ W2, W2 = ((w.alloc (.cells #[.slice none 0 0, .slice none 0 0, .slice none 0 0, .slice none 0 0] 113)).alloc (.cells (madeCells #[.int .u64 0] W) 40)).alloc (.cells (madeCells #[.int .i64 0, .bool false, .int .i64 0] (H * 3)) 265) := ⟨_, rfl⟩
 rw [← hW2] at hO1 hO4 hb3 DR ⊢
 clear hW2 hb1 hb2 HW HHn
 by_cases h0 : 0 < W
 ·have g3 : decide (0 < W) = true := decide_eq_true h0
  have g3' : decide ((0 : Int) < (W : Int)) = true := decide_eq_true (by omega)
  obtain ⟨b, hb⟩ : ∃ b : Nat, b + 1 = W := ⟨W - 1, by omega⟩
  have hw : IntKind.i64.wrap ((W : Int) - 1) = b := (IntWalk.i64_in _ (by omega)).trans (by omega)
  have HWd := Lib.hid (fun w => hword_ok 0 b 0 true w (headE_ok.2 (by simp; omega)))
  have HNA : Hid (newA W = (List.replicate W 0).set 0 (wordOf 0 b 0 true)) := by
   show _ = _
   unfold newA
   rw [if_pos h0, show ((W : Int) - 1) = b by omega]
  generalize wordOf 0 b 0 true = x at *
  go_wp2_with fail
  refine (HWd.out _).mono ?_
  rintro e w3 ⟨rfl, hb4⟩
  have hO1 := own_below hO1 hb4
  have hO4 := own_below hO4 hb4
  have DR := DR.below hb4 DR.lt
  have hb04 := below_step hb3 hb4
  have cc := hO1.cellAt 0 (by omega)
  have ff := hO1.frozenAt 0
  rw [List.getElem?_replicate, if_pos h0] at cc
  have hO1s := (hO1.stored 0 (.int .u64 x)).1
  have hO4s := own_apart hO4 (p := ⟨w.heap.size + 1, 0, none⟩) (by simp [Value.ownBlock]) (.int .u64 x)
  have hb05 := hb04.setCell (p := ⟨w.heap.size + 1, 0, none⟩) (by simp) (.int .u64 x)
  have DRs := DR.far (p := ⟨w.heap.size + 1, 0, none⟩) (by simp) (.int .u64 x)
  clear hO1 hO4 DR HWd hb3
  have DV := Blk.new (w3.setCell ⟨w.heap.size + 1, 0, none⟩ (.int .u64 x)) 3 #[.int .i64 (-1)]
  rw [World.size_setCell] at DV
  have hbv := hb05.alloc hb05.size (.cells #[.int .i64 (-1)] 3)
  have DRv := DRs.alloc (.cells #[.int .i64 (-1)] 3)
  have hO1v := hO1s.alloc (.cells #[.int .i64 (-1)] 3)
  have hO4v := hO4s.alloc (.cells #[.int .i64 (-1)] 3)
  clear hO1s hO4s DRs hb05
  go_wp2_with fail
  refine (HRp.out _ _ DV).mono ?_
  rintro e w5 ⟨g, rfl, hO2, hb6⟩
  have DRz := DRv.below hb6 DRv.lt
  have hb7 := below_step hbv hb6
  have HO : Hid (StO w5 w.heap.size (some ⟨w.heap.size + 1, 0, none⟩) W W (some ⟨g, 0, none⟩) R R none 0 0 (some ⟨w.heap.size + 1 + 1, 0, none⟩) H H (newSt W R H)) := by
   refine ⟨?_, own_mono hO2 hbv.size, World.ownsRow_nil _ _ _ _, own_below hO4v hb6⟩
   show World.ownsRow w5 w.heap.size 40 1 _ W ((newA W).map (.int .u64))
   rw [HNA.out]
   have := own_below hO1v hb6
   rw [List.map_set, List.map_replicate]
   exact this
  obtain ⟨r0, r1, r2, r3⟩ := DRz.four
  have f0 := DRz.frozen 0
  have f1 := DRz.frozen 1
  have f2 := DRz.frozen 2
  have f3 := DRz.frozen 3
  clear hO1v hO4v hO2 DRv hbv hb6 DV HRp
  go_wp2_with fail
  refine bodyPost_ret (v := .tuple #[.agg #[.slice (some ⟨w.heap.size + 1, 0, none⟩) W W, .slice (some ⟨g, 0, none⟩) R R, .slice none 0 0, .slice (some ⟨w.heap.size + 1 + 1, 0, none⟩) H H], .int .i64 0]) ?_ rfl ⟨below_block4 hb7 (Nat.le_refl _) _ _ _ _, _, W, _, R, _, H, rfl, HO.out.store DRz _ _ _ _⟩
  have z4 := (((DRz.set_ 0 (.slice (some ⟨w.heap.size + 1, 0, none⟩) W W)).set_ 1 (.slice (some ⟨g, 0, none⟩) R R)).set_ 2 (.slice none 0 0)).set_ 3 (.slice (some ⟨w.heap.size + 1 + 1, 0, none⟩) H H)
  obtain ⟨z0, z1, z2, z3⟩ := z4.four
  simp only [results, Tryz.results98]
  go_simp
 ·have g3 : decide (0 < W) = false := decide_eq_false h0
  have g3' : decide ((0 : Int) < (W : Int)) = false := decide_eq_false (by omega)
  have HNA : Hid (newA W = []) := by show _ = _; unfold newA; rw [if_neg h0]
  have DV := Blk.new (W2) 3 #[.int .i64 (-1)]
  have hbv := hb3.alloc hb3.size (.cells #[.int .i64 (-1)] 3)
  have DRv := DR.alloc (.cells #[.int .i64 (-1)] 3)
  have hO1v := hO1.alloc (.cells #[.int .i64 (-1)] 3)
  have hO4v := hO4.alloc (.cells #[.int .i64 (-1)] 3)
  clear hO1 hO4 DR hb3
  go_wp2_with fail
  refine (HRp.out _ _ DV).mono ?_
  rintro e w5 ⟨g, rfl, hO2, hb6⟩
  have DRz := DRv.below hb6 DRv.lt
  have hb7 := below_step hbv hb6
  have HO : Hid (StO w5 w.heap.size (some ⟨w.heap.size + 1, 0, none⟩) W W (some ⟨g, 0, none⟩) R R none 0 0 (some ⟨w.heap.size + 1 + 1, 0, none⟩) H H (newSt W R H)) := by
   refine ⟨?_, own_mono hO2 hbv.size, World.ownsRow_nil _ _ _ _, own_below hO4v hb6⟩
   show World.ownsRow w5 w.heap.size 40 1 _ W ((newA W).map (.int .u64))
   rw [HNA.out]
   have := own_below hO1v hb6
   rw [show W = 0 by omega] at this ⊢
   exact this
  obtain ⟨r0, r1, r2, r3⟩ := DRz.four
  have f0 := DRz.frozen 0
  have f1 := DRz.frozen 1
  have f2 := DRz.frozen 2
  have f3 := DRz.frozen 3
  clear hO1v hO4v hO2 DRv hbv hb6 DV HRp
  go_wp2_with fail
  refine bodyPost_ret (v := .tuple #[.agg #[.slice (some ⟨w.heap.size + 1, 0, none⟩) W W, .slice (some ⟨g, 0, none⟩) R R, .slice none 0 0, .slice (some ⟨w.heap.size + 1 + 1, 0, none⟩) H H], .int .i64 0]) ?_ rfl ⟨below_block4 hb7 (Nat.le_refl _) _ _ _ _, _, W, _, R, _, H, rfl, HO.out.store DRz _ _ _ _⟩
  have z4 := (((DRz.set_ 0 (.slice (some ⟨w.heap.size + 1, 0, none⟩) W W)).set_ 1 (.slice (some ⟨g, 0, none⟩) R R)).set_ 2 (.slice none 0 0)).set_ 3 (.slice (some ⟨w.heap.size + 1 + 1, 0, none⟩) H H)
  obtain ⟨z0, z1, z2, z3⟩ := z4.four
  simp only [results, Tryz.results98]
  go_simp
open Go.ChangeShapes Go.WideShapes Go.ChangeAt Go.RowKit
theorem k_int_bytes : Tryz.prog.bytesOf 3 = 8 := by kernel_rfl
theorem open_nums2 {H : Type} {enc : TypeId × Value → H} {P : Program} {t e : TypeId} {k : IntKind} {W : World} {r : Reach} {base : Nat} {sp : Nat → Bool} {v : Value} {d : DataW H} {ps : List MemPlace} (ht : P.underlying t = some (.slice e)) (he : P.underlying e = some (.int k)) (hc : P.cellsOf e = 1)
  (hval : Value.okWide P W r base t v) (hlt : ∀ x ∈ ps, x.block < W.heap.size) (h : DataW.Trod enc P W 0 sp true t v d ps) :
  ∃ (A : Option Addr) (n c : Nat) (xs : List Int), v = .slice A n c ∧ n ≤ c ∧ c ≤ maxLen ∧ Reads W W.heap.size 1 A n (xs.map (.int k)) ∧ (∀ x ∈ xs, (Lit.int k x).wf = true) ∧ (n = 0 ∨ ∃ D E, d = .slice D E ∧ D.length = n) := by
 have hk := open_nums ht he hc hval hlt h
 obtain ⟨A, n, c, xs, h1, h2, h3, h4, h5⟩ := hk
 refine ⟨A, n, c, xs, h1, h2, h3, h4, h5, ?_⟩
 subst h1
 obtain ⟨fuel, hf⟩ := h
 rcases open_ints ht he hc hf with ⟨hcs, hx⟩ | ⟨a, len, cap, zs, hcs, hb, hlc, hm, hzl, hx, hcell, hwf⟩
 ·simp [Value.cells] at hcs
  exact .inl hcs.2.1
 ·simp [Value.cells] at hcs
  obtain ⟨rfl, rfl, rfl⟩ := hcs
  simp only [Prod.mk.injEq] at hx
  obtain ⟨rfl, rfl⟩ := hx
  have hlz : n ≤ zs.length := by rw [hzl]; split <;> omega
  exact .inr ⟨_, _, rfl, by simp [lits]; omega⟩
end Go.Proofs.YtblkhipbhahmeaaGreatDoor

namespace Go.Proofs
open Go.RowKit Go.Shelf
shelf_lay LaysC.n172 Nm 172 at Tryz as Tryz.atoiL
shelf_lay LaysM.n171 Nm 171 at Tryz as Tryz.itoaL
end Go.Proofs
namespace Go.Proofs.YtblkhipbhahmeaaGreatDoor
open Go.RowKit
theorem var_below {B : Nat} {w w' : World} {nm : String} {cs : Array Value} {g : Nat} (hg : Tryz.prog.globalNamed nm = some g) (hB : g < B) (h : w.var? Tryz.prog nm = some cs) (hb : Below B w w') : w'.var? Tryz.prog nm = some cs := by
 unfold World.var? at *
 simp only [hg, Option.bind_some] at h ⊢
 rw [hb.block g hB]
 exact h
structure NTab (w : World) : Prop where
 p : Lib.TabIs Tryz.prog w "internal/strconv.uint64pow10" .u64 Lib.pow10Tab
 s : ∃ tp p, w.var? Tryz.prog "strconv.ErrSyntax" = some #[.iface tp p]
 r : ∃ tp p, w.var? Tryz.prog "strconv.ErrRange" = some #[.iface tp p]
theorem NTab.below {w w' : World} (h : NTab w) (hb : Below w.heap.size w w') : NTab w' := by
 have hlt : ∀ {nm : String} {cs : Array Value} {g : Nat}, Tryz.prog.globalNamed nm = some g → w.var? Tryz.prog nm = some cs → g < w.heap.size := fun {nm cs g} hg h => by
  unfold World.var? at h
  simp only [hg, Option.bind_some] at h
  rcases Nat.lt_or_ge g w.heap.size with h' | h'
  ·exact h'
  ·rw [Array.getElem?_eq_none h'] at h
   cases h
 refine ⟨?_, ?_, ?_⟩
 ·exact var_below (g := 0) (by kernel_rfl) (hlt (by kernel_rfl) h.p) h.p hb
 ·obtain ⟨t, p, hv⟩ := h.s
  exact ⟨t, p, var_below (g := 3) (by kernel_rfl) (hlt (by kernel_rfl) hv) hv hb⟩
 ·obtain ⟨t, p, hv⟩ := h.r
  exact ⟨t, p, var_below (g := 4) (by kernel_rfl) (hlt (by kernel_rfl) hv) hv hb⟩
def itoaB (n : Int) : ByteArray := ⟨(Lib.itoa n).toArray⟩
theorem itoaB_size {n : Int} (h0 : -9223372036854775808 ≤ n) (h1 : n ≤ 9223372036854775807) : (itoaB n).size ≤ 21 := by
 have := Lib.itoa_length_le n h0 h1
 show (Lib.itoa n).toArray.size ≤ 21
 simpa using this
theorem itoa_any (n : Int) (h0 : -9223372036854775808 ≤ n) (h1 : n ≤ 9223372036854775807) (w : World) (ht : NTab w) :
  Calls Tryz.prog 52 #[.int .i64 n] w fun e w' => e = .returned (.string (itoaB n)) ∧ Below w.heap.size w w' :=
 Calls.mono (Any.strconv_Itoa Tryz.itoaL n h0 h1 w ht.p) fun e w' h => by
  obtain ⟨rfl, k, os, rfl⟩ := h
  refine ⟨rfl, ?_⟩
  have h1 := below_drewN (Below.refl w.heap.size w) k
  exact ⟨h1.os, h1.tape, h1.output, by simp [Sort.grow, World.drewN], fun i hi => by
   rw [← h1.block i hi]
   simp only [Sort.grow, World.drewN]
   rw [Array.getElem?_append_left hi]⟩
theorem beq_bytes (a b : ByteArray) : (a.toList == b.toList) = decide (a = b) := by
 rw [ByteArray.toList_eq, ByteArray.toList_eq]
 by_cases h : a = b
 ·subst h; simp
 ·rw [decide_eq_false h]
  refine beq_eq_false_iff_ne.2 (fun e => h ?_)
  cases a; cases b
  simp only [ByteArray.mk.injEq]
  exact Array.toList_inj.1 e
def numB (s : ByteArray) : Option Int := match Lib.atoiAll s.data.toList with
 | .ok n => if -1000000000000000 < n ∧ n < 1000000000000000 ∧ itoaB n = s then some n else none
 | _ => none
set_option maxRecDepth 100000 in
set_option maxHeartbeats 1000000 in
theorem numeral_any (s : ByteArray) (hs : s.size ≤ 281474976710656) (w : World) (ht : NTab w) :
  Calls Tryz.prog 63 #[.string s] w fun e w' => Below w.heap.size w w' ∧ ∃ n : Int, e = .returned (.tuple #[.int .i64 n, .bool (numB s).isSome]) ∧ (∀ m, numB s = some m → n = m) ∧ (Lit.int .i64 n).wf = true := by
 obtain ⟨ts, ps, hvs⟩ := ht.s
 obtain ⟨tr, pr, hvr⟩ := ht.r
 cases hA : Lib.atoiAll s.data.toList with
 | range =>
   have HS := Lib.hid (Any.strconv_Atoi_range_var Tryz.atoiL s hs hA tr pr w hvr)
   have hX : numB s = none := by unfold numB; rw [hA]
   rw [hX]
   clear hA
   go_enter Tryz.func63, Tryz.ntmps63
   go_wp2_with (go_at_call 86; refine HS.out.mono ?_; rintro e w1 ⟨N, rfl, hN, hc, hb⟩)
   go_ret2
   exact ⟨hb, _, rfl, by simp, by unfold Lib.atoiSat; split <;> rfl⟩
 | ok n =>
   have hX : numB s = if -1000000000000000 < n ∧ n < 1000000000000000 ∧ itoaB n = s then some n else none := by unfold numB; rw [hA]
   obtain ⟨n0, n1⟩ := Lib.atoiAll_bounds hA
   have hwf : (Lit.int .i64 n).wf = true := by simp [Lit.wf, IntKind.min, IntKind.max, IntKind.signed, IntKind.bits]; omega
   have HA := Lib.hid (Any.strconv_Atoi_ok Tryz.atoiL s (by omega) n hA w)
   have HI := Lib.hid (fun w' hb => itoa_any n n0 n1 w' (ht.below hb))
   by_cases h1 : -1000000000000000 < n
   ·by_cases h2 : n < 1000000000000000
    ·have g1 : decide (-1000000000000000 < n) = true := decide_eq_true h1
     have g2 : decide (n < 1000000000000000) = true := decide_eq_true h2
     clear hA h1 h2 n0 n1 hvs hvr ht
     go_enter Tryz.func63, Tryz.ntmps63
     go_wp2_with (go_at_call 86; refine HA.out.mono ?_; rintro e w1 ⟨rfl, hw⟩; have hb : Below w.heap.size w w1 := (by rcases hw with rfl | ⟨t, rfl⟩ <;> first | exact Below.refl _ _ | exact Lib.bytesWorld_below _ _ _); clear hw)
     refine (HI.out w1 hb).mono ?_
     rintro e w2 ⟨rfl, hb2⟩
     go_wp2
     go_ret2
     have hX2 : (numB s).isSome = ((itoaB n).toList == s.toList) ∧ ∀ m, numB s = some m → n = m := by
      rw [hX, beq_bytes]
      by_cases h3 : itoaB n = s
      ·rw [if_pos ⟨of_decide_eq_true g1, of_decide_eq_true g2, h3⟩, decide_eq_true h3]
       exact ⟨rfl, fun m h => Option.some.inj h⟩
      ·rw [if_neg (fun h => h3 h.2.2), decide_eq_false h3]
       exact ⟨rfl, fun m h => by cases h⟩
     rw [hX2.1]
     exact ⟨hb.trans (hb2.mono hb.size), n, rfl, hX2.2, hwf⟩
    ·have g1 : decide (-1000000000000000 < n) = true := decide_eq_true h1
     have g2 : decide (n < 1000000000000000) = false := decide_eq_false h2
     rw [if_neg (fun h => h2 h.2.1)] at hX
     rw [hX]
     clear hA h1 h2 n0 n1 hvs hvr ht hX
     go_enter Tryz.func63, Tryz.ntmps63
     go_wp2_with (go_at_call 86; refine HA.out.mono ?_; rintro e w1 ⟨rfl, hw⟩; have hb : Below w.heap.size w w1 := (by rcases hw with rfl | ⟨t, rfl⟩ <;> first | exact Below.refl _ _ | exact Lib.bytesWorld_below _ _ _); clear hw)
     go_ret2
     exact ⟨hb, _, rfl, by simp, hwf⟩
   ·have g1 : decide (-1000000000000000 < n) = false := decide_eq_false h1
    rw [if_neg (fun h => h1 h.1)] at hX
    rw [hX]
    clear hA h1 n0 n1 hvs hvr ht hX
    go_enter Tryz.func63, Tryz.ntmps63
    go_wp2_with (go_at_call 86; refine HA.out.mono ?_; rintro e w1 ⟨rfl, hw⟩; have hb : Below w.heap.size w w1 := (by rcases hw with rfl | ⟨t, rfl⟩ <;> first | exact Below.refl _ _ | exact Lib.bytesWorld_below _ _ _); clear hw)
    go_ret2
    exact ⟨hb, _, rfl, by simp, hwf⟩
 | _ =>
   have HS := Lib.hid (Any.strconv_Atoi_syntax_var Tryz.atoiL s hs hA ts ps w hvs)
   have hX : numB s = none := by unfold numB; rw [hA]
   rw [hX]
   clear hA
   go_enter Tryz.func63, Tryz.ntmps63
   go_wp2_with (go_at_call 86; refine HS.out.mono ?_; rintro e w1 ⟨N, rfl, hN, hc, hb⟩)
   go_ret2
   exact ⟨hb, _, rfl, by simp, rfl⟩
def wordsB (s : ByteArray) : List ByteArray := Lib.splitB ⟨#[32]⟩ 0 (Lib.countB s ⟨#[32]⟩) s
inductive Cmd where
 | new
 | deed (kind : Nat) (many : Nat) (v : Int) (told : Bool)
 | gaps
 | live
 | roots
def Cmd.many : Cmd → Nat
 | .new => 3
 | .deed _ m _ _ => m
 | _ => 0
def Cmd.store : Cmd → Bool
 | .new => false
 | _ => true
def cmdsT : List (List UInt8 × Cmd) := [
 ([110, 101, 119], .new),
 ([109, 97, 107, 101], .deed 1 4 3 true),
 ([99, 111, 108, 108, 101, 99, 116], .deed 2 0 (-1) true),
 ([114, 101, 102], .deed 3 3 (-1) false),
 ([115, 101, 116], .deed 4 3 (-1) false),
 ([103, 101, 116], .deed 5 2 (-1) true),
 ([112, 117, 116], .deed 6 3 2 false),
 ([112, 105, 110], .deed 7 1 (-1) true),
 ([117, 110, 112, 105, 110], .deed 8 1 (-1) false),
 ([112, 101, 101, 107], .deed 9 2 (-1) true),
 ([111, 112, 101, 110], .deed 10 1 (-1) true),
 ([117, 115, 101], .deed 11 2 1 false),
 ([115, 104, 117, 116], .deed 12 1 0 false),
 ([100, 114, 111, 112], .deed 13 1 (-1) false),
 ([103, 97, 112, 115], .gaps),
 ([108, 105, 118, 101], .live),
 ([114, 111, 111, 116, 115], .roots)]
def findIn (x : List UInt8) : List (List UInt8 × Cmd) → Option Cmd
 | [] => none
 | (y, c) :: l => if (x == y) = true then some c else findIn x l
def findC (s : ByteArray) : Option Cmd := findIn s.toList cmdsT
def cntV (v : Int) : Nat → Nat
 | 0 => 0
 | j + 1 => if (j : Int) = v then cntV v j else cntV v j + 1
def OpV.put (o : OpV) (k : Nat) (x : Int) : OpV := if k = 0 then { o with a := x } else if k = 1 then { o with b := x } else { o with c := x }
def fillV (kind : Int) (v : Int) (n : List Int) : Nat → OpV
 | 0 => ⟨kind, 0, 0, 0, 0⟩
 | j + 1 => if (j : Int) = v then { fillV kind v n j with v := n.getD j 0 } else (fillV kind v n j).put (cntV v j) (n.getD j 0)
def deedV (kind : Int) (v : Int) (n : List Int) : OpV := fillV kind v n n.length
def negV (v : Int) (n : List Int) : Bool := decide (0 ≤ v) && decide (v < n.length) && decide (n.getD v.toNat 0 < 0)
structure DOut where
 st : Option St
 l : List Int
 er : Int
def newE (W R H : Int) : Int := if W < 0 ∨ 256 < W then 4 else if R < 0 ∨ 32 < R then 4 else if H < 0 ∨ 16 < H then 4 else 0
def gapsV (S : St) : List Int := (ggL S.a).flatMap fun r => [r.loc, r.len]
noncomputable def cmdO (os : Option St) (c : Cmd) (n : List Int) : DOut :=
 match c, os with
 | .new, os => if newE (n.getD 0 0) (n.getD 1 0) (n.getD 2 0) ≠ 0 then ⟨os, [], newE (n.getD 0 0) (n.getD 1 0) (n.getD 2 0)⟩ else ⟨some (newSt (n.getD 0 0).toNat (n.getD 1 0).toNat (n.getD 2 0).toNat), [], 0⟩
 | _, none => ⟨none, [], 8⟩
 | .deed k _ v told, some S =>
   if negV v n = true then ⟨some S, [], 4⟩
   else if (doO S (deedV k v n)).er ≠ 0 then ⟨some S, [], (doO S (deedV k v n)).er⟩
   else ⟨some (doO S (deedV k v n)).st, if told = true then [IntKind.i64.wrap (doO S (deedV k v n)).told] else [], 0⟩
 | .gaps, some S => ⟨some S, gapsV S, 0⟩
 | .live, some S => ⟨some S, [(S.a.length : Int) - (sweep S).2], 0⟩
 | .roots, some S => ⟨some S, S.r, 0⟩
noncomputable def lineO (os : Option St) (s : ByteArray) : DOut :=
 match findC ((wordsB s).headD ByteArray.empty) with
 | none => ⟨os, [], 1⟩
 | some c =>
   if (wordsB s).length ≠ c.many + 1 then ⟨os, [], 3⟩
   else match ((wordsB s).drop 1).mapM numB with
    | none => ⟨os, [], 3⟩
    | some n => cmdO os c n
def okB (out : ByteArray) : List Int → ByteArray
 | [] => out
 | n :: l => okB (out ++ (⟨#[32]⟩ ++ itoaB n)) l
def replyB (X : DOut) : ByteArray := if X.er ≠ 0 then ⟨#[101, 114, 114, 32]⟩ ++ itoaB X.er else okB ⟨#[111, 107]⟩ X.l
noncomputable def deskS : Option St → List ByteArray → Option St
 | os, [] => os
 | os, s :: l => deskS (lineO os s).st l
noncomputable def deskR : Option St → List ByteArray → List ByteArray
 | _, [] => []
 | os, s :: l => replyB (lineO os s) :: deskR (lineO os s).st l
theorem deskS_app : ∀ (l m : List ByteArray) (os : Option St), deskS os (l ++ m) = deskS (deskS os l) m
 | [], _, _ => rfl
 | _ :: l, m, _ => deskS_app l m _
theorem deskR_app : ∀ (l m : List ByteArray) (os : Option St), deskR os (l ++ m) = deskR os l ++ deskR (deskS os l) m
 | [], _, _ => rfl
 | s :: l, m, os => by
   show _ :: deskR _ (l ++ m) = _
   rw [deskR_app l m]
   rfl
def DGood (os : Option St) : Prop := ∀ S, os = some S → StGood S
end Go.Proofs.YtblkhipbhahmeaaGreatDoor
