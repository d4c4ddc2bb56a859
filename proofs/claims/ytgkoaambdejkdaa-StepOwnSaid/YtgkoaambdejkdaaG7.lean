/-
  Texts joined: StoreColl StObject StRef StLaw3 TriLaw StepFns StepCheck.
-/
import Derived.Deep.RegionHeld3
import Derived.StillTailTactics
import Derived.IntWalk
import Derived.Test.YtgkoaambdejkdaaG1
import Derived.Test.YtgkoaambdejkdaaG2
import Derived.Test.YtgkoaambdejkdaaG3
import Derived.Test.YtgkoaambdejkdaaG4
import Derived.Test.YtgkoaambdejkdaaG6
namespace Go.Proofs.Ytgkoaambdejkdaa
open Go.RowKit
def stE (S : St) : Int := storeE S.a S.r S.l S.p
theorem stE_ok {S : St} : stE S = 0 ↔ StOk S := storeE_ok
theorem Coll.wf {S S' : St} {fr : Int} {L Y now : List Int} (h : Coll S S' fr L Y now) (ha : ∀ x ∈ S.a, (Lit.int .u64 x).wf = true) : ∀ x ∈ S'.a, (Lit.int .u64 x).wf = true := ((cleaned_of h.is).wf h.is ha).1
end Go.Proofs.Ytgkoaambdejkdaa

namespace Go.Proofs.Ytgkoaambdejkdaa
open Go.RowKit
def objE (S : St) (slot : Int) : Int := if stE S ≠ 0 then stE S else if slot < 0 ∨ (S.r.length : Int) ≤ slot then 5 else if S.r.getD slot.toNat 0 < 0 then 5 else 0
theorem objE_ok {S : St} {slot : Int} (h : objE S slot = 0) : StOk S ∧ ∃ (k : Nat) (x : Int), slot = k ∧ S.r[k]? = some x ∧ 0 ≤ x := by
  unfold objE at h
  split at h
  · rename_i h0; exact absurd h h0
  · rename_i h0
    split at h
    · cases h
    · rename_i h1
      split at h
      · cases h
      · rename_i h2
        have hk : slot.toNat < S.r.length := by omega
        refine ⟨stE_ok.1 (by simpa using h0), slot.toNat, S.r[slot.toNat], by omega, List.getElem?_eq_getElem hk, ?_⟩
        rw [List.getD_eq_getElem?_getD, List.getElem?_eq_getElem hk] at h2
        simp only [Option.getD_some] at h2
        omega
theorem objE_of {S : St} {k : Nat} {x : Int} (hS : StOk S) (hx : S.r[k]? = some x) (h0 : 0 ≤ x) : objE S k = 0 := by
  have hk := (List.getElem?_eq_some_iff.1 hx).1
  unfold objE
  rw [if_neg (by rw [stE_ok.2 hS]; decide), if_neg (by omega), if_neg]
  rw [List.getD_eq_getElem?_getD, Int.toNat_natCast, hx]
  simp only [Option.getD_some]
  omega
structure ObjAt (S : St) (x : Int) (s : Spot) (i : Nat) : Prop where
  ix : atIx S.a x = i
  at_ : (spotsL S.a)[i]? = some s
  spot : spotAt (spotsL S.a) x = some s
  ok : SpotOk S.a s
  loc : s.loc = x
  free : s.f = false
theorem obj_at {S : St} (hS : StOk S) {x : Int} (hx : x ∈ S.begs) : ∃ s i, ObjAt S x s i := by
  obtain ⟨i, s, e1, e2, e3, e4, e5, e6, e7⟩ := spots_of_ix (checkE_ok.1 hS.arena).1 (begs_ix (hS.live x hx))
  refine ⟨s, i, e7, e2, ?_, e5, by first | exact e3 | exact e4, by first | exact e3 | exact e4⟩
  unfold spotAt
  rw [← pL_isBeg]
  rcases ixOf_cases (pL x) (spotsL S.a) with ⟨f1, f2⟩ | ⟨i', s', f1, f2, f3, f4⟩
  · have := f2 s (List.mem_of_getElem? e2)
    simp [pL, e3, e4] at this
  · have : i' = i := by omega
    subst this
    obtain rfl := Option.some.inj (f2.symm.trans e2)
    rw [List.find?_eq_some_iff_append]
    refine ⟨f3, (spotsL S.a).take i', (spotsL S.a).drop (i' + 1), ?_, fun y hy => by simp [f4 y hy]⟩
    obtain ⟨q1, q2⟩ := List.getElem?_eq_some_iff.1 f2
    rw [← q2, ← List.drop_eq_getElem_cons q1, List.take_append_drop]
end Go.Proofs.Ytgkoaambdejkdaa

namespace Go.Proofs.Ytgkoaambdejkdaa
open Go.RowKit
def spS (S : St) (slot : Int) : Spot := (spotAt (spotsL S.a) (S.r.getD slot.toNat 0)).getD ⟨0, 0, 0, 0, false⟩
def refE (S : St) (slot k other : Int) : Int := if objE S slot ≠ 0 then objE S slot else if k < 0 ∨ (spS S slot).r ≤ k then 4 else if other < 0 ∨ (S.r.length : Int) ≤ other then 5 else 0
def bodyE (S : St) (slot k : Int) : Int := if objE S slot ≠ 0 then objE S slot else if k < 0 ∨ (spS S slot).b ≤ k then 4 else 0
theorem spS_at {S : St} {k : Nat} {x : Int} {s : Spot} {i : Nat} (hx : S.r[k]? = some x) (hO : ObjAt S x s i) : spS S k = s := by
  unfold spS
  rw [List.getD_eq_getElem?_getD, Int.toNat_natCast, hx]
  simp only [Option.getD_some]
  rw [hO.spot]
  rfl
theorem root_obj {S : St} {slot : Int} (h : objE S slot = 0) : StOk S ∧ ∃ (k X : Nat) (s : Spot) (i : Nat), slot = k ∧ S.r[k]? = some (X : Int) ∧ ObjAt S X s i ∧ spS S slot = s ∧ X < S.a.length ∧ (X : Int) + s.long ≤ S.a.length := by
  obtain ⟨hOK, k, x, rfl, hx, h0⟩ := objE_ok h
  have hb := root_at (List.mem_of_getElem? hx) h0
  obtain ⟨s, i, hO⟩ := obj_at hOK hb
  obtain ⟨X, rfl⟩ := Int.eq_ofNat_of_zero_le h0
  have h1 := begs_lt hOK.arena (hOK.live _ hb)
  have h2 := hO.ok.fits
  rw [hO.loc] at h2
  exact ⟨hOK, k, X, s, i, rfl, hx, hO, spS_at hx hO, by omega, h2⟩
end Go.Proofs.Ytgkoaambdejkdaa

namespace Go.Proofs.Ytgkoaambdejkdaa
open Go.RowKit
theorem refE_zero {S : St} {slot k other : Int} (h : refE S slot k other = 0) : StOk S ∧ ∃ (k' X K O : Nat) (s : Spot) (i : Nat), slot = k' ∧ k = K ∧ other = O ∧ S.r[k']? = some (X : Int) ∧ ObjAt S X s i ∧ (K : Int) < s.r ∧ O < S.r.length := by
  unfold refE at h
  split at h
  · rename_i h0; exact absurd h h0
  · rename_i h0
    obtain ⟨hOK, k', X, s, i, rfl, hx, hO, hsp, -, -⟩ := root_obj (by simpa using h0)
    rw [hsp] at h
    split at h
    · cases h
    · split at h
      · cases h
      · exact ⟨hOK, k', X, k.toNat, other.toNat, s, i, rfl, by omega, by omega, hx, hO, by omega, by omega⟩
theorem bodyE_zero {S : St} {slot k : Int} (h : bodyE S slot k = 0) : StOk S ∧ ∃ (k' X K : Nat) (s : Spot) (i : Nat), slot = k' ∧ k = K ∧ S.r[k']? = some (X : Int) ∧ ObjAt S X s i ∧ (K : Int) < s.b := by
  unfold bodyE at h
  split at h
  · rename_i h0; exact absurd h h0
  · rename_i h0
    obtain ⟨hOK, k', X, s, i, rfl, hx, hO, hsp, -, -⟩ := root_obj (by simpa using h0)
    rw [hsp] at h
    split at h
    · cases h
    · exact ⟨hOK, k', X, k.toNat, s, i, rfl, by omega, hx, hO, by omega⟩
theorem place_begs {S : List Spot} {y : Int} (h : y = -1 ∨ y ∈ begsL S) : (placeF S (y + 1)).isSome = true := by
  rw [placeC_some]
  rcases h with rfl | h
  · exact .inl rfl
  · right
    obtain ⟨s, hs, rfl⟩ := List.mem_map.1 h
    obtain ⟨h1, h2⟩ := List.mem_filter.1 hs
    refine ⟨s, h1, ?_⟩
    unfold isPlace
    rw [h2]
    simp
theorem root_val {S : St} (hS : StOk S) {y : Int} (hy : y ∈ S.r) : (y = -1 ∨ y ∈ begsL (spotsL S.a)) ∧ -1 ≤ y ∧ y ≤ 256 := by
  obtain ⟨h1, h2, h3, h4⟩ := rootE_ok hS.roots
  have h5 := h4 y hy
  refine ⟨?_, by omega, by omega⟩
  by_cases h0 : 0 ≤ y
  · exact .inr (hS.live _ (root_at hy h0))
  · exact .inl (by omega)
theorem StOk.same {S : St} (h : StOk S) {a' : List Int} (hc : checkE a' = 0) (hl : a'.length = S.a.length) (hs : spotsL a' = spotsL S.a) : StOk ⟨a', S.r, S.p, S.l⟩ :=
  ⟨hc, by show rootE S.r a'.length = 0; rw [hl]; exact h.roots, h.pins, h.hands, fun x hx => by show x ∈ begsL (spotsL a'); rw [hs]; exact h.live x hx⟩
theorem ObjAt.same {S S' : St} {x : Int} {s : Spot} {i : Nat} (h : ObjAt S x s i) (hs : spotsL S'.a = spotsL S.a) (hS : StOk S') : ObjAt S' x s i := by
  refine ⟨?_, by rw [hs]; exact h.at_, by rw [hs]; exact h.spot, ?_, h.loc, h.free⟩
  · have := h.ix
    unfold atIx at this ⊢
    rw [hs]
    exact this
  · exact ((parse_mem (parse_ok (checkE_ok.1 hS.arena).1).2) s (by rw [hs]; exact List.mem_of_getElem? h.at_)).1
theorem put_law {S : St} (hS : StOk S) {X K : Nat} {s : Spot} {i : Nat} (hO : ObjAt S X s i) (hk : (K : Int) < s.b) (v : Int) :
    StOk ⟨S.a.set (X + 1 + s.r.toNat + K) v, S.r, S.p, S.l⟩ ∧ PaySet S.a (S.a.set (X + 1 + s.r.toNat + K) v) s (s.r.toNat + K) v := by
  have hr := hO.ok.r0
  have hm := List.mem_of_getElem? hO.at_
  have h1 := pay_set (checkE_ok.1 hS.arena).1 hm (j := s.r.toNat + K) (by omega) v
  have hloc : s.loc.toNat = X := by rw [hO.loc]; rfl
  rw [hloc, ← Nat.add_assoc] at h1
  exact ⟨hS.same (h1.check hS.arena hm (fun h => by omega)) h1.len h1.spots, h1⟩
theorem set_law {S : St} (hS : StOk S) {X K : Nat} {s : Spot} {i : Nat} (hO : ObjAt S X s i) (hk : (K : Int) < s.r) {y : Int} (hy : y = -1 ∨ y ∈ begsL (spotsL S.a)) :
    StOk ⟨S.a.set (X + 1 + K) (y + 1), S.r, S.p, S.l⟩ ∧ PaySet S.a (S.a.set (X + 1 + K) (y + 1)) s K (y + 1) := by
  have hb := hO.ok.b0
  have hm := List.mem_of_getElem? hO.at_
  have h1 := pay_set (checkE_ok.1 hS.arena).1 hm (j := K) (by omega) (y + 1)
  have hloc : s.loc.toNat = X := by rw [hO.loc]; rfl
  rw [hloc] at h1
  exact ⟨hS.same (h1.check hS.arena hm (fun _ => place_begs hy)) h1.len h1.spots, h1⟩
theorem wf_set {a : List Int} (h : ∀ x ∈ a, (Lit.int .u64 x).wf = true) {p : Nat} {v : Int} (hv : (Lit.int .u64 v).wf = true) : ∀ x ∈ a.set p v, (Lit.int .u64 x).wf = true := fun x hx => by
  rcases List.mem_or_eq_of_mem_set hx with hx | rfl
  · exact h x hx
  · exact hv
end Go.Proofs.Ytgkoaambdejkdaa

namespace Go.Proofs.Ytgkoaambdejkdaa
open Go.RowKit
theorem nodup_len : ∀ {L M : List Int}, L.Nodup → (∀ x ∈ L, x ∈ M) → L.length ≤ M.length
  | [], _, _, _ => Nat.zero_le _
  | x :: t, M, h, hs => by
    obtain ⟨h1, h2⟩ := List.nodup_cons.1 h
    have h3 := nodup_len (L := t) (M := M.erase x) h2 (fun y hy => by
      have h4 : y ≠ x := fun e => h1 (by rw [← e]; exact hy)
      exact (List.mem_erase_of_ne h4).2 (hs y (List.mem_cons_of_mem _ hy)))
    have h5 := List.length_erase_of_mem (hs x List.mem_cons_self)
    have h6 := List.length_pos_of_mem (hs x List.mem_cons_self)
    rw [List.length_cons]
    omega
def cntL (l : List Int) (x : Int) : Nat := (l.filter fun y => decide (y < x)).length
def insL (l : List Int) (x : Int) : List Int := l.take (cntL l x) ++ x :: l.drop (cntL l x)
def putL (l : List Int) (x : Int) : List Int := if x ∈ l then l else insL l x
theorem cntL_le (l : List Int) (x : Int) : cntL l x ≤ l.length := List.length_filter_le _ _
theorem insL_length (l : List Int) (x : Int) : (insL l x).length = l.length + 1 := by
  have := cntL_le l x
  unfold insL
  rw [List.length_append, List.length_cons, List.length_take, List.length_drop]
  omega
theorem insL_mem {l : List Int} {x y : Int} : y ∈ insL l x ↔ y ∈ l ∨ y = x := by
  unfold insL
  rw [List.mem_append, List.mem_cons]
  constructor
  · rintro (h | h | h)
    · exact .inl (List.mem_of_mem_take h)
    · exact .inr h
    · exact .inl (List.mem_of_mem_drop h)
  · rintro (h | h)
    · rw [← List.take_append_drop (cntL l x) l, List.mem_append] at h
      rcases h with h | h
      · exact .inl h
      · exact .inr (.inr h)
    · exact .inr (.inl h)
theorem cut_rise (x : Int) : ∀ {l : List Int}, l.Pairwise (fun a b => a < b) → (∀ y ∈ l.take (cntL l x), y < x) ∧ (∀ y ∈ l.drop (cntL l x), x ≤ y)
  | [], _ => by simp
  | a :: t, h => by
    obtain ⟨h1, h2⟩ := List.pairwise_cons.1 h
    obtain ⟨i1, i2⟩ := cut_rise x h2
    by_cases hx : a < x
    · have hc : cntL (a :: t) x = cntL t x + 1 := by simp [cntL, hx]
      rw [hc]
      simp only [List.take_succ_cons, List.drop_succ_cons]
      refine ⟨fun y hy => ?_, i2⟩
      rcases List.mem_cons.1 hy with rfl | hy
      · exact hx
      · exact i1 y hy
    · have hc : cntL (a :: t) x = 0 := by
        unfold cntL
        rw [List.length_eq_zero_iff, List.filter_eq_nil_iff]
        intro y hy
        rcases List.mem_cons.1 hy with rfl | hy
        · simpa using hx
        · have := h1 y hy
          simp only [decide_eq_true_eq]
          omega
      rw [hc]
      simp only [List.take_zero, List.drop_zero]
      refine ⟨by simp, fun y hy => ?_⟩
      rcases List.mem_cons.1 hy with rfl | hy
      · omega
      · have := h1 y hy
        omega
theorem insL_rise {l : List Int} {x : Int} (h : l.Pairwise (fun a b => a < b)) (hx : x ∉ l) : (insL l x).Pairwise (fun a b => a < b) := by
  obtain ⟨h1, h2⟩ := cut_rise x h
  have h3 : ∀ y ∈ l.drop (cntL l x), x < y := fun y hy => by
    have h4 := h2 y hy
    have h5 : y ≠ x := fun e => hx (by rw [← e]; exact List.mem_of_mem_drop hy)
    omega
  unfold insL
  refine List.pairwise_append.2 ⟨h.sublist (List.take_sublist _ _), List.pairwise_cons.2 ⟨h3, h.sublist (List.drop_sublist _ _)⟩, fun a ha b hb => ?_⟩
  have ha1 := h1 a ha
  rcases List.mem_cons.1 hb with rfl | hb
  · exact ha1
  · have := h3 b hb
    omega
theorem putL_mem {l : List Int} {x y : Int} : y ∈ putL l x ↔ y ∈ l ∨ y = x := by
  unfold putL
  split
  · rename_i h
    exact ⟨.inl, fun h2 => h2.elim id (fun e => by rw [e]; exact h)⟩
  · exact insL_mem
theorem putL_rise {l : List Int} {x : Int} (h : l.Pairwise (fun a b => a < b)) : (putL l x).Pairwise (fun a b => a < b) := by
  unfold putL
  split
  · exact h
  · rename_i hx; exact insL_rise h hx
theorem rise_le {l : List Int} (h : l.Pairwise (fun a b => a < b)) : l.Pairwise (fun a b => a ≤ b) := h.imp (fun h => Int.le_of_lt h)
theorem rise_nodup {l : List Int} (h : l.Pairwise (fun a b => a < b)) : l.Nodup := h.imp (fun h e => by omega)
theorem rise_of {l : List Int} (h : l.Pairwise (fun a b => a ≤ b)) (hn : l.Nodup) : l.Pairwise (fun a b => a < b) := by
  refine List.Pairwise.imp_of_mem (S := fun a b => a < b) (R := fun a b => a ≤ b ∧ a ≠ b) (fun _ _ h => by obtain ⟨h1, h2⟩ := h; omega) ?_
  exact h.and hn
structure TriOk (a g b : List Int) : Prop where
  ok : checkE a = 0
  gr : g.Pairwise (fun x y => x < y)
  br : b.Pairwise (fun x y => x < y)
  gb : ∀ x ∈ g, x ∈ begsL (spotsL a)
  bb : ∀ x ∈ b, x ∈ begsL (spotsL a)
  apart : ∀ x ∈ g, x ∉ b
  held : ∀ x ∈ b, ∀ y ∈ linksAt a (spotsL a) x, y ∈ g ∨ y ∈ b
def greyL (b g : List Int) (y : Int) : List Int := if y ∈ g ∨ y ∈ b then g else insL g y
theorem greyL_put (b g : List Int) (y : Int) (h : y ∉ b) : greyL b g y = putL g y := by
  unfold greyL putL
  by_cases h1 : y ∈ g
  · rw [if_pos (.inl h1), if_pos h1]
  · rw [if_neg (by intro h2; exact h2.elim h1 h), if_neg h1]
theorem greyL_mem {b g : List Int} {x y : Int} (h : x ∈ greyL b g y) : x ∈ g ∨ (x = y ∧ y ∉ b) := by
  unfold greyL at h
  split at h
  · exact .inl h
  · rename_i h2
    rcases insL_mem.1 h with h3 | h3
    · exact .inl h3
    · exact .inr ⟨h3, fun h4 => h2 (.inr h4)⟩
theorem greyL_sub {b g : List Int} {x y : Int} (h : x ∈ g) : x ∈ greyL b g y := by
  unfold greyL
  split
  · exact h
  · exact insL_mem.2 (.inl h)
theorem greyL_has (b g : List Int) (y : Int) : y ∈ greyL b g y ∨ y ∈ b := by
  unfold greyL
  split
  · assumption
  · exact .inl (insL_mem.2 (.inr rfl))
theorem greyL_rise {b g : List Int} {y : Int} (h : g.Pairwise (fun a b => a < b)) : (greyL b g y).Pairwise (fun a b => a < b) := by
  unfold greyL
  split
  · exact h
  · rename_i h2; exact insL_rise h (fun h3 => h2 (.inl h3))
theorem greyF {b : List Int} : ∀ (l g : List Int), g.Pairwise (fun a b => a < b) → (l.foldl (greyL b) g).Pairwise (fun a b => a < b) ∧ (∀ x ∈ g, x ∈ l.foldl (greyL b) g) ∧
    (∀ x ∈ l.foldl (greyL b) g, x ∈ g ∨ (x ∈ l ∧ x ∉ b)) ∧ (∀ x ∈ l, x ∈ l.foldl (greyL b) g ∨ x ∈ b)
  | [], g, h => ⟨h, fun x hx => hx, fun x hx => .inl hx, by simp⟩
  | y :: l, g, h => by
    obtain ⟨i1, i2, i3, i4⟩ := greyF (b := b) l (greyL b g y) (greyL_rise h)
    refine ⟨i1, fun x hx => i2 x (greyL_sub hx), fun x hx => ?_, fun x hx => ?_⟩
    · rcases i3 x hx with h1 | ⟨h1, h2⟩
      · rcases greyL_mem h1 with h3 | ⟨rfl, h3⟩
        · exact .inl h3
        · exact .inr ⟨List.mem_cons_self, h3⟩
      · exact .inr ⟨List.mem_cons_of_mem _ h1, h2⟩
    · rcases List.mem_cons.1 hx with rfl | hx
      · rcases greyL_has b g x with h1 | h1
        · exact .inl (i2 x h1)
        · exact .inr h1
      · exact i4 x hx
def stepB (b : List Int) (x : Int) : List Int := putL b x
def stepG (a g b : List Int) (x : Int) : List Int := (linksAt a (spotsL a) x).foldl (greyL (stepB b x)) g
theorem step_ok {a g b : List Int} {x : Int} (h : TriOk a (x :: g) b) : TriOk a (stepG a g b x) (stepB b x) ∧ (stepB b x).length = b.length + 1 ∧ (∀ y ∈ b, y ∈ stepB b x) ∧ x ∈ stepB b x ∧ (∀ y ∈ g, y ∈ stepG a g b x) ∧
    (∀ y ∈ stepG a g b x, y ∈ g ∨ y ∈ linksAt a (spotsL a) x) := by
  obtain ⟨g1, g2⟩ := List.pairwise_cons.1 h.gr
  obtain ⟨i1, i2, i3, i4⟩ := greyF (b := stepB b x) (linksAt a (spotsL a) x) g g2
  have hxb : x ∉ b := h.apart x List.mem_cons_self
  refine ⟨⟨h.ok, i1, putL_rise h.br, fun y hy => ?_, fun y hy => ?_, fun y hy hb => ?_, fun z hz y hy => ?_⟩, ?_, fun y hy => putL_mem.2 (.inl hy), putL_mem.2 (.inr rfl), i2, fun y hy => (i3 y hy).imp id (fun h => h.1)⟩
  · rcases i3 y hy with h1 | ⟨h1, -⟩
    · exact h.gb y (List.mem_cons_of_mem _ h1)
    · exact linksAt_begs h.ok x y h1
  · rcases putL_mem.1 hy with h1 | rfl
    · exact h.bb y h1
    · exact h.gb y List.mem_cons_self
  · rcases i3 y hy with h1 | ⟨-, h1⟩
    · rcases putL_mem.1 hb with h2 | rfl
      · exact h.apart y (List.mem_cons_of_mem _ h1) h2
      · have := g1 y h1; omega
    · exact h1 hb
  · rcases putL_mem.1 hz with h1 | rfl
    · rcases h.held z h1 y hy with h2 | h2
      · rcases List.mem_cons.1 h2 with rfl | h2
        · exact .inr (putL_mem.2 (.inr rfl))
        · exact .inl (i2 y h2)
      · exact .inr (putL_mem.2 (.inl h2))
    · exact i4 y hy
  · unfold stepB putL
    rw [if_neg hxb, insL_length]
structure From (a g b f : List Int) : Prop where
  has : ∀ x ∈ f, x ∈ g ∨ x ∈ b
theorem From.step {a g b f : List Int} {x : Int} (h : From a (x :: g) b f) (hT : TriOk a (x :: g) b) : From a (stepG a g b x) (stepB b x) f := by
  obtain ⟨-, -, s1, s2, s3, -⟩ := step_ok hT
  refine ⟨fun y hy => ?_⟩
  rcases h.has y hy with h1 | h1
  · rcases List.mem_cons.1 h1 with rfl | h1
    · exact .inr s2
    · exact .inl (s3 y h1)
  · exact .inr (s1 y h1)
def Least (a g b f : List Int) : Prop := ∀ X : Int → Prop, (∀ x ∈ f, X x) → (∀ x, X x → ∀ y ∈ linksAt a (spotsL a) x, X y) → ∀ x, x ∈ g ∨ x ∈ b → X x
theorem Least.step {a g b f : List Int} {x : Int} (h : Least a (x :: g) b f) (hT : TriOk a (x :: g) b) : Least a (stepG a g b x) (stepB b x) f := by
  obtain ⟨-, -, -, -, -, s4⟩ := step_ok hT
  intro X hf hc y hy
  have hx := h X hf hc x (.inl List.mem_cons_self)
  rcases hy with hy | hy
  · rcases s4 y hy with h1 | h1
    · exact h X hf hc y (.inl (List.mem_cons_of_mem _ h1))
    · exact hc x hx y h1
  · rcases putL_mem.1 hy with h1 | rfl
    · exact h X hf hc y (.inr h1)
    · exact hx
theorem reached_black {a b f : List Int} (hT : TriOk a [] b) (hF : From a [] b f) (hL : Least a [] b f) : Reached a (spotsL a) f b :=
  ⟨hT.bb, fun x hx => (hF.has x hx).elim (fun h => by simp at h) id, fun x hx y hy => (hT.held x hx y hy).elim (fun h => by simp at h) id, fun X hf hc x hx => hL X hf hc x (.inr hx), rise_le hT.br, rise_nodup hT.br⟩
theorem TriOk.black_le {a g b : List Int} (h : TriOk a g b) : b.length + g.length ≤ (begsL (spotsL a)).length := by
  have hn : (b ++ g).Nodup := List.nodup_append.2 ⟨rise_nodup h.br, rise_nodup h.gr, fun x hx y hy e => by subst e; exact h.apart x hy hx⟩
  have hs : ∀ x ∈ b ++ g, x ∈ begsL (spotsL a) := fun x hx => by
    rcases List.mem_append.1 hx with h1 | h1
    · exact h.bb x h1
    · exact h.gb x h1
  have := nodup_len hn hs
  rwa [List.length_append] at this
def writeL (a : List Int) (s : Spot) (ref : Nat) (y : Int) : List Int := a.set (s.loc.toNat + 1 + ref) (y + 1)
theorem write_law {a : List Int} (h : checkE a = 0) {s : Spot} (hs : s ∈ spotsL a) {ref : Nat} (hk : (ref : Int) < s.r) {y : Int} (hy : y = -1 ∨ y ∈ begsL (spotsL a)) :
    checkE (writeL a s ref y) = 0 ∧ (writeL a s ref y).length = a.length ∧ spotsL (writeL a s ref y) = spotsL a ∧
    (∀ x z, z ∈ linksAt (writeL a s ref y) (spotsL a) x → z ∈ linksAt a (spotsL a) x ∨ (x = s.loc ∧ z = y ∧ y ≠ -1)) := by
  have h0 := (checkE_ok.1 h).1
  have hok := (parse_mem (parse_ok h0).2 s hs).1
  have hp := pay_set h0 hs (j := ref) (by have := hok.b0; omega) (y + 1)
  have hc := hp.check h hs (fun _ => place_begs hy)
  refine ⟨hc, hp.len, hp.spots, fun x z hz => ?_⟩
  unfold linksAt at hz ⊢
  cases hx : spotAt (spotsL a) x with
  | none => rw [hx] at hz; cases hz
  | some s' =>
    rw [hx] at hz
    dsimp only at hz ⊢
    obtain ⟨hm, -, hl⟩ := spotAt_some hx
    by_cases he : s' = s
    · subst he
      unfold linksL at hz
      rw [show writeL a s' ref y = a.set (s'.loc.toNat + 1 + ref) (y + 1) from rfl, hp.refs, if_pos hk] at hz
      obtain ⟨v, hv, rfl⟩ := List.mem_map.1 hz
      obtain ⟨hv1, hv2⟩ := List.mem_filter.1 hv
      rcases List.mem_or_eq_of_mem_set hv1 with h1 | rfl
      · exact .inl (List.mem_map.2 ⟨v, List.mem_filter.2 ⟨h1, hv2⟩, rfl⟩)
      · refine .inr ⟨hl.symm, by omega, fun e => ?_⟩
        simp [e] at hv2
    · left
      unfold linksL at hz ⊢
      rw [show writeL a s ref y = a.set (s.loc.toNat + 1 + ref) (y + 1) from rfl, (hp.other s' hm he).1] at hz
      exact hz
def writeG (g b : List Int) (x y : Int) : List Int := if 0 ≤ y ∧ x ∈ b then greyL b g y else g
theorem writeG_sub {g b : List Int} {x y z : Int} (h : z ∈ g) : z ∈ writeG g b x y := by
  unfold writeG
  split
  · exact greyL_sub h
  · exact h
theorem tri_write {a g b : List Int} (h : TriOk a g b) {s : Spot} (hs : spotAt (spotsL a) s.loc = some s) {ref : Nat} (hk : (ref : Int) < s.r) {y : Int} (hy : y = -1 ∨ y ∈ begsL (spotsL a)) :
    TriOk (writeL a s ref y) (writeG g b s.loc y) b := by
  obtain ⟨hm, -, -⟩ := spotAt_some hs
  obtain ⟨w1, w2, w3, w4⟩ := write_law h.ok hm hk hy
  have hyb := begsL_bounds (checkE_ok.1 h.ok).1
  have hmem : ∀ z ∈ writeG g b s.loc y, z ∈ g ∨ (z = y ∧ 0 ≤ y ∧ y ∉ b) := by
    intro z hz
    unfold writeG at hz
    split at hz
    · rename_i hc
      rcases greyL_mem hz with h1 | ⟨rfl, h1⟩
      · exact .inl h1
      · exact .inr ⟨rfl, hc.1, h1⟩
    · exact .inl hz
  refine ⟨w1, ?_, h.br, fun z hz => ?_, by rw [w3]; exact h.bb, fun z hz hb => ?_, fun x hx z hz => ?_⟩
  · unfold writeG
    split
    · exact greyL_rise h.gr
    · exact h.gr
  · rw [w3]
    rcases hmem z hz with h1 | ⟨rfl, h1, -⟩
    · exact h.gb z h1
    · rcases hy with h2 | h2
      · omega
      · exact h2
  · rcases hmem z hz with h1 | ⟨rfl, -, h1⟩
    · exact h.apart z h1 hb
    · exact h1 hb
  · rw [w3] at hz
    rcases w4 x z hz with h1 | ⟨rfl, rfl, h2⟩
    · rcases h.held x hx z h1 with h3 | h3
      · exact .inl (writeG_sub h3)
      · exact .inr h3
    · have hz0 : 0 ≤ z := by
        rcases hy with h3 | h3
        · exact absurd h3 h2
        · exact (hyb z h3).1
      unfold writeG
      rw [if_pos ⟨hz0, hx⟩]
      exact greyL_has b g z
end Go.Proofs.Ytgkoaambdejkdaa

namespace Go.Proofs.Ytgkoaambdejkdaa
open Go.RowKit
set_option maxRecDepth 100000 in
set_option maxHeartbeats 1000000 in
theorem stepObjects_any (A : Option Addr) (n c : Nat) (a : List Int) (w : World) (hr : Reads w w.heap.size 1 A n (a.map (.int .u64))) (ha : ∀ x ∈ a, (Lit.int .u64 x).wf = true) (h0 : spotsE a = 0) :
    Calls Try.prog 40 #[.slice A n c] w fun e w' => ∃ b, e = .returned (.map (some b)) ∧ w.heap.size ≤ b ∧ MapIs w' Try.prog 3 .i64 b 300 (headF (spotsL a)) ∧ Below w.heap.size w w' := by
  have H2 := Lib.hid (spots_any A n c a w hr ha)
  rw [h0] at H2
  have hrise := spots_rise h0
  have hbnd := spots_bounds h0
  have hm256 := spotsL_length a
  generalize spotsL a = S at *
  obtain ⟨m, hm⟩ : ∃ m, m = S.length := ⟨_, rfl⟩
  rw [← hm] at H2 hm256
  have HM := Lib.hid hm
  have HR := Lib.hid hrise
  have HB := Lib.hid hbnd
  have hmm := @run_makeMap Try.prog
  clear h0 hm hrise hbnd ha
  go_enter Try.func40, Try.ntmps40
  go_wp2_with fail
  refine H2.out.mono ?_
  rintro e w1 ⟨hb1, A3, c3, rfl, hown⟩
  have hw1 := hb1.size
  have hM0 := MapIs.made w1 Try.prog 3 .i64
  have hb2 := below_step hb1 (below_new w1 (.map #[] 0))
  have HS0 := Lib.hid (hown.alloc (.map #[] 0))
  clear hown hb1
  go_wp2
  go_loopw [16] (fun i wr => ∃ (j : Nat), j ≤ m ∧ i = .int .i64 j ∧ MapIs wr Try.prog 3 .i64 w1.heap.size j (headF (S.take j)) ∧ Below w.heap.size w wr ∧ Hid (wr.ownsRow w.heap.size 89 5 (.slice A3 m c3) m (spotsC S))) (fun i _ => m - (intOf i).toNat)
  case atStart => exact ⟨0, Nat.zero_le _, rfl, hM0, hb2, HS0⟩
  case round =>
    obtain ⟨j, hj, rfl, hM, hb, HRS⟩ := hrel
    by_cases hlt : j < m
    · obtain ⟨ad, s, rfl, had, hs, c0, c1, c2', c3', c4⟩ := (Reads.of_own HRS.out).spot hlt
      have hq := HB.out s (List.mem_of_getElem? hs)
      have HT : Hid (S.take (j + 1) = S.take j ++ [s]) := by
        show _ = _
        obtain ⟨h1, rfl⟩ := List.getElem?_eq_some_iff.1 hs
        exact List.take_succ_eq_append_getElem h1
      have HJ : Hid (∀ x ∈ S.take j, x.loc < s.loc) := by
        intro x hx
        rw [List.mem_take_iff_getElem] at hx
        obtain ⟨i, hi, rfl⟩ := hx
        obtain ⟨h1, rfl⟩ := List.getElem?_eq_some_iff.1 hs
        exact List.pairwise_iff_getElem.1 HR.out i j (by omega) h1 (by omega)
      obtain ⟨loc, r, b, t, fr⟩ := s
      dsimp only at c0 c1 c2' c3' c4 hq
      have hMx := hM.alloc (.cells #[.int .i64 loc, .int .i64 r, .int .i64 b, .int .i64 t, .bool fr] 89)
      have hbx := hb.alloc hb.size (.cells #[.int .i64 loc, .int .i64 r, .int .i64 b, .int .i64 t, .bool fr] 89)
      have hSx := Blk.new wr 89 #[.int .i64 loc, .int .i64 r, .int .i64 b, .int .i64 t, .bool fr]
      have HRx := Lib.hid (HRS.out.alloc (.cells #[.int .i64 loc, .int .i64 r, .int .i64 b, .int .i64 t, .bool fr] 89))
      have hj1 : j + 1 ≤ m := hlt
      have hws := hb.size
      have s0 := hSx.cell 0
      have s1 := hSx.cell 1
      have s2 := hSx.cell 2
      have s3 := hSx.cell 3
      have s4 := hSx.cell 4
      simp only [List.getElem?_toArray, List.getElem?_cons_zero, List.getElem?_cons_succ] at s0 s1 s2 s3 s4
      clear hs HRS
      cases fr
      · have HP := Lib.hid (headF_snoc (l := S.take j) (s := ⟨loc, r, b, t, false⟩) rfl HJ.out)
        rw [← HT.out] at HP
        have hwl := hM.lt
        obtain ⟨w3, hupd, hM3, hg3⟩ := hMx.store (k := 3) (t := 79) Try.underlying3 Try.underlying79 (by unfold maxLen; omega) (x := loc) (by simp [Lit.wf, IntKind.min, IntKind.max, IntKind.signed, IntKind.bits]; omega) (.agg #[.int .i64 r, .int .i64 b, .int .i64 t, .bool false])
        have hb3 := hbx.grown hg3 (by exact hbx.size) (fun g hg => by injection hg with hg; omega)
        have HR3 : Hid (w3.ownsRow w.heap.size 89 5 (.slice (some ad) m c3) m (spotsC S)) := own_grown HRx.out hg3 (fun g hg h => by
          injection h with h
          subst h
          rcases HRx.out.2 with ⟨h2, -⟩ | ⟨g1, cap, cur, h2, -, hh, -⟩
          · cases h2
          · rw [h2] at hg
            simp only [Value.ownBlock, Option.some.injEq] at hg
            obtain ⟨D, ⟨es, ck, hmap, -⟩, -⟩ := hMx
            rw [hg, hmap] at hh
            cases hh)
        have HM3 := Lib.hid hM3
        clear hM hb hMx hbx HRx hM3
        go_wp2
        go_roundw
        case rel => exact ⟨j + 1, hj1, by go_num, by rw [HP.out]; exact HM3.out, hb3, HR3⟩
        case measure => simp [intOf]; omega
      · have HP : Hid (headF (S.take (j + 1)) = headF (S.take j)) := by show _ = _; rw [HT.out]; exact headF_free rfl
        clear hM hb
        go_wp2
        go_roundw
        case rel => exact ⟨j + 1, hj1, by go_num, by rw [HP.out]; exact hMx.mono (by omega), hbx, HRx⟩
        case measure => simp [intOf]; omega
    · have hjm : j = m := by omega
      have HMf : Hid (MapIs wr Try.prog 3 .i64 w1.heap.size 300 (headF S)) := by
        rw [hjm, List.take_of_length_le (by rw [HM.out]; exact Nat.le_refl _)] at hM
        exact hM.mono (by omega)
      have g0 : decide (j < m) = false := decide_eq_false hlt
      clear hjm hM HRS
      go_wp2
      go_ret
      exact ⟨_, rfl, hw1, HMf.out, hb⟩
set_option maxRecDepth 100000 in
set_option maxHeartbeats 1000000 in
theorem stepNamed_any (A : Option Addr) (n c : Nat) (a : List Int) (s : Spot) (fr : Bool) (w : World) (hr : Reads w w.heap.size 1 A n (a.map (.int .u64))) (hnc : n ≤ c) (hn : n ≤ 256) (hok : SpotOk a s)
    (hlk : ∀ v ∈ refsOf a s, v = 0 ∨ 1 ≤ v ∧ v ≤ 256) :
    Calls Try.prog 39 #[.slice A n c, .int .i64 s.loc, .agg #[.int .i64 s.r, .int .i64 s.b, .int .i64 s.t, .bool fr]] w fun e w' => Below w.heap.size w w' ∧ ∃ A' c', e = .returned (.slice A' (linksL a s).length c') ∧ w'.ownsRow w.heap.size 3 1 (.slice A' (linksL a s).length c') (linksL a s).length ((linksL a s).map (.int .i64)) := by
  have hal : a.length = n := by have := hr.1; simpa using this
  have hrl := refsOf_length hok
  have HLd : Hid (linksL a s = linksP (refsOf a s)) := rfl
  rw [HLd.out]
  have HRS : Hid (refsOf a s = (a.drop (s.loc.toNat + 1)).take s.r.toNat) := rfl
  have l0 := hok.loc0
  have r0 := hok.r0
  have b0 := hok.b0
  have ft := hok.fits
  generalize refsOf a s = rs at *
  obtain ⟨loc, r, bb, t, fr0⟩ := s
  simp only [Spot.long] at ft l0 r0 b0 hrl HRS ⊢
  obtain ⟨I, rfl⟩ := Int.eq_ofNat_of_zero_le l0
  obtain ⟨m, rfl⟩ := Int.eq_ofNat_of_zero_le r0
  simp only [Int.toNat_natCast] at hrl HRS
  rw [hal] at ft
  obtain ⟨p1, hp1⟩ : ∃ p1, p1 = I + 1 := ⟨_, rfl⟩
  obtain ⟨p2, hp2⟩ : ∃ p2, p2 = p1 + m := ⟨_, rfl⟩
  have w1 : IntKind.i64.wrap ((I : Int) + 1) = p1 := by rw [IntWalk.i64_in _ (by omega)]; omega
  have w2 : IntKind.i64.wrap ((p1 : Int) + m) = p2 := by rw [IntWalk.i64_in _ (by omega)]; omega
  have q1 : p1 ≤ p2 := by omega
  have q2 : p2 ≤ n := by omega
  have q3 : p2 ≤ c := by omega
  have q4 : p1 ≤ c := by omega
  have q5 : p2 - p1 = m := by omega
  rw [← hp1] at HRS
  obtain ⟨ad, rfl, had, -⟩ := hr.2 (by omega)
  have HLK := Lib.hid hlk
  have HRL := Lib.hid hrl
  have hk0 := (Blk.new w 78 #[.int .i64 m, .int .i64 bb, .int .i64 t, .bool fr]).cell 0
  simp only [List.getElem?_toArray, List.getElem?_cons_zero] at hk0
  have hb1 := below_new w (.cells #[.int .i64 m, .int .i64 bb, .int .i64 t, .bool fr] 78)
  obtain ⟨i0, hi, hz0, hz1, hz2⟩ := info_parts info_int
  clear hrl hlk hp1 hp2 hal hok
  by_cases hci : c = p1
  · have hci2 : (c == p1) = true := by simpa using hci
    have hm0 : m = 0 := by omega
    have hrs : rs = [] := List.eq_nil_of_length_eq_zero (by rw [HRL.out]; exact hm0)
    subst hrs
    have g0 : decide (0 < m) = false := decide_eq_false (by omega)
    clear hm0
    go_enter Try.func39, Try.ntmps39
    go_wp2
    go_loopw [7, 9, 20] (fun o _ i wr => o = .slice none 0 0 ∧ i = .int .i64 0 ∧ Below w.heap.size w wr) (fun _ _ _ _ => 0)
    case atStart => exact ⟨rfl, by first | rfl | simp, hb1⟩
    case round =>
      obtain ⟨rfl, rfl, hb⟩ := hrel
      go_wp2
      go_ret
      exact ⟨hb, none, 0, rfl, World.ownsRow_nil _ _ _ _⟩
  · have HG : Hid (∀ (wr : World) (j : Nat), j < m → Below w.heap.size w wr → ∃ v, rs[j]? = some v ∧ wr.cell? ((ad.add p1).add j) = some (.int .u64 v)) := by
      intro wr j hj hbw
      have h1 := (hr.below hbw).sub (lo := p1) (hi := p2) q1 q2 hnc
      rw [if_neg hci, q5] at h1
      have h2 : ((a.map (Value.int .u64)).drop p1).take m = rs.map (Value.int .u64) := by rw [HRS.out, List.map_take, List.map_drop]
      rw [h2] at h1
      obtain ⟨ad2, v, e2, -, hv, hc⟩ := h1.num hj
      simp only [Option.map_some, Option.some.injEq] at e2
      subst e2
      exact ⟨v, hv, hc⟩
    go_enter Try.func39, Try.ntmps39
    go_wp2
    go_loopw [7, 9, 20] (fun o _ i wr => ∃ (j k co : Nat) (Ao : Option Addr), j ≤ m ∧ i = .int .i64 j ∧ o = .slice Ao k co ∧ k ≤ j ∧ Hid (k = (linksP (rs.take j)).length) ∧ wr.ownsRow w.heap.size 3 1 (.slice Ao k co) k ((linksP (rs.take j)).map (.int .i64)) ∧ Below w.heap.size w wr) (fun _ _ i _ => m - (intOf i).toNat)
    case atStart => exact ⟨0, 0, 0, none, Nat.zero_le _, rfl, rfl, Nat.zero_le _, rfl, World.ownsRow_nil _ _ _ _, hb1⟩
    case round =>
      obtain ⟨j, k, co, Ao, hj, rfl, rfl, hkj, HK, HO, hb⟩ := hrel
      by_cases hlt : j < m
      · obtain ⟨v, hv, hc⟩ := HG.out wr j hlt hb
        have hlk := HLK.out v (List.mem_of_getElem? hv)
        have hj1 : j + 1 ≤ m := hlt
        by_cases h0 : v = 0
        · subst h0
          have HZ := Lib.hid (linksP_zero hv)
          clear hv
          go_wp2
          go_roundw
          case rel => exact ⟨j + 1, k, co, Ao, hj1, by go_num, rfl, by omega, by show _ = _; rw [HZ.out]; exact HK.out, by rw [HZ.out]; exact HO, hb⟩
          case measure => simp [intOf]; omega
        · obtain ⟨V, rfl⟩ : ∃ V : Nat, v = V := ⟨v.toNat, by omega⟩
          obtain ⟨z, hz⟩ : ∃ z : Nat, V = z + 1 := ⟨V - 1, by omega⟩
          have HZ := linksP_succ hv h0
          rw [show ((V : Int) - 1) = (z : Int) by omega] at HZ
          have HZ := Lib.hid HZ
          have z1 : ((V : Int) != 0) = true := by simp; omega
          have z2 : (V != 0) = true := by simp; omega
          have z3 : ¬ V = 0 := by omega
          have w4 : IntKind.i64.wrap (V : Int) = V := IntWalk.i64_in _ (by omega)
          have w5 : (V : Int) - 1 = z := by omega
          have w6 : IntKind.i64.wrap (z : Int) = z := IntWalk.i64_in _ (by omega)
          have hrn := reads_new wr [.int .i64 z] 3 1 1 rfl
          have hOy := HO.alloc (.cells #[.int .i64 z] 3)
          have hby := hb.alloc hb.size (.cells #[.int .i64 z] 3)
          have hws := hb.size
          clear hv hz HO hlk
          go_wp2_with (at_builtin; refine wpList_append_any _ rfl (.tmp 26) (.tmp 30) 23 rfl w.heap.size 3 i0 (.int .i64 0) 1 8 Try.underlying23 hi hz0 hz1 hz2 rfl (by decide) (.slice Ao k co) k _ rfl hOy _ (some ⟨wr.heap.size, 0, none⟩) 1 1 [.int .i64 z] rfl hrn (by simp [Value.oneCell']) (by unfold maxLen; omega) (by omega) (by simp; omega) ?_; rintro v' w3 hown3 hgr - -; obtain ⟨A5, c5, rfl⟩ := own_slice hown3)
          go_roundw
          case rel =>
            refine ⟨j + 1, k + 1, c5, A5, hj1, by go_num, rfl, by omega, ?_, ?_, hby.grown hgr hby.size (fun g hg => by have := (hOy.lt g hg).1; omega)⟩
            · show _ = _
              rw [HZ.out, List.length_append, ← HK.out]
              rfl
            · rw [HZ.out, List.map_append]
              exact hown3
          case measure => simp [intOf]; omega
      · have hjm : j = m := by omega
        rw [hjm, List.take_of_length_le (by rw [HRL.out]; exact Nat.le_refl _)] at HK HO
        have HO2 := Lib.hid HO
        have g0 : decide (j < m) = false := decide_eq_false hlt
        clear hjm HO
        go_wp2
        go_ret
        exact ⟨hb, Ao, co, by rw [← HK.out]; rfl, by rw [← HK.out]; exact HO2.out⟩
theorem rise_adj : ∀ {l : List Int}, (∀ k x y, l[k]? = some x → l[k + 1]? = some y → x < y) → l.Pairwise (fun x y => x < y)
  | [], _ => List.Pairwise.nil
  | [a], _ => by simp
  | a :: b :: t, h => by
    have ih := rise_adj (l := b :: t) (fun k x y h1 h2 => h (k + 1) x y (by simpa using h1) (by simpa using h2))
    have hab : a < b := h 0 a b rfl rfl
    refine List.pairwise_cons.2 ⟨fun z hz => ?_, ih⟩
    rcases List.mem_cons.1 hz with rfl | hz
    · exact hab
    · have := (List.pairwise_cons.1 ih).1 z hz
      omega
set_option maxRecDepth 100000 in
set_option maxHeartbeats 1000000 in
theorem stepRises_any (A : Option Addr) (n c B : Nat) (l : List Int) (w : World) (hr : Reads w B 1 A n (l.map (.int .i64))) (hn : n ≤ 1000000000000000000) (b : Bool) (hb : decide (l.Pairwise (fun x y => x < y)) = b) :
    Calls Try.prog 44 #[.slice A n c] w fun e w' => e = .returned (.bool b) ∧ Below w.heap.size w w' := by
  have hll : l.length = n := by have := hr.1; simpa using this
  have HL := Lib.hid hll
  have HB := Lib.hid hb
  clear hll hb
  go_enter Try.func44, Try.ntmps44
  go_wp2
  go_loopw [3, 4] (fun i _ wr => ∃ (j : Nat), 1 ≤ j ∧ (j ≤ n ∨ j = 1) ∧ i = .int .i64 j ∧ Hid (∀ k, k + 1 < j → ∀ x y, l[k]? = some x → l[k + 1]? = some y → x < y) ∧ ∃ q, wr = w.drewN q) (fun i _ _ => n - (intOf i).toNat)
  case atStart => exact ⟨1, Nat.le_refl _, .inr rfl, rfl, fun k hk => by omega, 0, rfl⟩
  case round =>
    obtain ⟨j, hj, hjn, rfl, HP, q, rfl⟩ := hrel
    by_cases hlt : j < n
    · obtain ⟨p, hjp⟩ : ∃ p, j = p + 1 := ⟨j - 1, by omega⟩
      have HJ := Lib.hid hjp
      obtain ⟨ad, x, rfl, had, hx, cx⟩ := hr.num (k := p) (by omega)
      obtain ⟨ad2, y, e2, -, hy, cy⟩ := hr.num (k := j) hlt
      obtain rfl : ad = ad2 := by injection e2
      have w1 : IntKind.i64.wrap ((j : Int) - 1) = p := by rw [IntWalk.i64_in _ (by omega)]; omega
      have w2 : (j : Int) - 1 = p := by omega
      have hpn : p < n := by omega
      have hj1 : j + 1 ≤ n := hlt
      have HX := Lib.hid hx
      have HY := Lib.hid hy
      clear hx hy hjp e2
      by_cases hge : y ≤ x
      · have HF : Hid (b = false) := by
          show _ = _
          rw [← HB.out]
          refine decide_eq_false (fun h => ?_)
          have := List.pairwise_iff_getElem.1 h p j (List.getElem?_eq_some_iff.1 HX.out).1 (List.getElem?_eq_some_iff.1 HY.out).1 (by have := HJ.out; omega)
          rw [(List.getElem?_eq_some_iff.1 HX.out).2, (List.getElem?_eq_some_iff.1 HY.out).2] at this
          omega
        have g0 : decide (y ≤ x) = true := decide_eq_true hge
        obtain rfl := HF.out
        go_wp2
        go_quiet (fail)
        go_wp2
        go_ret
        exact ⟨rfl, below_drewN (below_drewN (Below.refl _ _) _) _⟩
      · have g0 : decide (y ≤ x) = false := decide_eq_false hge
        have HP2 : Hid (∀ k, k + 1 < j + 1 → ∀ x y, l[k]? = some x → l[k + 1]? = some y → x < y) := by
          intro k hk u v hu hv
          by_cases hkp : k = p
          · subst hkp
            rw [← HJ.out] at hv
            obtain rfl := Option.some.inj (hu.symm.trans HX.out)
            obtain rfl := Option.some.inj (hv.symm.trans HY.out)
            omega
          · exact HP.out k (by have := HJ.out; omega) u v hu hv
        go_wp2
        go_quiet (fail)
        go_wp2
        go_roundw
        case rel => exact ⟨j + 1, by omega, .inl hj1, by go_num, HP2, _, rfl⟩
        case measure => simp [intOf]; omega
    · have HF : Hid (b = true) := by
        show _ = _
        rw [← HB.out]
        refine decide_eq_true (rise_adj fun k x y hx hy => ?_)
        have := (List.getElem?_eq_some_iff.1 hy).1
        exact HP.out k (by have := HL.out; omega) x y hx hy
      have g0 : decide (j < n) = false := decide_eq_false hlt
      obtain rfl := HF.out
      go_wp2
      go_ret
      exact ⟨rfl, below_drewN (Below.refl _ _) _⟩
def triV (A : Option Addr) (n c : Nat) (G : Option Addr) (gn gc : Nat) (K : Option Addr) (kn kc : Nat) : List Value := [.slice A n c, .slice G gn gc, .slice K kn kc]
set_option maxHeartbeats 400000 in
theorem stepWhite_any (A : Option Addr) (n c : Nat) (G : Option Addr) (gn gc : Nat) (K : Option Addr) (kn kc B : Nat) (g b : List Int) (x : Int) (w : World) (hg : Reads w B 1 G gn (g.map (.int .i64))) (hk : Reads w B 1 K kn (b.map (.int .i64))) (hgn : gn ≤ 1000000000000000000) (hkn : kn ≤ 1000000000000000000) (hB : B ≤ w.heap.size)
    (r : Bool) (hr : (!decide (x ∈ g) && !decide (x ∈ b)) = r) :
    Calls Try.prog 41 #[.agg #[.slice A n c, .slice G gn gc, .slice K kn kc], .int .i64 x] w fun e w' => e = .returned (.bool r) ∧ Below w.heap.size w w' := by
  have hb0 := below_new w (.cells #[.slice A n c, .slice G gn gc, .slice K kn kc] 25)
  have hBl := Blk.new w 25 #[.slice A n c, .slice G gn gc, .slice K kn kc]
  have k1 := hBl.cell 1
  have k2 := hBl.cell 2
  simp only [List.getElem?_toArray, List.getElem?_cons_zero, List.getElem?_cons_succ] at k1 k2
  have HR := Lib.hid hr
  cases hxg : decide (x ∈ g)
  · cases hxb : decide (x ∈ b)
    · have H1 := Lib.hid (contains_int G gn gc B g x false _ (hg.below (hb0.mono hB)) hgn hxg)
      have H2 := Lib.hid (contains_int K kn kc B b x false _ (hk.below (hb0.mono hB)) hkn hxb)
      have hr2 : r = true := by rw [← HR.out, hxg, hxb]; rfl
      subst hr2
      clear hxg hxb hg hk hr HR
      go_enter Try.func41, Try.ntmps41
      go_wp2_with (go_at_call 20; (first | (with_reducible refine H1.out.mono ?_) | (with_reducible refine H2.out.mono ?_)); rintro e w' ⟨rfl, rfl⟩)
      go_ret
      exact ⟨by first | rfl | simp, hb0⟩
    · have H1 := Lib.hid (contains_int G gn gc B g x false _ (hg.below (hb0.mono hB)) hgn hxg)
      have H2 := Lib.hid (contains_int K kn kc B b x true _ (hk.below (hb0.mono hB)) hkn hxb)
      have hr2 : r = false := by rw [← HR.out, hxg, hxb]; rfl
      subst hr2
      clear hxg hxb hg hk hr HR
      go_enter Try.func41, Try.ntmps41
      go_wp2_with (go_at_call 20; (first | (with_reducible refine H1.out.mono ?_) | (with_reducible refine H2.out.mono ?_)); rintro e w' ⟨rfl, rfl⟩)
      go_ret
      exact ⟨by first | rfl | simp, hb0⟩
  · have H1 := Lib.hid (contains_int G gn gc B g x true _ (hg.below (hb0.mono hB)) hgn hxg)
    have hr2 : r = false := by rw [← HR.out, hxg]; rfl
    subst hr2
    clear hxg hg hk hr HR
    go_enter Try.func41, Try.ntmps41
    go_wp2_with (go_at_call 20; (with_reducible refine H1.out.mono ?_); rintro e w' ⟨rfl, rfl⟩)
    go_ret
    exact ⟨by first | rfl | simp, hb0⟩
end Go.Proofs.Ytgkoaambdejkdaa

namespace Go.Proofs.Ytgkoaambdejkdaa
open Go.RowKit
def StepRet (a g b : List Int) (e : Ending) : Prop := ∃ E, e = .returned (.int .i64 E) ∧ (E = 0 ↔ TriOk a g b)
set_option maxHeartbeats 400000 in
theorem stepCheck1_any (x : Int) (bt : Nat) (A : Option Addr) (n c : Nat) (G : Option Addr) (gn gc : Nat) (K : Option Addr) (kn kc B : Nat) (b : List Int) (w : World) (hb : Blk w bt 25 #[.slice A n c, .slice G gn gc, .slice K kn kc]) (hk : Reads w B 1 K kn (b.map (.int .i64))) (hkn : kn ≤ 1000000000000000000) :
    Calls Try.prog 45 #[.int .i64 x, .pointer (some ⟨bt, 0, none⟩)] w fun e w' => e = .returned (.bool (decide (x ∈ b))) ∧ Below w.heap.size w w' := by
  have k2 := hb.cell 2
  simp only [List.getElem?_toArray, List.getElem?_cons_zero, List.getElem?_cons_succ] at k2
  generalize hx : decide (x ∈ b) = r
  have H := Lib.hid (contains_int K kn kc B b x r w hk hkn hx)
  clear hx hk hb
  go_enter Try.func45, Try.ntmps45
  go_wp2_with (go_at_call 20; refine H.out.mono ?_; rintro e w' ⟨rfl, rfl⟩)
  go_ret
  exact ⟨by first | rfl | simp, Below.refl _ _⟩
set_option maxHeartbeats 400000 in
theorem stepCheck2_any (x : Int) (bt : Nat) (A : Option Addr) (n c : Nat) (G : Option Addr) (gn gc : Nat) (K : Option Addr) (kn kc B : Nat) (g b : List Int) (w : World) (hb : Blk w bt 25 #[.slice A n c, .slice G gn gc, .slice K kn kc]) (hg : Reads w B 1 G gn (g.map (.int .i64))) (hk : Reads w B 1 K kn (b.map (.int .i64))) (hgn : gn ≤ 1000000000000000000) (hkn : kn ≤ 1000000000000000000) (hB : B ≤ w.heap.size) :
    Calls Try.prog 46 #[.int .i64 x, .pointer (some ⟨bt, 0, none⟩)] w fun e w' => e = .returned (.bool (!decide (x ∈ g) && !decide (x ∈ b))) ∧ Below w.heap.size w w' := by
  have k0 := hb.cell 0
  have k1 := hb.cell 1
  have k2 := hb.cell 2
  simp only [List.getElem?_toArray, List.getElem?_cons_zero, List.getElem?_cons_succ] at k0 k1 k2
  generalize hx : (!decide (x ∈ g) && !decide (x ∈ b)) = r
  have H := Lib.hid (stepWhite_any A n c G gn gc K kn kc B g b x w hg hk hgn hkn hB r hx)
  clear hx hk hg hb
  go_enter Try.func46, Try.ntmps46
  go_wp2_with fail
  refine H.out.mono ?_
  rintro e w' ⟨rfl, hb'⟩
  go_wp2
  go_ret
  exact ⟨by first | rfl | simp, hb'⟩
set_option maxRecDepth 100000 in
set_option maxHeartbeats 2000000 in
theorem stepCheck_any (A : Option Addr) (n c : Nat) (G : Option Addr) (gn gc : Nat) (K : Option Addr) (kn kc : Nat) (a g b : List Int) (w : World) (hr : Reads w w.heap.size 1 A n (a.map (.int .u64))) (hnc : n ≤ c) (ha : ∀ x ∈ a, (Lit.int .u64 x).wf = true)
    (hg : Reads w w.heap.size 1 G gn (g.map (.int .i64))) (hgx : ∀ x ∈ g, (Lit.int .i64 x).wf = true) (hk : Reads w w.heap.size 1 K kn (b.map (.int .i64))) (hkx : ∀ x ∈ b, (Lit.int .i64 x).wf = true) (hq : gn + kn ≤ 35184372088832) :
    Calls Try.prog 13 #[.agg #[.slice A n c, .slice G gn gc, .slice K kn kc]] w fun e w' => StepRet a g b e ∧ Below w.heap.size w w' := by
  have hb0 := below_new w (.cells #[.slice A n c, .slice G gn gc, .slice K kn kc] 25)
  have hBt := Blk.new w 25 #[.slice A n c, .slice G gn gc, .slice K kn kc]
  have k0 := hBt.cell 0
  have k1 := hBt.cell 1
  have k2 := hBt.cell 2
  simp only [List.getElem?_toArray, List.getElem?_cons_zero, List.getElem?_cons_succ] at k0 k1 k2
  have H := Lib.hid (checkFn_any A n c a _ ((hr.below hb0).more hb0.size) hnc ha)
  by_cases hE : checkE a = 0
  · have h0 := (checkE_ok.1 hE).1
    have hal := (parse_ok h0).1
    have hn : n ≤ 256 := by have := hr.1; simp at this; omega
    rw [hE] at H
    have HO := Lib.hid (fun w hr => stepObjects_any A n c a w hr ha h0)
    have HE := Lib.hid hE
    have HR1 := Lib.hid (fun w B hr => stepRises_any G gn gc B g w hr (by omega))
    have HR2 := Lib.hid (fun w B hr => stepRises_any K kn kc B b w hr (by omega))
    have HA := Lib.hid ha
    have HGX := Lib.hid hgx
    have HKX := Lib.hid hkx
    have HH0 := Lib.hid h0
    clear hE ha hgx hkx h0 hal
    go_enter Try.func13, Try.ntmps13
    go_wp2_with fail
    refine H.out.mono ?_
    rintro e w1 ⟨rfl, hb1⟩
    have hb01 := below_step hb0 hb1
    have hBt := hBt.below hb1 hBt.lt
    have k0 := hBt.cell 0
    have k1 := hBt.cell 1
    have k2 := hBt.cell 2
    simp only [List.getElem?_toArray, List.getElem?_cons_zero, List.getElem?_cons_succ] at k0 k1 k2
    have HR1 := HR1.out w1 w.heap.size (hg.below hb01)
    by_cases hgr : g.Pairwise (fun x y => x < y)
    · have HR1 := Lib.hid (HR1 true (decide_eq_true hgr))
      have HGR := Lib.hid hgr
      clear hgr
      go_wp2_with fail
      refine HR1.out.mono ?_
      rintro e w2 ⟨rfl, hb2⟩
      have hb02 := below_step hb01 hb2
      have hBt := hBt.below hb2 hBt.lt
      have k0 := hBt.cell 0
      have k1 := hBt.cell 1
      have k2 := hBt.cell 2
      simp only [List.getElem?_toArray, List.getElem?_cons_zero, List.getElem?_cons_succ] at k0 k1 k2
      have HR2 := HR2.out w2 w.heap.size (hk.below hb02)
      by_cases hbr : b.Pairwise (fun x y => x < y)
      · have HR2 := Lib.hid (HR2 true (decide_eq_true hbr))
        have HBR := Lib.hid hbr
        clear hbr
        go_wp2_with fail
        refine HR2.out.mono ?_
        rintro e w3 ⟨rfl, hb3⟩
        have hb03 := below_step hb02 hb3
        have hBt := hBt.below hb3 hBt.lt
        have k0 := hBt.cell 0
        have k1 := hBt.cell 1
        have k2 := hBt.cell 2
        simp only [List.getElem?_toArray, List.getElem?_cons_zero, List.getElem?_cons_succ] at k0 k1 k2
        have HO := HO.out w3 ((hr.below hb03).more hb03.size)
        have HO := Lib.hid HO
        clear HR1 HR2 hb1 hb2 hb3 hb01 hb02
        go_wp2_with fail
        refine HO.out.mono ?_
        rintro e w4 ⟨bm, rfl, hbm, hM, hb4⟩
        have hb04 := below_step hb03 hb4
        have hBt := hBt.below hb4 hBt.lt
        have k0 := hBt.cell 0
        have k1 := hBt.cell 1
        have k2 := hBt.cell 2
        simp only [List.getElem?_toArray, List.getElem?_cons_zero, List.getElem?_cons_succ] at k0 k1 k2
        -- the two lists, one behind the other
        have hbv := below_step hb04 (below_new w4 (.cells #[.slice G gn gc, .slice K kn kc] 23))
        have hv := reads_new w4 [.slice G gn gc, .slice K kn kc] 23 2 1 rfl
        have HCo := Lib.hid (concat2_int G gn gc (g.map (.int .i64)) K kn kc (b.map (.int .i64)) (some ⟨w4.heap.size, 0, none⟩) 2 _ (hv.more (by simp)) ((hg.below hbv).more hbv.size) ((hk.below hbv).more hbv.size) (ints_one g) (ints_one b) hq)
        clear HO hv
        go_wp2_with fail
        refine HCo.out.mono ?_
        rintro e w5 ⟨A5, c5, rfl, hown5, hb5⟩
        have hb05 := below_step hbv hb5
        have hM := (hM.alloc (.cells #[.slice G gn gc, .slice K kn kc] 23)).below hb5 (hM.alloc (.cells #[.slice G gn gc, .slice K kn kc] 23)).lt
        have hBt := (hBt.alloc (.cells #[.slice G gn gc, .slice K kn kc] 23)).below hb5 (hBt.alloc (.cells #[.slice G gn gc, .slice K kn kc] 23)).lt
        rw [← List.map_append] at hown5
        obtain ⟨m, hm⟩ : ∃ m, m = gn + kn := ⟨_, rfl⟩
        rw [← hm] at hown5 ⊢
        have HO5 := Lib.hid hown5
        have hbmlt := hM.lt
        have hbtlt := hBt.lt
        have HM := Lib.hid hm
        have hmq : m ≤ 35184372088832 := by omega
        clear HCo hown5 hb5 hbv hb04 hb03 hb0 hm hb4
        go_wp2
        go_loopw [6, 7, 8, 37] (fun _ _ _ i wr => ∃ j : Nat, j ≤ m ∧ i = .int .i64 j ∧ Hid (∀ x ∈ (g ++ b).take j, x ∈ begsL (spotsL a)) ∧ Below w5.heap.size w5 wr) (fun _ _ _ i _ => m - (intOf i).toNat)
        case atStart => exact ⟨0, Nat.zero_le _, rfl, by intro x hx; simp at hx, Below.refl _ _⟩
        case round =>
          obtain ⟨j, hj, rfl, HF, hb⟩ := hrel
          have hMr := hM.below hb hbmlt
          have hbw := below_step hb05 hb
          by_cases hlt : j < m
          · obtain ⟨ad, x, rfl, had, hx, cx⟩ := (Reads.of_own (own_below HO5.out hb)).num hlt
            have hxm := List.mem_of_getElem? hx
            have hxw : (Lit.int .i64 x).wf = true := (List.mem_append.1 hxm).elim (HGX.out x) (HKX.out x)
            have hlook := hMr.look_ok (k := 3) (t := 79) Try.underlying3 Try.underlying79 (zero_head _) hxw
            have hj1 : j + 1 ≤ m := hlt
            by_cases hmem : x ∈ begsL (spotsL a)
            · obtain ⟨s, hs⟩ := begsL_iff.1 hmem
              have e1 : headF (spotsL a) x = some (headC s) := by unfold headF; rw [hs]; rfl
              rw [e1] at hlook
              obtain ⟨loc, r, bb, t, fr⟩ := s
              have hlook2 : (Instr.lookup 79 (.map (some bm)) (.int .i64 x) true).run Try.prog wr = .ok (.tuple #[.agg #[.int .i64 r, .int .i64 bb, .int .i64 t, .bool fr], .bool true]) wr := hlook
              have HF2 : Hid (∀ y ∈ (g ++ b).take (j + 1), y ∈ begsL (spotsL a)) := by
                intro y hy
                rcases take_succ_mem hx y hy with h | rfl
                · exact HF.out y h
                · exact hmem
              have hbx := hb.alloc hb.size (.cells #[.int .i64 r, .int .i64 bb, .int .i64 t, .bool fr] 78)
              clear hlook hx hs e1 HF hxm hmem
              go_wp2
              go_roundw
              case rel => exact ⟨j + 1, hj1, by go_num, HF2, hbx⟩
              case measure => simp [intOf]; omega
            · have e1 : headF (spotsL a) x = none := by
                have : ¬ (headF (spotsL a) x).isSome = true := fun h => hmem (headF_isSome.1 h)
                simpa using this
              rw [e1] at hlook
              have hlook2 : (Instr.lookup 79 (.map (some bm)) (.int .i64 x) true).run Try.prog wr = .ok (.tuple #[.agg #[.int .i64 0, .int .i64 0, .int .i64 0, .bool false], .bool false]) wr := hlook
              have HN : Hid (¬ TriOk a g b) := fun h => hmem ((List.mem_append.1 hxm).elim (h.gb x) (h.bb x))
              have hbx := hb.alloc hb.size (.cells #[.int .i64 0, .int .i64 0, .int .i64 0, .bool false] 78)
              clear hlook hx e1 HF hxm hmem
              go_wp2
              go_ret
              exact ⟨⟨5, rfl, fun h => by omega, fun h => absurd h HN.out⟩, below_step hb05 hbx⟩
          · have HF2 : Hid (∀ y ∈ g ++ b, y ∈ begsL (spotsL a)) := by
              have := HF.out
              rw [List.take_of_length_le (by have h1 := hg.1; have h2 := hk.1; simp only [List.length_map, Nat.mul_one] at h1 h2; have := HM.out; rw [List.length_append]; omega)] at this
              exact this
            have g0 : decide (j < m) = false := decide_eq_false hlt
            have hBr := hBt.below hb hbtlt
            have k0 := hBr.cell 0
            have k1 := hBr.cell 1
            have k2 := hBr.cell 2
            simp only [List.getElem?_toArray, List.getElem?_cons_zero, List.getElem?_cons_succ] at k0 k1 k2
            have hgr := hg.below hbw
            have hkr := hk.below hbw
            obtain ⟨wo, hwo⟩ : ∃ x, x = wr := ⟨wr, rfl⟩
            subst hwo
            have HCF := Lib.hid (containsIntF_any 45 (.pointer (some ⟨w.heap.size, 0, none⟩)) G gn gc _ g (fun y => decide (y ∈ b)) wo hgr hbw.size (by omega) (plain_of (fn := Try.f45) Try.func45 (by kernel_rfl) (by kernel_rfl)) (fun w' y hb' _ =>
              stepCheck1_any y w.heap.size A n c G gn gc K kn kc w.heap.size b w' (hBr.below hb' hBr.lt) (hkr.below (hb'.mono hbw.size)) (by omega)))
            clear HF hM hBt hb hgr hkr HO5
            have hcf1 := fun (x : Value) (w : World) => (plain_of (fn := Try.f45) Try.func45 (by kernel_rfl) (by kernel_rfl)) #[x, .pointer (some ⟨w.heap.size, 0, none⟩)] w
            go_wp2_with fail
            refine HCF.out.mono ?_
            rintro e w6 ⟨rfl, hb6⟩
            have hb06 := below_step hbw hb6
            have hBr := hBr.below hb6 hBr.lt
            have hMr := hMr.below hb6 hMr.lt
            have k0 := hBr.cell 0
            have k1 := hBr.cell 1
            have k2 := hBr.cell 2
            simp only [List.getElem?_toArray, List.getElem?_cons_zero, List.getElem?_cons_succ] at k0 k1 k2
            clear HCF hcf1 hb6 hbw
            by_cases hmt : (g.any fun y => decide (y ∈ b)) = true
            · have HN : Hid (¬ TriOk a g b) := fun h => by
                obtain ⟨y, h1, h2⟩ := List.any_eq_true.1 hmt
                exact h.apart y h1 (by simpa using h2)
              generalize (g.any fun y => decide (y ∈ b)) = r at *
              subst hmt
              go_wp2
              go_ret
              exact ⟨⟨6, rfl, fun h => by omega, fun h => absurd h HN.out⟩, hb06⟩
            · have HAp : Hid (∀ y ∈ g, y ∉ b) := fun y h1 h2 => hmt (List.any_eq_true.2 ⟨y, h1, by simpa using h2⟩)
              have hmt : (g.any fun y => decide (y ∈ b)) = false := by simpa using hmt
              generalize (g.any fun y => decide (y ∈ b)) = r at *
              subst hmt
              have hcf2 := fun (x : Value) (w : World) => (plain_of (fn := Try.f46) Try.func46 (by kernel_rfl) (by kernel_rfl)) #[x, .pointer (some ⟨w6.heap.size, 0, none⟩)] w
              have hbtl := hBr.lt
              have hbml := hMr.lt
              clear hcf2
              go_wp2
              go_loopw [10, 57] (fun _ i wr => ∃ j : Nat, j ≤ kn ∧ i = .int .i64 j ∧ Hid (∀ x ∈ b.take j, ∀ y ∈ linksAt a (spotsL a) x, y ∈ g ∨ y ∈ b) ∧ Below w6.heap.size w6 wr) (fun _ i _ => kn - (intOf i).toNat)
              case atStart => exact ⟨0, Nat.zero_le _, rfl, by intro x hx; simp at hx, Below.refl _ _⟩
              case round =>
                obtain ⟨j, hj, rfl, HF, hb⟩ := hrel
                have hMw := hMr.below hb hbml
                have hBw := hBr.below hb hbtl
                have hb0w := below_step hb06 hb
                have k0 := hBw.cell 0
                have k1 := hBw.cell 1
                have k2 := hBw.cell 2
                simp only [List.getElem?_toArray, List.getElem?_cons_zero, List.getElem?_cons_succ] at k0 k1 k2
                by_cases hlt : j < kn
                · obtain ⟨ad, x, rfl, had, hx, cx⟩ := (hk.below hb0w).num hlt
                  have hxb := List.mem_of_getElem? hx
                  have hxw := HKX.out x hxb
                  have hlook := hMw.look (k := 3) (t := 79) Try.underlying3 Try.underlying79 (zero_head _) hxw
                  obtain ⟨s, hs⟩ := begsL_iff.1 (HF2.out x (List.mem_append_right _ hxb))
                  have e1 : headF (spotsL a) x = some (headC s) := by unfold headF; rw [hs]; rfl
                  rw [e1] at hlook
                  obtain ⟨hsS, -, hsl⟩ := spotAt_some hs
                  have hok := (parse_mem (parse_ok HH0.out).2 s hsS).1
                  have hlk : linksAt a (spotsL a) x = linksL a s := by unfold linksAt; rw [hs]
                  have hbd : ∀ v ∈ refsOf a s, v = 0 ∨ 1 ≤ v ∧ v ≤ 256 := fun v hv => by
                    by_cases hv0 : v = 0
                    · exact .inl hv0
                    · have h1 : v - 1 ∈ linksL a s := List.mem_map.2 ⟨v, List.mem_filter.2 ⟨hv, by simpa using hv0⟩, rfl⟩
                      have := begsL_bounds HH0.out _ (links_begs HE.out hsS _ h1)
                      exact .inr (by omega)
                  have HN := stepNamed_any A n c a s s.f wr ((hr.below hb0w).more hb0w.size) hnc hn hok hbd
                  rw [hsl] at HN
                  have HN := Lib.hid HN
                  have hlen : (linksL a s).length ≤ 256 := by
                    have h1 : (linksL a s).length ≤ (refsOf a s).length := by
                      unfold linksL
                      rw [List.length_map]
                      exact List.length_filter_le _ _
                    have h2 := refsOf_length hok
                    have h3 := hok.fits
                    have h4 := (parse_ok HH0.out).1
                    have h5 := hok.loc0
                    have h6 := hok.b0
                    unfold Spot.long at h3
                    omega
                  have HLK := Lib.hid hlk
                  have HT : Hid (b.take (j + 1) = b.take j ++ [x]) := by
                    show _ = _
                    obtain ⟨h1, rfl⟩ := List.getElem?_eq_some_iff.1 hx
                    exact List.take_succ_eq_append_getElem h1
                  have HXB := Lib.hid hxb
                  generalize linksL a s = L at *
                  obtain ⟨loc, r, bb, t, fr⟩ := s
                  have hlook2 : (Instr.lookup 79 (.map (some bm)) (.int .i64 x) false).run Try.prog wr = .ok (.agg #[.int .i64 r, .int .i64 bb, .int .i64 t, .bool fr]) wr := hlook
                  have hj1 : j + 1 ≤ kn := hlt
                  clear hlook hx hs hsS hsl hok hlk hbd e1 hxb hxw
                  go_wp2_with fail
                  refine HN.out.mono ?_
                  rintro e w8 ⟨hb8, A8, c8, rfl, hown8⟩
                  have hb08 := below_step hb0w hb8
                  have hB8 := hBw.below hb8 hBw.lt
                  have HCF := Lib.hid (containsIntF_any 46 (.pointer (some ⟨w.heap.size, 0, none⟩)) A8 L.length c8 _ L (fun y => !decide (y ∈ g) && !decide (y ∈ b)) w8 (Reads.of_own hown8) (Nat.le_refl _) (by omega) (plain_of (fn := Try.f46) Try.func46 (by kernel_rfl) (by kernel_rfl)) (fun w' y hb' _ =>
                    stepCheck2_any y w.heap.size A n c G gn gc (some ad) kn kc w.heap.size g b w' (hB8.below hb' hB8.lt) ((hg.below hb08).below (hb'.mono hb08.size)) ((hk.below hb08).below (hb'.mono hb08.size)) (by omega) (by omega) (below_step hb08 hb').size))
                  clear hown8 HN hB8
                  go_wp2_with fail
                  refine HCF.out.mono ?_
                  rintro e w9 ⟨rfl, hb9⟩
                  have hbx := hb.trans ((below_step hb8 hb9).mono hb.size)
                  clear HCF hb9 hb8 hb08
                  by_cases hmt : (L.any fun y => !decide (y ∈ g) && !decide (y ∈ b)) = true
                  · have HNo : Hid (¬ TriOk a g b) := fun h => by
                      obtain ⟨y, h1, h2⟩ := List.any_eq_true.1 hmt
                      have h3 := h.held x HXB.out y (by rw [HLK.out]; exact h1)
                      simp only [Bool.and_eq_true, Bool.not_eq_true', decide_eq_false_iff_not] at h2
                      exact h3.elim h2.1 h2.2
                    generalize (L.any fun y => !decide (y ∈ g) && !decide (y ∈ b)) = r at *
                    subst hmt
                    go_wp2
                    go_ret
                    exact ⟨⟨8, rfl, fun h => by omega, fun h => absurd h HNo.out⟩, below_step hb06 hbx⟩
                  · have HHeld : Hid (∀ z ∈ b.take (j + 1), ∀ y ∈ linksAt a (spotsL a) z, y ∈ g ∨ y ∈ b) := by
                      intro z hz y hy
                      rw [HT.out, List.mem_append, List.mem_singleton] at hz
                      rcases hz with hz | rfl
                      · exact HF.out z hz y hy
                      · rw [HLK.out] at hy
                        by_cases h1 : y ∈ g
                        · exact .inl h1
                        · by_cases h2 : y ∈ b
                          · exact .inr h2
                          · exact absurd (List.any_eq_true.2 ⟨y, hy, by simp [h1, h2]⟩) hmt
                    have hmt : (L.any fun y => !decide (y ∈ g) && !decide (y ∈ b)) = false := by simpa using hmt
                    generalize (L.any fun y => !decide (y ∈ g) && !decide (y ∈ b)) = r at *
                    subst hmt
                    go_wp2
                    go_roundw
                    case rel => exact ⟨j + 1, hj1, by go_num, HHeld, hbx⟩
                    case measure => simp [intOf]; omega
                · have HT : Hid (TriOk a g b) := by
                    have h1 := HF.out
                    rw [List.take_of_length_le (by have h2 := hk.1; simp only [List.length_map, Nat.mul_one] at h2; omega)] at h1
                    exact ⟨HE.out, HGR.out, HBR.out, fun x hx => HF2.out x (List.mem_append_left _ hx), fun x hx => HF2.out x (List.mem_append_right _ hx), HAp.out, h1⟩
                  have g1 : decide (j < kn) = false := decide_eq_false hlt
                  go_wp2
                  go_ret
                  exact ⟨⟨0, rfl, fun _ => HT.out, fun _ => rfl⟩, hb0w⟩
      · have HR2 := Lib.hid (HR2 false (decide_eq_false hbr))
        go_wp2_with fail
        refine HR2.out.mono ?_
        rintro e w3 ⟨rfl, hb3⟩
        go_wp2
        go_ret
        exact ⟨⟨3, rfl, by simp; exact fun h => hbr h.br⟩, below_step hb02 hb3⟩
    · have HR1 := Lib.hid (HR1 false (decide_eq_false hgr))
      go_wp2_with fail
      refine HR1.out.mono ?_
      rintro e w2 ⟨rfl, hb2⟩
      go_wp2
      go_ret
      exact ⟨⟨3, rfl, by simp; exact fun h => hgr h.gr⟩, below_step hb01 hb2⟩
  · have hE1 : (checkE a != 0) = true := by simpa using hE
    have HF : Hid (¬ TriOk a g b) := fun h => hE h.ok
    have HE : Hid (checkE a ≠ 0) := hE
    generalize checkE a = E at *
    clear hE
    go_enter Try.func13, Try.ntmps13
    go_wp2_with fail
    refine H.out.mono ?_
    rintro e w1 ⟨rfl, hb1⟩
    go_wp2
    go_ret
    exact ⟨⟨E, rfl, fun h => absurd h HE.out, fun h => absurd h HF.out⟩, below_step hb0 hb1⟩
end Go.Proofs.Ytgkoaambdejkdaa
