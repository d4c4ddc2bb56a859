/-
  Texts joined: TintEach TintAdd TintReach ContainsInt TintFns CarryOrd Form IsoLaw.
-/
import Derived.BigQuiet
import Derived.Test.YtbmkbnalembbjaaRows
import Derived.Deep.RegionHeld3
import Derived.Test.YtbmkbnalembbjaaK0
import Derived.Test.YtbmkbnalembbjaaK2
import Derived.Test.YtbmkbnalembbjaaK3
import Derived.Test.YtbmkbnalembbjaaK4
import Derived.Test.YtbmkbnalembbjaaK5
namespace Go.Proofs.Ytbmkbnalembbjaa
open Go.RowKit
def linksP (rs : List Int) : List Int := (rs.filter fun v => v != 0).map fun v => v - 1
end Go.Proofs.Ytbmkbnalembbjaa

namespace Go.Proofs.Ytbmkbnalembbjaa
open Go.RowKit
def seenF (out : List Int) : Int → Option Value := fun x => if x ∈ out then some (.bool true) else none
def AddSt (w0 : World) (out : List Int) (w : World) : Prop :=
  ∃ Ao co, Blk w (w0.heap.size + 1) 114 #[.map (some w0.heap.size)] ∧ Blk w (w0.heap.size + 1 + 1) 24 #[.slice Ao out.length co] ∧ MapIs w Try.prog 3 .i64 w0.heap.size out.length (seenF out) ∧
    w.ownsRow (w0.heap.size + 1 + 1 + 1) 3 1 (.slice Ao out.length co) out.length (out.map (.int .i64)) ∧ Below w0.heap.size w0 w
theorem AddSt.drewN {w0 w : World} {out : List Int} (h : AddSt w0 out w) (q : Nat) : AddSt w0 out (w.drewN q) := by
  obtain ⟨Ao, co, h1, h2, h3, h4, h5⟩ := h
  exact ⟨Ao, co, h1.drewN q, h2.drewN q, h3.drewN q, own_below h4 (below_drewN (Below.refl _ _) q), below_drewN h5 q⟩
end Go.Proofs.Ytbmkbnalembbjaa

namespace Go.Proofs.Ytbmkbnalembbjaa
open Go.RowKit
theorem Search.adds {a : List Int} {S : List Spot} {f out : List Int} {i : Nat} {x : Int} (h : Search a S f out i) (hi : i ≤ out.length) (hx : out[i]? = some x) (hb : ∀ y ∈ linksAt a S x, y ∈ begsL S) :
    ∀ l : List Int, (∀ y ∈ l, y ∈ linksAt a S x) → Search a S f (l.foldl addL out) i ∧ out.length ≤ (l.foldl addL out).length ∧ (∀ y ∈ out, y ∈ l.foldl addL out) ∧ (∀ y ∈ l, y ∈ l.foldl addL out) ∧ (l.foldl addL out)[i]? = some x := by
  intro l
  induction l generalizing out with
  | nil => intro _; exact ⟨h, Nat.le_refl _, fun y hy => hy, by simp, hx⟩
  | cons y l ih =>
    intro hl
    have hy := hl y List.mem_cons_self
    have h1 : Search a S f (addL out y) i := h.add hi (hb y hy) (fun X hX hc => hc x (h.least X hX hc x (List.mem_of_getElem? hx)) y hy)
    have hle := addL_len out y
    have hx1 : (addL out y)[i]? = some x := by
      have hil := (List.getElem?_eq_some_iff.1 hx).1
      unfold addL
      split
      · exact hx
      · rw [List.getElem?_append_left hil]; exact hx
    obtain ⟨q1, q2, q3, q4, q5⟩ := ih h1 (by omega) hx1 (fun z hz => hl z (List.mem_cons_of_mem _ hz))
    have hs := addL_sub out y
    refine ⟨q1, by simp only [List.foldl_cons]; omega, fun z hz => q3 z (hs.1 z hz), fun z hz => ?_, q5⟩
    rcases List.mem_cons.1 hz with rfl | hz
    · exact q3 z hs.2
    · exact q4 z hz
theorem Search.next {a : List Int} {S : List Spot} {f out : List Int} {i : Nat} {x : Int} (h : Search a S f out i) (hx : out[i]? = some x) (hc : ∀ y ∈ linksAt a S x, y ∈ out) : Search a S f out (i + 1) :=
  ⟨h.begs, h.once, h.least, fun k z hk hz y hy => by
    by_cases hki : k = i
    · subst hki
      obtain rfl := Option.some.inj (hx.symm.trans hz)
      exact hc y hy
    · exact h.seen k z (by omega) hz y hy⟩
theorem Search.done {a : List Int} {S : List Spot} {f out : List Int} (h : Search a S f out out.length) (hf : ∀ x ∈ f, x ∈ out) : Reached a S f (sortL out) :=
  ⟨fun x hx => h.begs x (sortL_mem.1 hx), fun x hx => sortL_mem.2 (hf x hx), fun x hx y hy => sortL_mem.2 (by
      obtain ⟨k, hk⟩ := List.mem_iff_getElem?.1 (sortL_mem.1 hx)
      exact h.seen k x (List.getElem?_eq_some_iff.1 hk).1 hk y hy), fun X hX hc x hx => h.least X hX hc x (sortL_mem.1 hx), sortL_sorted _, (sortL_perm out).nodup_iff.2 h.once⟩
end Go.Proofs.Ytbmkbnalembbjaa

namespace Go.Proofs.Ytbmkbnalembbjaa
open Go.RowKit
end Go.Proofs.Ytbmkbnalembbjaa

namespace Go.Proofs.Ytbmkbnalembbjaa
open Go.RowKit
end Go.Proofs.Ytbmkbnalembbjaa

namespace Go.Proofs.Ytbmkbnalembbjaa
open Go.RowKit
def Named (a : List Int) (S : List Spot) (f out : List Int) : Prop := ∀ (i : Nat) (x : Int), out[i]? = some x → x ∈ f ∨ ∃ (j : Nat) (y : Int), j < i ∧ out[j]? = some y ∧ x ∈ linksAt a S y
theorem Named.add {a : List Int} {S : List Spot} {f out : List Int} {x : Int} (h : Named a S f out) (hx : x ∈ f ∨ ∃ (j : Nat) (y : Int), j < out.length ∧ out[j]? = some y ∧ x ∈ linksAt a S y) : Named a S f (addL out x) := by
  unfold addL
  split
  · exact h
  · intro i z hz
    by_cases hi : i < out.length
    · rw [List.getElem?_append_left hi] at hz
      rcases h i z hz with h1 | ⟨j, y, h1, h2, h3⟩
      · exact .inl h1
      · exact .inr ⟨j, y, h1, by rw [List.getElem?_append_left (by omega)]; exact h2, h3⟩
    · rw [List.getElem?_append_right (by omega)] at hz
      obtain ⟨q1, q2⟩ := List.getElem?_eq_some_iff.1 hz
      simp only [List.length_singleton] at q1
      have q3 : i - out.length = 0 := by omega
      simp only [q3, List.getElem_cons_zero] at q2
      subst q2
      rcases hx with h1 | ⟨j, y, h1, h2, h3⟩
      · exact .inl h1
      · exact .inr ⟨j, y, by omega, by rw [List.getElem?_append_left h1]; exact h2, h3⟩
theorem Named.adds {a : List Int} {S : List Spot} {f : List Int} {i : Nat} {x : Int} : ∀ {out : List Int} (l : List Int), Named a S f out → out[i]? = some x → (∀ y ∈ l, y ∈ linksAt a S x) → Named a S f (l.foldl addL out)
  | _, [], h, _, _ => h
  | out, y :: l, h, hx, hl => by
    have hi := (List.getElem?_eq_some_iff.1 hx).1
    have h1 := h.add (x := y) (.inr ⟨i, x, hi, hx, hl y List.mem_cons_self⟩)
    have hx1 : (addL out y)[i]? = some x := by
      unfold addL
      split
      · exact hx
      · rw [List.getElem?_append_left hi]; exact hx
    exact Named.adds l h1 hx1 (fun z hz => hl z (List.mem_cons_of_mem _ hz))
def ComeSt (w0 : World) (out : List Int) (w : World) : Prop :=
  ∃ Ao co, Blk w w0.heap.size 24 #[.slice Ao out.length co] ∧ w.ownsRow (w0.heap.size + 1) 3 1 (.slice Ao out.length co) out.length (out.map (.int .i64)) ∧ Below w0.heap.size w0 w
theorem ComeSt.below {w0 w w' : World} {out : List Int} (h : ComeSt w0 out w) (hb : Below w.heap.size w w') : ComeSt w0 out w' := by
  obtain ⟨Ao, co, h1, h2, h3⟩ := h
  exact ⟨Ao, co, h1.below hb h1.lt, own_below h2 hb, h3.trans (hb.mono h3.size)⟩
def bfsL (a : List Int) (S : List Spot) (f : List Int) : Nat → List Int
  | 0 => f.foldl addL []
  | i + 1 => match (bfsL a S f i)[i]? with | some x => (linksAt a S x).foldl addL (bfsL a S f i) | none => bfsL a S f i
theorem bfsL_still {a : List Int} {S : List Spot} {f : List Int} {n : Nat} (h : (bfsL a S f n).length ≤ n) : ∀ m, n ≤ m → bfsL a S f m = bfsL a S f n := by
  intro m hm
  induction m with
  | zero => have : n = 0 := by omega
            subst this; rfl
  | succ m ih =>
    by_cases he : n = m + 1
    · subst he; rfl
    · have h1 := ih (by omega)
      show (match (bfsL a S f m)[m]? with | some x => (linksAt a S x).foldl addL (bfsL a S f m) | none => bfsL a S f m) = _
      rw [h1, List.getElem?_eq_none (by omega)]
theorem bfsL_unique {a : List Int} {S : List Spot} {f L L' : List Int} (h : L = bfsL a S f L.length) (h' : L' = bfsL a S f L'.length) : L = L' := by
  rcases Nat.le_total L.length L'.length with hl | hl
  · have h1 := bfsL_still (a := a) (S := S) (f := f) (n := L.length) (by rw [← h]; exact Nat.le_refl _) _ hl
    rw [h', h1]; exact h
  · have h1 := bfsL_still (a := a) (S := S) (f := f) (n := L'.length) (by rw [← h']; exact Nat.le_refl _) _ hl
    rw [h, h1]; exact h'.symm
structure Ordered (a : List Int) (S : List Spot) (f out : List Int) : Prop where
  search : Search a S f out out.length
  roots : ∀ x ∈ f, x ∈ out
  named : Named a S f out
  fn : out = bfsL a S f out.length
end Go.Proofs.Ytbmkbnalembbjaa

namespace Go.Proofs.Ytbmkbnalembbjaa
open Go.RowKit
def idxL (L : List Int) (y : Int) : Int := ixOf (fun x => y == x) L
def formO (a : List Int) (S : List Spot) (L : List Int) (x : Int) : Ob :=
  match spotAt S x with | some s => ⟨s.t, (refsOf a s).map (fun v => idxL L (v - 1)), bodyOf a s, s.f⟩ | none => ⟨0, [], [], false⟩
def FormIs (a f : List Int) (os : List Ob) (fr : List Int) : Prop :=
  ∃ L, Ordered a (spotsL a) f L ∧ os = L.map (formO a (spotsL a) L) ∧ fr = f.map (idxL L)
theorem FormIs.unique {a f : List Int} {os os' : List Ob} {fr fr' : List Int} (h : FormIs a f os fr) (h' : FormIs a f os' fr') : os = os' ∧ fr = fr' := by
  obtain ⟨L, h1, h2, h3⟩ := h
  obtain ⟨L', h1', h2', h3'⟩ := h'
  have e : L = L' := bfsL_unique h1.fn h1'.fn
  subst e
  exact ⟨h2.trans h2'.symm, h3.trans h3'.symm⟩
theorem ObsO.far {w : World} {base : Nat} {os : List Ob} {vs : List ObV} (h : ObsO w base os vs) {p : Addr} (hp : p.block < base) (u : Value) : ObsO (w.setCell p u) base os vs :=
  ⟨h.1, fun i o v ho hv => by
    obtain ⟨h1, h2, h3, h4, h5, h6⟩ := h.2 i o v ho hv
    exact ⟨h1, h2, h3, h4, own_far h5 hp u, own_far h6 hp u⟩⟩
theorem ObsO.drew {w : World} {base : Nat} {os : List Ob} {vs : List ObV} (h : ObsO w base os vs) : ObsO w.drew base os vs :=
  ⟨h.1, fun i o v ho hv => by
    obtain ⟨h1, h2, h3, h4, h5, h6⟩ := h.2 i o v ho hv
    exact ⟨h1, h2, h3, h4, h5.drew, h6.drew⟩⟩
end Go.Proofs.Ytbmkbnalembbjaa

namespace Go.Proofs.Ytbmkbnalembbjaa
open Go.RowKit
def refT (φ : Int → Int) (v : Int) : Int := if v = 0 then 0 else φ (v - 1) + 1
structure Iso (a b L : List Int) (φ : Int → Int) : Prop where
  nn : ∀ x ∈ L, 0 ≤ φ x
  inj : ∀ x ∈ L, ∀ y ∈ L, φ x = φ y → x = y
  at_ : ∀ x ∈ L, ∀ s, spotAt (spotsL a) x = some s → ∃ s', spotAt (spotsL b) (φ x) = some s' ∧ s'.r = s.r ∧ s'.b = s.b ∧ s'.t = s.t ∧ bodyOf b s' = bodyOf a s ∧ refsOf b s' = (refsOf a s).map (refT φ)
structure ClosedL (a L : List Int) : Prop where
  begs : ∀ x ∈ L, x ∈ begsL (spotsL a)
  closed : ∀ x ∈ L, ∀ y ∈ linksAt a (spotsL a) x, y ∈ L
  nn : ∀ x ∈ L, 0 ≤ x
theorem linksT {φ : Int → Int} : ∀ (l : List Int), (∀ v ∈ l, v ≠ 0 → 0 ≤ φ (v - 1)) → (((l.map (refT φ)).filter fun v => v != 0).map fun v => v - 1) = ((l.filter fun v => v != 0).map fun v => v - 1).map φ := by
  intro l
  induction l with
  | nil => intro _; rfl
  | cons v l ih =>
    intro h
    have ih' := ih (fun u hu => h u (List.mem_cons_of_mem _ hu))
    rw [List.map_cons]
    by_cases h0 : v = 0
    · have e : refT φ v = 0 := by unfold refT; rw [if_pos h0]
      rw [e, List.filter_cons_of_neg (by simp), List.filter_cons_of_neg (by simp [h0])]
      exact ih'
    · have e : refT φ v = φ (v - 1) + 1 := by unfold refT; rw [if_neg h0]
      have hp := h v List.mem_cons_self h0
      rw [e, List.filter_cons_of_pos (by simp; omega), List.filter_cons_of_pos (by simp [h0]), List.map_cons, List.map_cons, List.map_cons, ih']
      congr 1
      omega
section
variable {a b L : List Int} {φ : Int → Int}
theorem Iso.link_of (hC : ClosedL a L) {x : Int} (hx : x ∈ L) {s : Spot} (hs : spotAt (spotsL a) x = some s) : ∀ v ∈ refsOf a s, v ≠ 0 → v - 1 ∈ L := fun v hv h0 => by
  refine hC.closed x hx (v - 1) ?_
  unfold linksAt
  rw [hs]
  exact List.mem_map.2 ⟨v, List.mem_filter.2 ⟨hv, by simpa using h0⟩, rfl⟩
theorem Iso.links (h : Iso a b L φ) (hC : ClosedL a L) {x : Int} (hx : x ∈ L) : linksAt b (spotsL b) (φ x) = (linksAt a (spotsL a) x).map φ := by
  obtain ⟨s, hs⟩ := begsL_iff.1 (hC.begs x hx)
  obtain ⟨s', hs', -, -, -, -, hr⟩ := h.at_ x hx s hs
  unfold linksAt
  rw [hs, hs']
  show linksL b s' = (linksL a s).map φ
  unfold linksL
  rw [hr]
  exact linksT _ (fun v hv h0 => h.nn _ (Iso.link_of hC hx hs v hv h0))
theorem Iso.addL (h : Iso a b L φ) {out : List Int} (ho : ∀ y ∈ out, y ∈ L) {x : Int} (hx : x ∈ L) : addL (out.map φ) (φ x) = (addL out x).map φ := by
  unfold Proofs.Ytbmkbnalembbjaa.addL
  by_cases hm : x ∈ out
  · rw [if_pos hm, if_pos (List.mem_map.2 ⟨x, hm, rfl⟩)]
  · rw [if_neg hm, if_neg (fun hh => by
      obtain ⟨y, hy, e⟩ := List.mem_map.1 hh
      exact hm (h.inj y (ho y hy) x hx e ▸ hy)), List.map_append]
    rfl
theorem Iso.addL_in {out : List Int} (ho : ∀ y ∈ out, y ∈ L) {x : Int} (hx : x ∈ L) : ∀ y ∈ Proofs.Ytbmkbnalembbjaa.addL out x, y ∈ L := fun y hy => by
  rcases addL_mem hy with h1 | rfl
  · exact ho y h1
  · exact hx
theorem Iso.fold (h : Iso a b L φ) : ∀ (l out : List Int), (∀ y ∈ out, y ∈ L) → (∀ y ∈ l, y ∈ L) → (l.map φ).foldl Proofs.Ytbmkbnalembbjaa.addL (out.map φ) = (l.foldl Proofs.Ytbmkbnalembbjaa.addL out).map φ ∧ ∀ y ∈ l.foldl Proofs.Ytbmkbnalembbjaa.addL out, y ∈ L
  | [], out, ho, _ => ⟨rfl, ho⟩
  | x :: l, out, ho, hl => by
    have hx := hl x List.mem_cons_self
    have ih := Iso.fold h l (Proofs.Ytbmkbnalembbjaa.addL out x) (Iso.addL_in ho hx) (fun y hy => hl y (List.mem_cons_of_mem _ hy))
    rw [List.map_cons, List.foldl_cons, List.foldl_cons, h.addL ho hx]
    exact ih
theorem Iso.bfs (h : Iso a b L φ) (hC : ClosedL a L) {f : List Int} (hf : ∀ y ∈ f, y ∈ L) : ∀ n, bfsL b (spotsL b) (f.map φ) n = (bfsL a (spotsL a) f n).map φ ∧ ∀ y ∈ bfsL a (spotsL a) f n, y ∈ L
  | 0 => by
    have := h.fold f [] (fun y hy => by cases hy) hf
    exact this
  | n + 1 => by
    obtain ⟨i1, i2⟩ := Iso.bfs h hC hf n
    show (match (bfsL b (spotsL b) (f.map φ) n)[n]? with | some x => (linksAt b (spotsL b) x).foldl Proofs.Ytbmkbnalembbjaa.addL (bfsL b (spotsL b) (f.map φ) n) | none => bfsL b (spotsL b) (f.map φ) n) = _ ∧ ∀ y ∈ (match (bfsL a (spotsL a) f n)[n]? with | some x => (linksAt a (spotsL a) x).foldl Proofs.Ytbmkbnalembbjaa.addL (bfsL a (spotsL a) f n) | none => bfsL a (spotsL a) f n), y ∈ L
    rw [i1, List.getElem?_map]
    have e : bfsL a (spotsL a) f (n + 1) = (match (bfsL a (spotsL a) f n)[n]? with | some x => (linksAt a (spotsL a) x).foldl Proofs.Ytbmkbnalembbjaa.addL (bfsL a (spotsL a) f n) | none => bfsL a (spotsL a) f n) := rfl
    rw [e]
    cases hx : (bfsL a (spotsL a) f n)[n]? with
    | none => exact ⟨rfl, i2⟩
    | some x =>
      have hxL := i2 x (List.mem_of_getElem? hx)
      simp only [Option.map_some]
      rw [h.links hC hxL]
      exact h.fold _ _ i2 (hC.closed x hxL)
theorem idxL_map (h : Iso a b L φ) {M : List Int} (hM : ∀ y ∈ M, y ∈ L) {y : Int} (hy : y ∈ L) : idxL (M.map φ) (φ y) = idxL M y := by
  unfold idxL ixOf
  rw [List.findIdx?_map]
  have e : M.findIdx? ((fun x => φ y == x) ∘ φ) = M.findIdx? (fun x => y == x) := by
    revert hM
    induction M with
    | nil => intro _; rfl
    | cons m M ih =>
      intro hM
      have hm := hM m List.mem_cons_self
      rw [List.findIdx?_cons, List.findIdx?_cons, ih (fun z hz => hM z (List.mem_cons_of_mem _ hz))]
      have e : ((fun x => φ y == x) ∘ φ) m = (y == m) := by
        show (φ y == φ m) = (y == m)
        rw [Bool.eq_iff_iff, beq_iff_eq, beq_iff_eq]
        exact ⟨fun e => h.inj y hy m hm e, fun e => by rw [e]⟩
      rw [e]
  rw [e]
theorem idxL_neg {M : List Int} (hM : ∀ y ∈ M, 0 ≤ y) : idxL M (-1) = -1 := ixOf_none (fun x hx => by have := hM x hx; simp; omega)
theorem form_iso (h : Iso a b L φ) (hC : ClosedL a L) {f : List Int} (hf : ∀ y ∈ f, y ∈ L) {os os' : List Ob} {fr fr' : List Int} (hF : FormIs a f os fr) (hF' : FormIs b (f.map φ) os' fr') : os = os' ∧ fr = fr' := by
  obtain ⟨M, h1, rfl, rfl⟩ := hF
  obtain ⟨M', h1', rfl, rfl⟩ := hF'
  have hb := h.bfs hC hf M.length
  have hM : ∀ y ∈ M, y ∈ L := fun y hy => hb.2 y (h1.fn ▸ hy)
  have e : M' = M.map φ := by
    refine bfsL_unique h1'.fn ?_
    rw [List.length_map, hb.1, ← h1.fn]
  subst e
  constructor
  · rw [List.map_map]
    refine List.map_congr_left (fun x hx => ?_)
    have hxL := hM x hx
    obtain ⟨s, hs⟩ := begsL_iff.1 (hC.begs x hxL)
    obtain ⟨s', hs', e1, e2, e3, e4, e5⟩ := h.at_ x hxL s hs
    show formO a (spotsL a) M x = formO b (spotsL b) (M.map φ) (φ x)
    unfold formO
    rw [hs, hs']
    dsimp only
    rw [e3, e4, e5, (spotAt_some hs).2.1, (spotAt_some hs').2.1, List.map_map]
    congr 1
    refine List.map_congr_left (fun v hv => ?_)
    show idxL M (v - 1) = idxL (M.map φ) (refT φ v - 1)
    by_cases h0 : v = 0
    · subst h0
      have e6 : refT φ 0 = 0 := rfl
      rw [e6]
      show idxL M (-1) = idxL (M.map φ) (-1)
      rw [idxL_neg (fun y hy => hC.nn y (hM y hy)), idxL_neg (fun y hy => by
        obtain ⟨z, hz, rfl⟩ := List.mem_map.1 hy
        exact h.nn z (hM z hz))]
    · have e6 : refT φ v - 1 = φ (v - 1) := by unfold refT; rw [if_neg h0]; omega
      rw [e6, idxL_map h hM (Iso.link_of hC hxL hs v hv h0)]
  · rw [List.map_map]
    refine List.map_congr_left (fun x hx => ?_)
    exact (idxL_map h hM (hf x hx)).symm
end
theorem spotsFrom_app : ∀ (cs ds : List Chk) (i : Nat), spotsFrom i (cs ++ ds) = spotsFrom i cs ++ spotsFrom (i + (chunksW cs).length) ds
  | [], ds, i => by simp [spotsFrom, chunksW]
  | c :: cs, ds, i => by
    rw [List.cons_append, chunksW_cons, List.length_append, chkW_length]
    simp only [spotsFrom]
    rw [spotsFrom_app cs ds, List.cons_append, Nat.add_assoc]
theorem spotsFrom_low : ∀ (cs : List Chk) (i : Nat), ∀ s ∈ spotsFrom i cs, (i : Int) ≤ s.loc ∧ s.loc < i + (chunksW cs).length
  | [], i => by simp [spotsFrom]
  | c :: cs, i => by
    intro s hs
    rw [chunksW_cons, List.length_append, chkW_length]
    have hp : 1 ≤ c.len := by unfold Chk.len; omega
    simp only [spotsFrom, List.mem_cons] at hs
    rcases hs with rfl | hs
    · simp only [Chk.spot]; omega
    · have := spotsFrom_low cs (i + c.len) s hs
      omega
theorem split_at (pre suf : List Chk) (c : Chk) (hf : c.f = false) : spotAt (spotsFrom 0 (pre ++ c :: suf)) (chunksW pre).length = some (c.spot (chunksW pre).length) := by
  unfold spotAt
  rw [spotsFrom_app, List.find?_append]
  have h1 : (spotsFrom 0 pre).find? (isBeg (chunksW pre).length) = none := by
    rw [List.find?_eq_none]
    intro s hs
    have := spotsFrom_low pre 0 s hs
    simp only [isBeg, Bool.and_eq_true, beq_iff_eq, not_and]
    intro _
    omega
  rw [h1, Nat.zero_add]
  simp only [spotsFrom, Option.none_or]
  rw [List.find?_cons_of_pos]
  simp [isBeg, Chk.spot, hf]
theorem split_refs (pre suf : List Chk) (c : Chk) (hc : c.ok) : refsOf (chunksW (pre ++ c :: suf)) (c.spot (chunksW pre).length) = c.pay.take c.r.toNat ∧ bodyOf (chunksW (pre ++ c :: suf)) (c.spot (chunksW pre).length) = c.pay.drop c.r.toNat := by
  have hE := headE_ok.1 hc.1
  have hp := hc.2
  rw [chunksW_append, chunksW_cons, chkW]
  simp only [refsOf, bodyOf, Chk.spot, Int.toNat_natCast]
  constructor
  · rw [List.drop_append, List.drop_of_length_le (by omega), List.nil_append, show (chunksW pre).length + 1 - (chunksW pre).length = 1 by omega, List.cons_append, List.drop_succ_cons, List.drop_zero, List.take_append_of_le_length (by omega)]
  · rw [List.drop_append, List.drop_of_length_le (by omega), List.nil_append, show (chunksW pre).length + 1 + c.r.toNat - (chunksW pre).length = c.r.toNat + 1 by omega, List.cons_append, List.drop_succ_cons, List.drop_append_of_le_length (by omega), List.take_append_of_le_length (by rw [List.length_drop]; omega), List.take_of_length_le (by rw [List.length_drop]; omega)]
end Go.Proofs.Ytbmkbnalembbjaa
