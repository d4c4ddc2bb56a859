/-
  Texts joined: Objects LawObs TintDefs CloneInt Mem TintHeap TintEach TintAdd SortInt.
-/
import Derived.Lib.SmallJoins
import Derived.Deep.Strs
import Derived.Test.YtgkoaambdejkdaaRows
import Derived.Lib.AppendZerosOnto
import Derived.Lib.Overlaps
import Derived.Laws.CopyOwn
import Derived.Deep.RegionHeld3
import Derived.StillTailTactics
import Derived.IntWalk
import Derived.BigQuiet
import Derived.Shelf.SortM.Plain
import Derived.Shelf.SortM.SortNone
import Derived.Shelf.SlGeneric
import Derived.Ground.SlgmProg
import Derived.Sort.OwnSortedInts
import Derived.Lib.OwnBridge
import Derived.Test.YtgkoaambdejkdaaG0
import Derived.Test.YtgkoaambdejkdaaG1
namespace Go.Proofs.Ytgkoaambdejkdaa
open Go.RowKit
structure ObV where
  t : Int
  A1 : Option Addr
  n1 : Nat
  c1 : Nat
  A2 : Option Addr
  n2 : Nat
  c2 : Nat
  f : Bool
def obvC (v : ObV) : List Value := [.int .i64 v.t, .slice v.A1 v.n1 v.c1, .slice v.A2 v.n2 v.c2, .bool v.f]
def ObR (w : World) (B : Nat) (o : Ob) (v : ObV) : Prop :=
  v.t = o.t ∧ v.f = o.f ∧ v.n1 ≤ v.c1 ∧ v.n2 ≤ v.c2 ∧ v.n1 = o.refs.length ∧ v.n2 = o.body.length ∧ Reads w B 1 v.A1 v.n1 (o.refs.map (.int .i64)) ∧ Reads w B 1 v.A2 v.n2 (o.body.map (.int .u64))
def ObO (w : World) (base : Nat) (o : Ob) (v : ObV) : Prop :=
  v.t = o.t ∧ v.f = o.f ∧ v.n1 = o.refs.length ∧ v.n2 = o.body.length ∧ w.ownsRow base 3 1 (.slice v.A1 v.n1 v.c1) v.n1 (o.refs.map (.int .i64)) ∧ w.ownsRow base 43 1 (.slice v.A2 v.n2 v.c2) v.n2 (o.body.map (.int .u64))
def ObsR (w : World) (B : Nat) (os : List Ob) (vs : List ObV) : Prop := os.length = vs.length ∧ ∀ (i : Nat) (o : Ob) (v : ObV), os[i]? = some o → vs[i]? = some v → ObR w B o v
def ObsO (w : World) (base : Nat) (os : List Ob) (vs : List ObV) : Prop := os.length = vs.length ∧ ∀ (i : Nat) (o : Ob) (v : ObV), os[i]? = some o → vs[i]? = some v → ObO w base o v
theorem ObR.keep {w w' : World} {B B' : Nat} {o : Ob} {v : ObV} (h : ObR w B o v) (hb : Below B w w') (hB : B ≤ B') : ObR w' B' o v := by
  obtain ⟨h1, h2, h3, h4, h5, h6, h7, h8⟩ := h
  exact ⟨h1, h2, h3, h4, h5, h6, (h7.below hb).more hB, (h8.below hb).more hB⟩
theorem ObsR.keep {w w' : World} {B B' : Nat} {os : List Ob} {vs : List ObV} (h : ObsR w B os vs) (hb : Below B w w') (hB : B ≤ B') : ObsR w' B' os vs :=
  ⟨h.1, fun i o v ho hv => (h.2 i o v ho hv).keep hb hB⟩
theorem ObO.reads {w : World} {base : Nat} {o : Ob} {v : ObV} (h : ObO w base o v) : ObR w w.heap.size o v := by
  obtain ⟨h1, h2, h3, h4, h5, h6⟩ := h
  exact ⟨h1, h2, own_cap h5, own_cap h6, h3, h4, Reads.of_own h5, Reads.of_own h6⟩
theorem ObsO.reads {w : World} {base : Nat} {os : List Ob} {vs : List ObV} (h : ObsO w base os vs) : ObsR w w.heap.size os vs :=
  ⟨h.1, fun i o v ho hv => (h.2 i o v ho hv).reads⟩
theorem ObsO.below {w w' : World} {base : Nat} {os : List Ob} {vs : List ObV} (h : ObsO w base os vs) (hb : Below w.heap.size w w') : ObsO w' base os vs :=
  ⟨h.1, fun i o v ho hv => by
    obtain ⟨h1, h2, h3, h4, h5, h6⟩ := h.2 i o v ho hv
    exact ⟨h1, h2, h3, h4, own_below h5 hb, own_below h6 hb⟩⟩
theorem ObsO.mono {w : World} {base base' : Nat} {os : List Ob} {vs : List ObV} (h : ObsO w base' os vs) (hb : base ≤ base') : ObsO w base os vs :=
  ⟨h.1, fun i o v ho hv => by
    obtain ⟨h1, h2, h3, h4, h5, h6⟩ := h.2 i o v ho hv
    exact ⟨h1, h2, h3, h4, own_mono h5 hb, own_mono h6 hb⟩⟩
theorem own_types {w : World} {base base' size size' n n' : Nat} {e e' : TypeId} {v v' : Value} {xs xs' : List Value} (h : w.ownsRow base e size v n xs) (h' : w.ownsRow base' e' size' v' n' xs') (hne : e ≠ e') {g : Nat} (hg : v.ownBlock = some g) : v'.ownBlock ≠ some g := by
  intro hg'
  rcases h.2 with ⟨rfl, _⟩ | ⟨g1, cap, cur, rfl, _, hh, _⟩
  · cases hg
  · rcases h'.2 with ⟨rfl, _⟩ | ⟨g2, cap2, cur2, rfl, _, hh2, _⟩
    · cases hg'
    · simp only [Value.ownBlock, Option.some.injEq] at hg hg'
      subst hg hg'
      rw [hh] at hh2
      injection hh2 with hh2
      injection hh2 with _ ht
      exact hne ht
theorem ObsO.grown {w w' : World} {base base' size n : Nat} {e : TypeId} {v0 : Value} {xs : List Value} {os : List Ob} {vs : List ObV} (h : ObsO w base os vs) (ho : w.ownsRow base' e size v0 n xs) (hg : w.grownBy w' v0.ownBlock) (h1 : e ≠ 3) (h2 : e ≠ 43) : ObsO w' base os vs :=
  ⟨h.1, fun i o v ho' hv => by
    obtain ⟨a1, a2, a3, a4, a5, a6⟩ := h.2 i o v ho' hv
    exact ⟨a1, a2, a3, a4, own_grown a5 hg (fun g hg' => own_types a5 ho h1.symm hg'), own_grown a6 hg (fun g hg' => own_types a6 ho h2.symm hg')⟩⟩
theorem ObsO.snoc {w : World} {base : Nat} {os : List Ob} {vs : List ObV} {o : Ob} {v : ObV} (h : ObsO w base os vs) (h1 : ObO w base o v) : ObsO w base (os ++ [o]) (vs ++ [v]) := by
  refine ⟨by rw [List.length_append, List.length_append, h.1]; rfl, fun i o' v' ho hv => ?_⟩
  rcases Nat.lt_or_ge i os.length with hi | hi
  · rw [List.getElem?_append_left hi] at ho
    rw [List.getElem?_append_left (by rw [← h.1]; exact hi)] at hv
    exact h.2 i o' v' ho hv
  · rw [List.getElem?_append_right hi] at ho
    rw [List.getElem?_append_right (by rw [← h.1]; exact hi), ← h.1] at hv
    rcases Nat.eq_zero_or_pos (i - os.length) with h0 | h0
    · rw [h0] at ho hv
      cases ho
      cases hv
      exact h1
    · rw [List.getElem?_eq_none (by simp; omega)] at ho
      cases ho
theorem info_object : (Try.prog.info? 56).map (fun i => (i.zero, i.size, i.bytes)) = some (some (.agg #[.int .i64 0, .slice none 0 0, .slice none 0 0, .bool false]), 4, 64) := by kernel_rfl
end Go.Proofs.Ytgkoaambdejkdaa

namespace Go.Proofs.Ytgkoaambdejkdaa
open Go.ChangeShapes Go.WideShapes Go.ChangeAt Go.RowKit Go.Joins Go.Deep
instance : Inhabited (Ob × ObV) := ⟨(⟨0, [], [], false⟩, ⟨0, none, 0, 0, none, 0, 0, false⟩)⟩
theorem trod_nums {H : Type} {enc : TypeId × Value → H} {P : Program} {t e : TypeId} {k : IntKind} {W : World} {sp : Nat → Bool} {fuel : Nat} {v : Value} {x : DataW H × List MemPlace} (ht : P.underlying t = some (.slice e)) (he : P.underlying e = some (.int k)) (hc : P.cellsOf e = 1)
    (hlt : ∀ p ∈ x.2, p.block < W.heap.size) (h : DataW.trod enc P W 0 sp true fuel t [v] = some x) :
    ∃ (A : Option Addr) (n c : Nat) (xs : List Int), v = .slice A n c ∧ n ≤ c ∧ c ≤ maxLen ∧ xs.length = n ∧ Reads W W.heap.size 1 A n (xs.map (.int k)) ∧ (∀ x ∈ xs, (Lit.int k x).wf = true) := by
  rcases open_ints ht he hc h with ⟨hcs, hx⟩ | ⟨a, len, cap, zs, hcs, hb, hlc, hm, hzl, hx, hcell, hwf⟩
  · simp at hcs
    subst hcs
    exact ⟨none, 0, 0, [], rfl, Nat.le_refl _, Nat.zero_le _, rfl, Reads.none_, fun x hx => by cases hx⟩
  · simp at hcs
    subst hcs
    subst hx
    have hlz : len ≤ zs.length := by rw [hzl]; split <;> omega
    refine ⟨some a, len, cap, zs.take len, rfl, hlc, hm, by simp; omega, ⟨by simp; omega, fun hn => ⟨a, rfl, ?_, fun j u hu => ?_⟩⟩, fun x hx => hwf x (List.mem_of_mem_take hx)⟩
    · have := hlt (.cell a.block (a.off + 0)) (by
        unfold MemPlace.row
        exact List.mem_map.2 ⟨0, List.mem_range.2 (by omega), rfl⟩)
      exact this
    · have hj : j < len := by
        have := (List.getElem?_eq_some_iff.1 hu).1
        simp at this; omega
      rw [hcell j (by omega)]
      rw [List.getElem?_map, List.getElem?_take, if_pos hj, List.getElem?_eq_getElem (by omega)] at hu
      rw [← hu, List.getD_eq_getElem?_getD, List.getElem?_eq_getElem (by omega)]
      rfl
theorem open_elemsQ {α : Type} [Inhabited α] (f : α → List Value) (Q : α → Prop) (k : Nat) (hk0 : 0 < k) (hf : ∀ a, (f a).length = k) {H : Type} {enc : TypeId × Value → H} {P : Program} {t e : TypeId} {W : World} {r : Reach} {base : Nat} {sp : Nat → Bool} {v : Value} {d : DataW H} {ps : List MemPlace}
    (ht : P.underlying t = some (.slice e)) (hc : P.cellsOf e = k) (hel : ∀ n cs (y : DataW H × List MemPlace), (∀ p ∈ y.2, p.block < W.heap.size) → DataW.trod enc P W 0 sp true n e cs = some y → ∃ a, cs = f a ∧ Q a)
    (hval : Value.okWide P W r base t v) (hlt : ∀ x ∈ ps, x.block < W.heap.size) (h : DataW.Trod enc P W 0 sp true t v d ps) :
    ∃ (A : Option Addr) (n c : Nat) (l : List α), v = .slice A n c ∧ n ≤ c ∧ c ≤ maxLen ∧ Reads W W.heap.size k A n (l.flatMap f) ∧ (∀ a ∈ l, Q a) ∧ l.length = n ∧ (n = 0 ∨ ∃ D E, d = .slice D E ∧ D.length = n) := by
  obtain ⟨a0, len0, cap0, rfl⟩ := okWide_slice ht hval
  obtain ⟨fuel, hf'⟩ := h
  rcases open_slice ht hf' with ⟨hcs, hx⟩ | ⟨a, len, cap, m, n, D, Pl, hcs, hb, hlc, hm, hmm, hx, hcell⟩
  · simp [Value.cells] at hcs
    obtain ⟨rfl, rfl, rfl⟩ := hcs
    exact ⟨none, 0, 0, [], rfl, Nat.le_refl _, Nat.zero_le _, Reads.none_, (fun a ha => by cases ha), rfl, .inl rfl⟩
  · simp [Value.cells] at hcs
    obtain ⟨rfl, rfl, rfl⟩ := hcs
    simp only [Prod.mk.injEq] at hx
    obtain ⟨rfl, rfl⟩ := hx
    have hlm : len0 ≤ m := by rw [hmm]; split <;> omega
    rw [hc] at hcell hlt
    obtain ⟨V, hV⟩ := choose_lt (α := α) (p := fun i x => W.cells? 0 (a.add (i * k)) k = some (f x) ∧ Q x) (fun i hi => by
      obtain ⟨cs', h1, h2⟩ := hcell i hi
      obtain ⟨x, rfl, hq⟩ := hel _ _ _ (fun p hp => hlt p (List.mem_append_right _ (List.mem_flatMap.2 ⟨i, List.mem_range.2 hi, hp⟩))) h2
      exact ⟨x, h1, hq⟩)
    refine ⟨some a, len0, cap0, (List.range len0).map V, rfl, hlc, hm, ⟨by rw [flat_length f k hf]; simp, fun hn => ⟨a, rfl, ?_, fun j u hu => ?_⟩⟩, fun x hx => ?_, by simp, .inr ⟨_, _, rfl, by simp⟩⟩
    · have := hlt (.cell a.block (a.off + 0)) (List.mem_append_left _ (by
        unfold MemPlace.row
        refine List.mem_map.2 ⟨0, List.mem_range.2 ?_, rfl⟩
        exact Nat.mul_pos (by omega) hk0))
      exact this
    · have hj : j < len0 * k := by
        have := (List.getElem?_eq_some_iff.1 hu).1
        rw [flat_length f k hf] at this
        simpa using this
      have hq : j / k < len0 := Nat.div_lt_of_lt_mul (by rw [Nat.mul_comm]; exact hj)
      have hr : j % k < k := Nat.mod_lt _ hk0
      have hjd : j / k * k + j % k = j := by rw [Nat.mul_comm]; exact Nat.div_add_mod j k
      rw [← hjd, flat_at f k hf _ _ _ (by simpa using hq) hr] at hu
      simp only [List.getElem_map, List.getElem_range] at hu
      have := (World.cells?_some (hV (j / k) (by omega)).1).2.2 (j % k) hr
      rw [add_of_add, hjd] at this
      rw [this]
      exact hu
    · obtain ⟨i, hi, rfl⟩ := List.mem_map.1 hx
      exact (hV i (by have := List.mem_range.1 hi; omega)).2
theorem list4b {α : Type} {l : List α} (h : l.length = 4) : ∃ a b c d, l = [a, b, c, d] := by
  match l, h with
  | [a, b, c, d], _ => exact ⟨a, b, c, d, rfl⟩
theorem k_ob_bytes : Try.prog.bytesOf 56 = 64 := by kernel_rfl
def ObIn (W : World) (p : Ob × ObV) : Prop := ObR W W.heap.size p.1 p.2 ∧ (∀ x ∈ p.1.refs, (Lit.int .i64 x).wf = true) ∧ ∀ x ∈ p.1.body, (Lit.int .u64 x).wf = true
end Go.Proofs.Ytgkoaambdejkdaa

namespace Go.Proofs.Ytgkoaambdejkdaa
open Go.RowKit
def isBeg (x : Int) (s : Spot) : Bool := !s.f && (s.loc == x)
def begsL (S : List Spot) : List Int := (S.filter fun s => !s.f).map (·.loc)
def spotAt (S : List Spot) (x : Int) : Option Spot := S.find? (isBeg x)
def headC (s : Spot) : Value := .agg #[.int .i64 s.r, .int .i64 s.b, .int .i64 s.t, .bool s.f]
def headF (S : List Spot) : Int → Option Value := fun x => (spotAt S x).map headC
def linksL (a : List Int) (s : Spot) : List Int := ((refsOf a s).filter fun v => v != 0).map fun v => v - 1
def linksAt (a : List Int) (S : List Spot) (x : Int) : List Int := match spotAt S x with | some s => linksL a s | none => []
theorem spotAt_some {S : List Spot} {x : Int} {s : Spot} (h : spotAt S x = some s) : s ∈ S ∧ s.f = false ∧ s.loc = x := by
  have h1 := List.find?_some h
  have h2 := List.mem_of_find?_eq_some h
  simp only [isBeg, Bool.and_eq_true, Bool.not_eq_true', beq_iff_eq] at h1
  exact ⟨h2, h1.1, h1.2⟩
theorem begsL_iff {S : List Spot} {x : Int} : x ∈ begsL S ↔ ∃ s, spotAt S x = some s := by
  unfold begsL spotAt
  rw [List.mem_map]
  constructor
  · rintro ⟨s, hs, rfl⟩
    obtain ⟨h1, h2⟩ := List.mem_filter.1 hs
    cases h : S.find? (isBeg s.loc) with
    | some s' => exact ⟨s', rfl⟩
    | none =>
      have := List.find?_eq_none.1 h s h1
      simp only [isBeg, h2, beq_self_eq_true, Bool.and_self, not_true] at this
  · rintro ⟨s, hs⟩
    obtain ⟨h1, h2, h3⟩ := spotAt_some hs
    exact ⟨s, List.mem_filter.2 ⟨h1, by simp [h2]⟩, h3⟩
theorem headF_isSome {S : List Spot} {x : Int} : (headF S x).isSome = true ↔ x ∈ begsL S := by
  rw [begsL_iff]
  unfold headF
  cases spotAt S x <;> simp
theorem begsL_snoc (l : List Spot) (s : Spot) : begsL (l ++ [s]) = if s.f = true then begsL l else begsL l ++ [s.loc] := by
  unfold begsL
  rw [List.filter_append, List.map_append]
  cases h : s.f <;> simp [h]
theorem headF_nil : headF [] = fun _ => none := rfl
theorem headF_free {l : List Spot} {s : Spot} (h : s.f = true) : headF (l ++ [s]) = headF l := by
  funext x
  unfold headF spotAt
  rw [List.find?_append]
  have : List.find? (isBeg x) [s] = none := by simp [isBeg, h]
  rw [this]
  simp
theorem headF_snoc {l : List Spot} {s : Spot} (h : s.f = false) (hl : ∀ x ∈ l, x.loc < s.loc) : headF (l ++ [s]) = upd (headF l) s.loc (headC s) := by
  funext x
  unfold headF spotAt upd
  rw [List.find?_append]
  by_cases hx : x = s.loc
  · subst hx
    have h1 : List.find? (isBeg s.loc) l = none := by
      rw [List.find?_eq_none]
      intro y hy
      have := hl y hy
      simp [isBeg]
      intro _
      omega
    rw [h1, if_pos rfl]
    simp [isBeg, h]
  · rw [if_neg hx]
    have h1 : List.find? (isBeg x) [s] = none := by simp [isBeg]; intro _; omega
    rw [h1]
    simp
theorem begsL_bounds {a : List Int} (h : spotsE a = 0) : ∀ x ∈ begsL (spotsL a), 0 ≤ x ∧ x < 256 := by
  intro x hx
  obtain ⟨s, hs⟩ := begsL_iff.1 hx
  obtain ⟨h1, -, rfl⟩ := spotAt_some hs
  obtain ⟨hlen, hp⟩ := parse_ok h
  have := (parse_mem hp s h1).1
  have e1 := this.loc0
  have e2 := this.fits
  have e3 := this.r0
  have e4 := this.b0
  unfold Spot.long at e2
  omega
theorem placeF_some {l : List Spot} {v : Int} (h : (placeF l v).isSome = true) : v = 0 ∨ v - 1 ∈ begsL l := by
  unfold placeF at h
  by_cases h0 : v = 0
  · exact .inl h0
  · rw [if_neg h0] at h
    right
    cases hf : l.findIdx? (isPlace v) with
    | none => rw [hf] at h; cases h
    | some i =>
      obtain ⟨h1, h2, -⟩ := List.findIdx?_eq_some_iff_getElem.1 hf
      unfold begsL
      refine List.mem_map.2 ⟨l[i], List.mem_filter.2 ⟨List.getElem_mem h1, ?_⟩, ?_⟩
      · simp only [isPlace, Bool.and_eq_true] at h2; exact h2.1
      · simp only [isPlace, Bool.and_eq_true, beq_iff_eq] at h2; omega
theorem links_begs {a : List Int} (h : checkE a = 0) {s : Spot} (hs : s ∈ spotsL a) : ∀ y ∈ linksL a s, y ∈ begsL (spotsL a) := by
  intro y hy
  obtain ⟨v, hv, rfl⟩ := List.mem_map.1 hy
  obtain ⟨h1, h2⟩ := List.mem_filter.1 hv
  have h3 := List.all_eq_true.1 (List.all_eq_true.1 (checkE_ok.1 h).2 s hs) v h1
  rcases placeF_some h3 with h4 | h4
  · simp [h4] at h2
  · exact h4
theorem linksAt_begs {a : List Int} (h : checkE a = 0) (x : Int) : ∀ y ∈ linksAt a (spotsL a) x, y ∈ begsL (spotsL a) := by
  intro y hy
  unfold linksAt at hy
  split at hy
  · rename_i s hs
    exact links_begs h (spotAt_some hs).1 y hy
  · cases hy
structure Reached (a : List Int) (S : List Spot) (from_ L : List Int) : Prop where
  begs : ∀ x ∈ L, x ∈ begsL S
  roots : ∀ x ∈ from_, x ∈ L
  closed : ∀ x ∈ L, ∀ y ∈ linksAt a S x, y ∈ L
  least : ∀ X : Int → Prop, (∀ x ∈ from_, X x) → (∀ x, X x → ∀ y ∈ linksAt a S x, X y) → ∀ x ∈ L, X x
  sorted : L.Pairwise (fun x y => x ≤ y)
  once : L.Nodup
theorem sorted_unique : ∀ {L L' : List Int}, L.Pairwise (fun x y => x ≤ y) → L.Nodup → L'.Pairwise (fun x y => x ≤ y) → L'.Nodup → (∀ x, x ∈ L ↔ x ∈ L') → L = L'
  | [], [], _, _, _, _, _ => rfl
  | [], y :: t, _, _, _, _, h => by have := (h y).2 List.mem_cons_self; cases this
  | x :: t, [], _, _, _, _, h => by have := (h x).1 List.mem_cons_self; cases this
  | x :: t, y :: t', h1, h2, h3, h4, h => by
    obtain ⟨a1, a2⟩ := List.pairwise_cons.1 h1
    obtain ⟨b1, b2⟩ := List.nodup_cons.1 h2
    obtain ⟨c1, c2⟩ := List.pairwise_cons.1 h3
    obtain ⟨d1, d2⟩ := List.nodup_cons.1 h4
    have hxy : x = y := by
      have e1 : x ≤ y := by
        rcases List.mem_cons.1 ((h y).2 List.mem_cons_self) with e | e
        · omega
        · exact a1 y e
      have e2 : y ≤ x := by
        rcases List.mem_cons.1 ((h x).1 List.mem_cons_self) with e | e
        · omega
        · exact c1 x e
      omega
    subst hxy
    rw [sorted_unique a2 b2 c2 d2 (fun z => by
      constructor
      · intro hz
        rcases List.mem_cons.1 ((h z).1 (List.mem_cons_of_mem _ hz)) with e | e
        · subst e; exact absurd hz b1
        · exact e
      · intro hz
        rcases List.mem_cons.1 ((h z).2 (List.mem_cons_of_mem _ hz)) with e | e
        · subst e; exact absurd hz d1
        · exact e)]
theorem Reached.unique {a : List Int} {S : List Spot} {f L L' : List Int} (h : Reached a S f L) (h' : Reached a S f L') : L = L' :=
  sorted_unique h.sorted h.once h'.sorted h'.once (fun x => ⟨fun hx => h.least (· ∈ L') h'.roots h'.closed x hx, fun hx => h'.least (· ∈ L) h.roots h.closed x hx⟩)
theorem nodup_bound : ∀ (n : Nat) (L : List Int), L.Nodup → (∀ x ∈ L, 0 ≤ x ∧ x < n) → L.length ≤ n
  | 0, [], _, _ => Nat.le_refl _
  | 0, x :: _, _, h => by have := h x List.mem_cons_self; omega
  | n + 1, L, hn, h => by
    have h1 := nodup_bound n (L.erase (n : Int)) (hn.erase _) (fun x hx => by
      have h2 := h x (List.mem_of_mem_erase hx)
      have h3 : x ≠ (n : Int) := fun e => by subst e; exact absurd hx (hn.not_mem_erase)
      omega)
    have h4 := List.length_erase (a := (n : Int)) (l := L)
    split at h4 <;> omega
structure Search (a : List Int) (S : List Spot) (from_ out : List Int) (i : Nat) : Prop where
  begs : ∀ x ∈ out, x ∈ begsL S
  once : out.Nodup
  least : ∀ X : Int → Prop, (∀ x ∈ from_, X x) → (∀ x, X x → ∀ y ∈ linksAt a S x, X y) → ∀ x ∈ out, X x
  seen : ∀ k x, k < i → out[k]? = some x → ∀ y ∈ linksAt a S x, y ∈ out
def addL (out : List Int) (x : Int) : List Int := if x ∈ out then out else out ++ [x]
theorem addL_sub (out : List Int) (x : Int) : (∀ y ∈ out, y ∈ addL out x) ∧ x ∈ addL out x := by
  unfold addL
  split
  · rename_i h; exact ⟨fun y hy => hy, h⟩
  · exact ⟨fun y hy => List.mem_append_left _ hy, by simp⟩
theorem addL_mem {out : List Int} {x y : Int} (h : y ∈ addL out x) : y ∈ out ∨ y = x := by
  unfold addL at h
  split at h
  · exact .inl h
  · simpa using h
theorem addL_get {out : List Int} {x y : Int} {k : Nat} (hk : k < out.length) (h : (addL out x)[k]? = some y) : out[k]? = some y := by
  unfold addL at h
  split at h
  · exact h
  · rwa [List.getElem?_append_left hk] at h
theorem addL_nodup {out : List Int} {x : Int} (h : out.Nodup) : (addL out x).Nodup := by
  unfold addL
  split
  · exact h
  · rename_i hx
    exact List.nodup_append.2 ⟨h, by simp, by rintro a ha b hb rfl; simp at hb; subst hb; exact hx ha⟩
theorem addL_len (out : List Int) (x : Int) : out.length ≤ (addL out x).length := by unfold addL; split <;> simp
theorem Search.nil (a : List Int) (S : List Spot) (f : List Int) : Search a S f [] 0 := ⟨by simp, by simp, by simp, by simp⟩
theorem Search.add {a : List Int} {S : List Spot} {f out : List Int} {i : Nat} (h : Search a S f out i) (hi : i ≤ out.length) {x : Int} (hx : x ∈ begsL S)
    (hl : ∀ X : Int → Prop, (∀ x ∈ f, X x) → (∀ x, X x → ∀ y ∈ linksAt a S x, X y) → X x) : Search a S f (addL out x) i := by
  obtain ⟨s1, s2⟩ := addL_sub out x
  refine ⟨fun y hy => ?_, addL_nodup h.once, fun X hX hc y hy => ?_, fun k y hk hy z hz => s1 z (h.seen k y hk (addL_get (by omega) hy) z hz)⟩
  · rcases addL_mem hy with h1 | rfl
    · exact h.begs y h1
    · exact hx
  · rcases addL_mem hy with h1 | rfl
    · exact h.least X hX hc y h1
    · exact hl X hX hc
theorem Search.len {a : List Int} {f out : List Int} {i : Nat} (h : Search a (spotsL a) f out i) (ha : spotsE a = 0) : out.length ≤ 256 :=
  nodup_bound 256 out h.once (fun x hx => begsL_bounds ha x (h.begs x hx))
end Go.Proofs.Ytgkoaambdejkdaa

namespace Go.Proofs.Ytgkoaambdejkdaa
open Go.RowKit
theorem size_int : (Try.prog.info? 3).map (·.size) = some 1 := by kernel_rfl
theorem info_int : (Try.prog.info? 3).map (fun i => (i.zero, i.size, i.bytes)) = some (some (.int .i64 0), 1, 8) := by kernel_rfl
set_option maxHeartbeats 400000 in
theorem clone_int (A : Option Addr) (n c B : Nat) (xs : List Value) (w : World) (hr : Reads w B 1 A n xs) (hB : B ≤ w.heap.size) (h1 : ∀ u ∈ xs, u.oneCell' = true) (hn : n * 8 ≤ 140737488355328) :
    Calls Try.prog 32 #[.slice A n c] w fun e w' => ∃ A' c', e = .returned (.slice A' n c') ∧ w'.ownsRow w.heap.size 3 1 (.slice A' n c') n xs ∧ Below w.heap.size w w' := by
  obtain ⟨i0, hi, hz0, hz1, hz2⟩ := info_parts info_int
  rcases A with _ | ad
  · have hm : n = 0 := by
      rcases Nat.eq_zero_or_pos n with h0 | h0
      · exact h0
      · obtain ⟨ad, h, _⟩ := hr.2 h0
        cases h
    subst hm
    have hx : xs = [] := List.eq_nil_of_length_eq_zero (by simpa using hr.1)
    subst hx
    have hnil := fun (w : World) => Lib.run_eql_slice_nil (P := Try.prog) w 23 3 none 0 c 0 0 Try.underlying23
    go_enter Try.func32, Try.ntmps32
    go_wp2
    go_ret
    exact ⟨none, 0, rfl, World.ownsRow_nil _ _ _ _, Below.refl _ _⟩
  · have hnil := fun (w : World) => Lib.run_eql_slice_nil (P := Try.prog) w 23 3 (some ad) n c 0 0 Try.underlying23
    have hmade := World.ownsRow_made (e := 3) (size := 1) w #[] 0 (Nat.le_refl w.heap.size) (Nat.zero_le _) rfl
    go_enter Try.func32, Try.ntmps32
    go_wp2_with (at_builtin; refine wpList_append_any _ rfl (.tmp 5) (.tmp 6) 23 rfl w.heap.size 3 i0 (.int .i64 0) 1 8 Try.underlying23 hi hz0 hz1 hz2 rfl (by decide) (.slice (some ⟨w.heap.size, 0, none⟩) 0 0) 0 [] rfl hmade B (some ad) n c xs rfl (hr.alloc hB _) h1 (by simp [maxLen]; omega) (by simpa using hn) (by simp) ?_; rintro v' w1 hown hgr hbl -; obtain ⟨A', c', rfl⟩ := own_slice hown)
    go_ret
    exact ⟨A', c', rfl, by simpa using hown, ((Below.refl _ _).alloc (Nat.le_refl _) _).grown hgr (by simp) (by simp [Value.ownBlock])⟩
theorem ints_one (l : List Int) : ∀ u ∈ l.map (Value.int .i64), u.oneCell' = true := by
  intro u hu
  obtain ⟨x, _, rfl⟩ := List.mem_map.1 hu
  rfl
end Go.Proofs.Ytgkoaambdejkdaa

namespace Go.Proofs.Ytgkoaambdejkdaa
open Go.RowKit
variable {P : Program}
theorem run_firstK (w : World) (k n : Nat) (ad : Addr) (a c : Nat) (cs : List Value) (hn : cs.length = n * k) (hsrc : ∀ j v, cs[j]? = some v → w.cell? (ad.add j) = some v) :
    (Builtin.firstCells k n (.slice (some ad) a c)).run P w = .ok cs.toArray w := by
  have := run_loadCells_list (P := P) w ad cs hsrc
  simp [Builtin.firstCells, ← hn, this]
theorem run_copyK (w : World) (dT sT ty elem : TypeId) (k g off dLen dCap : Nat) (ad : Addr) (sLen sCap m : Nat) (cur : List Value) (t : TypeId) (cs : List Value)
    (hu : P.underlying dT = some (.slice elem)) (hs : (P.info? elem).map (·.size) = some k) (hg : w.heap[g]? = some (.cells cur.toArray t (0, 0))) (hm : Nat.min sLen dLen = m) (hn : cs.length = m * k)
    (hsrc : ∀ j v, cs[j]? = some v → w.cell? (ad.add j) = some v) (hfit : off + cs.length ≤ cur.length) (h1 : ∀ v ∈ cs, v.oneCell' = true) :
    (Builtin.copy_ #[dT, sT] ty #[.slice (some ⟨g, off, none⟩) dLen dCap, .slice (some ad) sLen sCap]).run P w = .ok (goInt m) (w.setRow g (splice cur off cs).toArray) := by
  have hl := run_loadCells_list (P := P) w ad cs hsrc
  have hst := run_storeCells_at P g off t cs 0 cur.toArray w hg (by simpa using hfit) h1
  cases hq : P.info? elem with
  | none => simp [hq] at hs
  | some i =>
    have hi : i.size = k := by simpa [hq] using hs
    simp [Builtin.copy_, run_underlying hu, Builtin.lenOf, Builtin.firstCells, sizeOf, typeInfo, hq, hi, hm, ← hn, hl, hst, splice]
theorem run_appendK (w : World) (t ty elem : TypeId) (k g sLen sCap : Nat) (ad : Addr) (m c : Nat) (cur : List Value) (tt : TypeId) (cs : List Value)
    (hu : P.underlying t = some (.slice elem)) (hs : (P.info? elem).map (·.size) = some k) (hg : w.heap[g]? = some (.cells cur.toArray tt (0, 0))) (hn : cs.length = m * k)
    (hsrc : ∀ j v, cs[j]? = some v → w.cell? (ad.add j) = some v) (hroom : sLen + m ≤ sCap) (hfit : sLen * k + cs.length ≤ cur.length) (h1 : ∀ v ∈ cs, v.oneCell' = true) :
    (Builtin.append_ #[t, t] ty #[.slice (some ⟨g, 0, none⟩) sLen sCap, .slice (some ad) m c]).run P w = .ok (.slice (some ⟨g, 0, none⟩) (sLen + m) sCap) (w.setRow g (splice cur (sLen * k) cs).toArray) := by
  have hl := run_loadCells_list (P := P) w ad cs hsrc
  have hst := run_storeCells_at P g (sLen * k) tt cs 0 cur.toArray w hg (by simpa using hfit) h1
  cases hq : P.info? elem with
  | none => simp [hq] at hs
  | some i =>
    have hi : i.size = k := by simpa [hq] using hs
    simp [Builtin.append_, run_underlying hu, Builtin.lenOf, Builtin.firstCells, sizeOf, typeInfo, hq, hi, hroom, ← hn, hl, hst, splice, Addr.add_lit]
theorem run_clearK (w : World) (t ty elem : TypeId) (_ g off n c : Nat) (cur : List Value) (tt : TypeId) (z : Value) (cs : List Value)
    (hu : P.underlying t = some (.slice elem)) (hz : (P.info? elem).map (·.zero) = some (some z)) (hcs : (Builtin.zeroCells z.cells n).toList = cs) (hg : w.heap[g]? = some (.cells cur.toArray tt (0, 0))) (h0 : 0 < n)
    (hfit : off + cs.length ≤ cur.length) (h1 : ∀ v ∈ cs, v.oneCell' = true) :
    (Builtin.clear_ #[t] ty #[.slice (some ⟨g, off, none⟩) n c]).run P w = .ok (.tuple #[]) (w.setRow g (splice cur off cs).toArray) := by
  have hst := run_storeCells_at P g off tt cs 0 cur.toArray w hg (by simpa using hfit) h1
  cases hq : P.info? elem with
  | none => simp [hq] at hz
  | some i =>
    have hi : i.zero = some z := by simpa [hq] using hz
    obtain ⟨m, rfl⟩ : ∃ m, n = m + 1 := ⟨n - 1, by omega⟩
    simp [Builtin.clear_, run_underlying hu, zeroValue, typeInfo, hq, hi, hcs, hst, splice]
theorem wpList_copy_run (w : World) {ops : Array Oper} {rest : List Oper} {o : Oper} {a : Act} {Q : Exit → Act → World → Prop} (hgd : o.guard = none) (d s : Operand) (t t' : TypeId)
    (ho : o.op = .call { callee := .builtin .copy, args := #[d, s], argTypes := #[t, t'] }) (v u : Value) (hd : a.eval d = v) (hs : a.eval s = u) {v' : Value} {w' : World}
    (hr : (Builtin.copy_ #[t, t'] o.type #[v, u]).run P w = .ok v' w') (h : wpList P ops Q rest (a.put o.dst v') w') : wpList P ops Q (o :: rest) a w :=
  wpList_plain hgd fun K hK => by
    unfold Oper.wp execOp
    simp only [ho, resolve, invoke, builtin, Sem.run_bind, Sem.run_pure, Result.andThen_ok, List.map_toArray, List.map_cons, List.map_nil, hd, hs, hr]
    exact hK _ _ h
theorem step_copy_run {ops : Array Oper} {o : Oper} {a : Act} {w : World} {K : Act → World → Prop} {Q : Exit → Act → World → Prop} {E : Prop}
    (hg : o.guard = none) (d x : Operand) (dT sT : TypeId) (hop : o.op = Op.call { callee := Callee.builtin Builtin.copy, args := #[d, x], argTypes := #[dT, sT] })
    (v u : Value) (hd : a.eval d = v) (hx : a.eval x = u) {v' : Value} {w' : World} (hr : (Builtin.copy_ #[dT, sT] o.type #[v, u]).run P w = .ok v' w') (hK : K (a.put o.dst v') w') :
    if Region.wanted o (yielded ops a.tmps) = true then Oper.wp P o a w K Q else E := by
  have hw : Region.wanted o (yielded ops a.tmps) = true := by simp [Region.wanted, hg]
  rw [if_pos hw]
  unfold Oper.wp
  simp [execOp, hop, resolve, invoke, builtin, hd, hx, hr, Result.andThen]
  exact hK
theorem step_append_run {ops : Array Oper} {o : Oper} {a : Act} {w : World} {K : Act → World → Prop} {Q : Exit → Act → World → Prop} {E : Prop}
    (hg : o.guard = none) (d x : Operand) (dT sT : TypeId) (hop : o.op = Op.call { callee := Callee.builtin Builtin.append, args := #[d, x], argTypes := #[dT, sT] })
    (v u : Value) (hd : a.eval d = v) (hx : a.eval x = u) {v' : Value} {w' : World} (hr : (Builtin.append_ #[dT, sT] o.type #[v, u]).run P w = .ok v' w') (hK : K (a.put o.dst v') w') :
    if Region.wanted o (yielded ops a.tmps) = true then Oper.wp P o a w K Q else E := by
  have hw : Region.wanted o (yielded ops a.tmps) = true := by simp [Region.wanted, hg]
  rw [if_pos hw]
  unfold Oper.wp
  simp [execOp, hop, resolve, invoke, builtin, hd, hx, hr, Result.andThen]
  exact hK
theorem wpList_clear_run (w : World) {ops : Array Oper} {rest : List Oper} {o : Oper} {a : Act} {Q : Exit → Act → World → Prop} (hgd : o.guard = none) (d : Operand) (t : TypeId)
    (ho : o.op = .call { callee := .builtin .clear, args := #[d], argTypes := #[t] }) (v : Value) (hd : a.eval d = v) {v' : Value} {w' : World}
    (hr : (Builtin.clear_ #[t] o.type #[v]).run P w = .ok v' w') (h : wpList P ops Q rest (a.put o.dst v') w') : wpList P ops Q (o :: rest) a w :=
  wpList_plain hgd fun K hK => by
    unfold Oper.wp execOp
    simp only [ho, resolve, invoke, builtin, Sem.run_bind, Sem.run_pure, Result.andThen_ok, List.map_toArray, List.map_cons, List.map_nil, hd, hr]
    exact hK _ _ h
end Go.Proofs.Ytgkoaambdejkdaa

namespace Go.Proofs.Ytgkoaambdejkdaa
open Go.RowKit
def HeapIs (w : World) (base gh : Nat) (A : Option Addr) (n c : Nat) (S : List Spot) : Prop :=
  ∃ b Ao k co, Blk w gh 128 #[.slice A n c, .map (some b), .slice Ao k co] ∧ base ≤ gh ∧ base ≤ b ∧ MapIs w Try.prog 3 .i64 b 300 (headF S) ∧ w.ownsRow base 3 1 (.slice Ao k co) k ((begsL S).map (.int .i64))
theorem HeapIs.below {w w' : World} {base gh n c : Nat} {A : Option Addr} {S : List Spot} (h : HeapIs w base gh A n c S) (hb : Below w.heap.size w w') : HeapIs w' base gh A n c S := by
  obtain ⟨b, Ao, k, co, h1, h2, h3, h4, h5⟩ := h
  exact ⟨b, Ao, k, co, h1.below hb h1.lt, h2, h3, h4.below hb h4.lt, own_below h5 hb⟩
theorem HeapIs.mono {w : World} {base base' gh n c : Nat} {A : Option Addr} {S : List Spot} (h : HeapIs w base' gh A n c S) (hb : base ≤ base') : HeapIs w base gh A n c S := by
  obtain ⟨b, Ao, k, co, h1, h2, h3, h4, h5⟩ := h
  exact ⟨b, Ao, k, co, h1, by omega, by omega, h4, own_mono h5 hb⟩
theorem own_kinds {w : World} {base base' size size' n n' : Nat} {e e' : TypeId} {v v' : Value} {xs xs' : List Value} (h : w.ownsRow base e size v n xs) (h' : w.ownsRow base' e' size' v' n' xs') (hne : e ≠ e') {g : Nat} (hg : v.ownBlock = some g) : v'.ownBlock ≠ some g := by
  intro hg'
  rcases h.2 with ⟨rfl, _⟩ | ⟨g1, cap, cur, rfl, _, hh, _⟩
  · cases hg
  · rcases h'.2 with ⟨rfl, _⟩ | ⟨g2, cap2, cur2, rfl, _, hh2, _⟩
    · cases hg'
    · simp only [Value.ownBlock, Option.some.injEq] at hg hg'
      subst hg hg'
      rw [hh] at hh2
      injection hh2 with hh2
      injection hh2 with _ ht
      exact hne ht
theorem own_off {w : World} {base size n b : Nat} {e : TypeId} {v : Value} {xs : List Value} (h : w.ownsRow base e size v n xs) (hb : b < base) : v.ownBlock ≠ some b := fun hg => by have := (h.lt b hg).1; omega
theorem zero_head (w : World) : (zeroValue 78).run Try.prog w = .ok (.agg #[.int .i64 0, .int .i64 0, .int .i64 0, .bool false]) w := by kernel_rfl
theorem underlying_int : Try.prog.underlying 3 = some (.int .i64) := Try.underlying3
set_option maxHeartbeats 400000 in
theorem heap_bad (A : Option Addr) (n c : Nat) (a : List Int) (A2 : Option Addr) (n2 c2 : Nat) (w : World) (hr : Reads w w.heap.size 1 A n (a.map (.int .u64))) (hnc : n ≤ c) (ha : ∀ x ∈ a, (Lit.int .u64 x).wf = true) (hE : checkE a ≠ 0) :
    Calls Try.prog 52 #[.slice A n c, .slice A2 n2 c2] w fun e w' => e = .returned (.tuple #[.pointer none, .int .i64 (checkE a)]) ∧ Below w.heap.size w w' := by
  have H := Lib.hid (checkFn_any A n c a w hr hnc ha)
  have hE1 : (checkE a != 0) = true := by simpa using hE
  generalize checkE a = E at *
  clear hE hr
  go_enter Try.func52, Try.ntmps52
  go_wp2_with fail
  refine H.out.mono ?_
  rintro e w1 ⟨rfl, hb1⟩
  go_wp2
  go_ret2
  exact ⟨rfl, hb1⟩
set_option maxRecDepth 100000 in
set_option maxHeartbeats 2000000 in
theorem heap_ok (A : Option Addr) (n c : Nat) (a : List Int) (A2 : Option Addr) (n2 c2 : Nat) (f : List Int) (w : World) (hr : Reads w w.heap.size 1 A n (a.map (.int .u64))) (hnc : n ≤ c) (ha : ∀ x ∈ a, (Lit.int .u64 x).wf = true)
    (hr2 : Reads w w.heap.size 1 A2 n2 (f.map (.int .i64))) (hn2 : n2 ≤ 1000000000000000000) (hx2 : ∀ x ∈ f, (Lit.int .i64 x).wf = true) (hE : checkE a = 0) :
    Calls Try.prog 52 #[.slice A n c, .slice A2 n2 c2] w fun e w' => Below w.heap.size w w' ∧
      (((∀ x ∈ f, x ∈ begsL (spotsL a)) ∧ ∃ gh, e = .returned (.tuple #[.pointer (some ⟨gh, 0, none⟩), .int .i64 0]) ∧ HeapIs w' w.heap.size gh A n c (spotsL a)) ∨
       ((∃ x ∈ f, x ∉ begsL (spotsL a)) ∧ e = .returned (.tuple #[.pointer none, .int .i64 5]))) := by
  have H := checkFn_any A n c a w hr hnc ha
  rw [hE] at H
  have H := Lib.hid H
  have h0 := (checkE_ok.1 hE).1
  have H2 := fun w hr => spots_any A n c a w hr ha
  rw [h0] at H2
  have hrise := spots_rise h0
  have hbnd := spots_bounds h0
  have hm256 := spotsL_length a
  generalize spotsL a = S at *
  obtain ⟨m, hm⟩ : ∃ m, m = S.length := ⟨_, rfl⟩
  rw [← hm] at H2 hm256
  have HM := Lib.hid hm
  have HR := Lib.hid hrise
  have HB := Lib.hid hbnd
  have H2 := Lib.hid H2
  have hfl : f.length = n2 := by have := hr2.1; simpa using this
  have HFL := Lib.hid hfl
  have HX := Lib.hid hx2
  have hmm := @run_makeMap Try.prog
  obtain ⟨i0, hi, hz0, hz1, hz2⟩ := info_parts info_int
  clear hE h0 hm hrise hbnd hfl hx2 ha
  go_enter Try.func52, Try.ntmps52
  go_wp2_with fail
  refine H.out.mono ?_
  rintro e w1 ⟨rfl, hb1⟩
  have hbA := below_step hb1 (below_new w1 (.map #[] 0))
  have hM0 := MapIs.made w1 Try.prog 3 .i64
  have hMz := hM0.alloc (.cells #[.slice A n c, .map (some w1.heap.size), .slice none 0 0] 128)
  have hBh := Blk.new (w1.alloc (.map #[] 0)) 128 #[.slice A n c, .map (some w1.heap.size), .slice none 0 0]
  have hbB := below_step hbA (below_new (w1.alloc (.map #[] 0)) (.cells #[.slice A n c, .map (some w1.heap.size), .slice none 0 0] 128))
  simp only [World.size_alloc] at hBh
  clear hM0 hbA
  go_wp2_with fail
  refine (H2.out _ ((hr.below hbB).more hbB.size)).mono ?_
  rintro e w2 ⟨hb2, A3, c3, rfl, hown⟩
  have hMz := hMz.below hb2 hMz.lt
  have hBh := hBh.below hb2 hBh.lt
  have hb02 := below_step hbB hb2
  have HS0 := Lib.hid hown
  simp only [World.size_alloc] at HS0
  have hw1 := hb1.size
  have hBlt : w1.heap.size + 1 < w2.heap.size := hBh.lt
  clear hown hb2 hbB
  go_wp2
  go_loopw [32] (fun i wr => ∃ (j k co : Nat) (Ao : Option Addr), j ≤ m ∧ i = .int .i64 j ∧ k ≤ j ∧ Blk wr (w1.heap.size + 1) 128 #[.slice A n c, .map (some w1.heap.size), .slice Ao k co] ∧ MapIs wr Try.prog 3 .i64 w1.heap.size j (headF (S.take j)) ∧
      Hid (wr.ownsRow (w1.heap.size + 1 + 1) 3 1 (.slice Ao k co) k ((begsL (S.take j)).map (.int .i64))) ∧ Below w.heap.size w wr ∧ Hid (wr.ownsRow (w1.heap.size + 1 + 1) 89 5 (.slice A3 m c3) m (spotsC S))) (fun i _ => m - (intOf i).toNat)
  case atStart => exact ⟨0, 0, 0, none, Nat.zero_le _, rfl, Nat.zero_le _, hBh, hMz, World.ownsRow_nil _ _ _ _, hb02, HS0⟩
  case round =>
    obtain ⟨j, k, co, Ao, hj, rfl, hkj, hBh, hM, HO, hb, HRS⟩ := hrel
    by_cases hlt : j < m
    · obtain ⟨ad, s, rfl, had, hs, c0, c1, c2', c3', c4⟩ := (Reads.of_own HRS.out).spot hlt
      have hq := HB.out s (List.mem_of_getElem? hs)
      have HT : Hid (S.take (j + 1) = S.take j ++ [s]) := by
        show _ = _
        obtain ⟨h1, rfl⟩ := List.getElem?_eq_some_iff.1 hs
        exact List.take_succ_eq_append_getElem h1
      have HJ : Hid (∀ x ∈ S.take j, x.loc < s.loc) := by
        intro x hx
        rw [List.mem_take_iff_getElem] at hx
        obtain ⟨i, hi, rfl⟩ := hx
        obtain ⟨h1, rfl⟩ := List.getElem?_eq_some_iff.1 hs
        exact List.pairwise_iff_getElem.1 HR.out i j (by omega) h1 (by omega)
      obtain ⟨loc, r, b, t, fr⟩ := s
      dsimp only at c0 c1 c2' c3' c4 hq
      have hMx := hM.alloc (.cells #[.int .i64 loc, .int .i64 r, .int .i64 b, .int .i64 t, .bool fr] 89)
      have hbx := hb.alloc hb.size (.cells #[.int .i64 loc, .int .i64 r, .int .i64 b, .int .i64 t, .bool fr] 89)
      have hBx := hBh.alloc (.cells #[.int .i64 loc, .int .i64 r, .int .i64 b, .int .i64 t, .bool fr] 89)
      have hSx := Blk.new wr 89 #[.int .i64 loc, .int .i64 r, .int .i64 b, .int .i64 t, .bool fr]
      have HOx := Lib.hid (HO.out.alloc (.cells #[.int .i64 loc, .int .i64 r, .int .i64 b, .int .i64 t, .bool fr] 89))
      have hbs := below_new wr (.cells #[.int .i64 loc, .int .i64 r, .int .i64 b, .int .i64 t, .bool fr] 89)
      have HRx := Lib.hid (HRS.out.alloc (.cells #[.int .i64 loc, .int .i64 r, .int .i64 b, .int .i64 t, .bool fr] 89))
      have hj1 : j + 1 ≤ m := hlt
      have hws := hb.size
      have k0 := hBx.cell 0
      have k1 := hBx.cell 1
      have k2 := hBx.cell 2
      have s0 := hSx.cell 0
      have s1 := hSx.cell 1
      have s2 := hSx.cell 2
      have s3 := hSx.cell 3
      have s4 := hSx.cell 4
      simp only [List.getElem?_toArray, List.getElem?_cons_zero, List.getElem?_cons_succ] at k0 k1 k2 s0 s1 s2 s3 s4
      clear hs hbs HRS HO
      cases fr
      · have HP := Lib.hid (headF_snoc (l := S.take j) (s := ⟨loc, r, b, t, false⟩) rfl HJ.out)
        have HQ := Lib.hid (begsL_snoc (S.take j) ⟨loc, r, b, t, false⟩)
        rw [← HT.out] at HP HQ
        have hwl := hBh.lt
        obtain ⟨w3, hupd, hM3, hg3⟩ := hMx.drew.store (k := 3) (t := 79) Try.underlying3 Try.underlying79 (by unfold maxLen; omega) (x := loc) (by simp [Lit.wf, IntKind.min, IntKind.max, IntKind.signed, IntKind.bits]; omega) (.agg #[.int .i64 r, .int .i64 b, .int .i64 t, .bool false])
        have hB3 := hBx.drew.grown hg3 (fun h => by injection h with h; omega)
        have hS3 := hSx.drew.grown hg3 (fun h => by injection h with h; omega)
        have hb3 := hbx.drew.grown hg3 (by exact hbx.size) (fun g hg => by injection hg with hg; omega)
        have hO3 := own_grown HOx.out.drew hg3 (fun g hg h => by injection h with h; have := (HOx.out.lt g hg).1; omega)
        have hR3 := own_grown HRx.out.drew hg3 (fun g hg h => by injection h with h; have := (HRx.out.lt g hg).1; omega)
        -- the list grows by one
        have hB4 := (hB3.alloc (.cells #[.int .i64 loc] 3)).drew
        have hM4 := (hM3.alloc (.cells #[.int .i64 loc] 3)).drew
        have hb4 := (hb3.alloc hb3.size (.cells #[.int .i64 loc] 3)).drew
        have hO4 := (hO3.alloc (.cells #[.int .i64 loc] 3)).drew
        have hR4 := (hR3.alloc (.cells #[.int .i64 loc] 3)).drew
        have hw3 : w1.heap.size + 1 < w3.heap.size := hB3.lt
        obtain ⟨v5, w5, hrun, hO5, hg5, -, -⟩ := run_append_any (P := Try.prog) (w3.alloc (.cells #[.int .i64 loc] 3)).drew (w1.heap.size + 1 + 1) 23 23 3 i0 (.int .i64 0) 1 8 Try.underlying23 hi hz0 hz1 hz2 rfl (by decide) (.slice Ao k co) k _ hO4 _ (some ⟨w3.heap.size, 0, none⟩) 1 1 [.int .i64 loc] (reads_new w3 [.int .i64 loc] 3 1 1 rfl) (by simp [Value.oneCell']) (by unfold maxLen; omega) (by omega) (by show _ ≤ (w3.alloc _).heap.size; rw [World.size_alloc]; omega)
        obtain ⟨A5, c5, rfl⟩ := own_slice hO5
        have hB5 := hB4.grown hg5 (fun h => own_off hO4 (by omega) h.symm)
        have hM5 := hM4.kept hg5 (fun h => own_off hO4 (by omega) h.symm)
        have hb5 := hb4.grown hg5 hb4.size (fun g hg => by have := (hO4.lt g hg).1; omega)
        have hR5 := own_grown hR4 hg5 (fun g hg => own_kinds hR4 hO4 (by decide) hg)
        have hB6 : Blk (w5.setCell ⟨w1.heap.size + 1, 2, none⟩ (.slice A5 (k + 1) c5)) (w1.heap.size + 1) 128 #[.slice A n c, .map (some w1.heap.size), .slice A5 (k + 1) c5] := by simpa using hB5.set_ 2 (.slice A5 (k + 1) c5)
        have hM6 := hM5.setCell (a := ⟨w1.heap.size + 1, 2, none⟩) (by dsimp only; omega) (.slice A5 (k + 1) c5)
        have hb6 := hb5.setCell (p := ⟨w1.heap.size + 1, 2, none⟩) (by dsimp only; omega) (.slice A5 (k + 1) c5)
        have hO6 := own_apart hO5 (p := ⟨w1.heap.size + 1, 2, none⟩) (own_off hO5 (by dsimp only; omega)) (.slice A5 (k + 1) c5)
        have hR6 := own_apart hR5 (p := ⟨w1.heap.size + 1, 2, none⟩) (own_off hR5 (by dsimp only; omega)) (.slice A5 (k + 1) c5)
        have q0 := hB3.cell 0
        have q2 := hB3.cell 2
        have q1 := hB3.cell 1
        have u0 := hS3.cell 0
        have u1 := hS3.cell 1
        have u2 := hS3.cell 2
        have u3 := hS3.cell 3
        have u4 := hS3.cell 4
        have p2 := hB5.cell 2
        have pf := hB5.frozen 2
        have q2' := (hB3.alloc (.cells #[.int .i64 loc] 3)).cell 2
        have u0' := (hS3.alloc (.cells #[.int .i64 loc] 3)).cell 0
        simp only [List.getElem?_toArray, List.getElem?_cons_zero, List.getElem?_cons_succ] at q0 q1 q2 u0 u1 u2 u3 u4 p2 q2' u0'
        have HM6 := Lib.hid hM6
        have HO6 : Hid ((w5.setCell ⟨w1.heap.size + 1, 2, none⟩ (.slice A5 (k + 1) c5)).ownsRow (w1.heap.size + 1 + 1) 3 1 (.slice A5 (k + 1) c5) (k + 1) ((begsL (S.take (j + 1))).map (.int .i64))) := by
          rw [HQ.out, if_neg (by simp), List.map_append]
          exact hO6
        have HR6 := Lib.hid hR6
        have HRun := Lib.hid hrun
        clear hM hb hM3 hB3 hS3 hb3 hO3 hR3 hB4 hM4 hb4 hO4 hR4 hB5 hM5 hb5 hR5 hM6 hO6 hO5 hR6 hrun hg5 hg3 hMx hbx HOx HRx
        go_wp2
        go_region_held3 (fun w' => w'.cell? ⟨w1.heap.size + 1, 1, none⟩ = some (.map (some w1.heap.size)) ∧ w'.cell? ⟨wr.heap.size, 0, none⟩ = some (.int .i64 loc) ∧ w'.cell? ⟨wr.heap.size, 1, none⟩ = some (.int .i64 r) ∧ w'.cell? ⟨wr.heap.size, 2, none⟩ = some (.int .i64 b) ∧ w'.cell? ⟨wr.heap.size, 3, none⟩ = some (.int .i64 t) ∧ w'.cell? ⟨wr.heap.size, 4, none⟩ = some (.bool false)) (go_keep) (fail)
        go_wp2
        go_region_law (refine step_append_run rfl (.tmp 52) (.tmp 55) 23 23 rfl (.slice Ao k co) (.slice (some ⟨w3.heap.size, 0, none⟩) 1 1) (by simp [Act.eval]) (by simp [Act.eval]) HRun.out ?_)
        all_goals
          try simp only [Act.put, Act.eval, List.getElem_toArray, List.getElem_cons_zero, List.getElem_cons_succ, List.setIfInBounds_toArray, List.set_cons_zero, List.set_cons_succ]
          clear q0 q1 q2 u0 u1 u2 u3 u4 p2 pf q2' u0'
          go_wp2
          go_roundw
          case rel => exact ⟨j + 1, k + 1, c5, A5, hj1, by go_num, by omega, hB6, by rw [HP.out]; exact HM6.out, HO6, hb6, HR6⟩
          case measure => simp [intOf]; omega
      · have HP : Hid (headF (S.take (j + 1)) = headF (S.take j)) := by show _ = _; rw [HT.out]; exact headF_free rfl
        have HQ : Hid (begsL (S.take (j + 1)) = begsL (S.take j)) := by show _ = _; rw [HT.out, begsL_snoc]; rfl
        clear hM hb
        go_wp2
        go_roundw
        case rel => exact ⟨j + 1, k, co, Ao, hj1, by go_num, by omega, hBx, by rw [HP.out]; exact hMx.mono (by omega), by rw [HQ.out]; exact HOx, hbx, HRx⟩
        case measure => simp [intOf]; omega
    · have hjm : j = m := by omega
      have hM : MapIs wr Try.prog 3 .i64 w1.heap.size 300 (headF S) := by
        rw [hjm, List.take_of_length_le (by rw [HM.out]; exact Nat.le_refl _)] at hM
        exact hM.mono (by omega)
      have HI : Hid (HeapIs wr w.heap.size (w1.heap.size + 1) A n c S) := by
        refine ⟨w1.heap.size, Ao, k, co, hBh, by omega, by omega, hM, ?_⟩
        have := HO.out
        rw [hjm, List.take_of_length_le (by rw [HM.out]; exact Nat.le_refl _)] at this
        exact own_mono this (by omega)
      obtain ⟨wo, hwo⟩ : ∃ x, x = wr := ⟨wr, rfl⟩
      subst hwo
      have hr2' := hr2.below hb
      have hwl := hM.lt
      have g0 : decide (j < m) = false := decide_eq_false hlt
      have hgh := hBh.lt
      clear HO HRS hjm hb02 hMz
      go_wp2
      go_loopw [62] (fun i wr => ∃ j : Nat, j ≤ n2 ∧ i = .int .i64 j ∧ Hid (∀ x ∈ f.take j, x ∈ begsL S) ∧ Below wo.heap.size wo wr) (fun i _ => n2 - (intOf i).toNat)
      case atStart => exact ⟨0, Nat.zero_le _, rfl, by intro x hx; simp at hx, Below.refl _ _⟩
      case round =>
        obtain ⟨j2, hj2, rfl, HA, hb2⟩ := hrel
        have hb02 := below_step hb hb2
        have hMr := hM.below hb2 hwl
        have hBr := hBh.below hb2 hgh
        have k1 := hBr.cell 1
        simp only [List.getElem?_toArray, List.getElem?_cons_zero, List.getElem?_cons_succ] at k1
        by_cases hlt2 : j2 < n2
        · obtain ⟨ad, x, rfl, had, hx, cx⟩ := (hr2.below hb02).num hlt2
          have hlook := hMr.look_ok (k := 3) (t := 79) Try.underlying3 Try.underlying79 (zero_head _) (HX.out x (List.mem_of_getElem? hx))
          have hj3 : j2 + 1 ≤ n2 := hlt2
          by_cases hm : x ∈ begsL S
          · obtain ⟨s, hs⟩ := begsL_iff.1 hm
            have e1 : headF S x = some (headC s) := by unfold headF; rw [hs]; rfl
            rw [e1] at hlook
            obtain ⟨loc, r, b, t, fr⟩ := s
            have hlook2 : (Instr.lookup 79 (.map (some w1.heap.size)) (.int .i64 x) true).run Try.prog wr = .ok (.tuple #[.agg #[.int .i64 r, .int .i64 b, .int .i64 t, .bool fr], .bool true]) wr := hlook
            clear hlook
            have HA2 : Hid (∀ x ∈ f.take (j2 + 1), x ∈ begsL S) := by
              intro y hy
              obtain ⟨q1, q2⟩ := List.getElem?_eq_some_iff.1 hx
              rw [List.take_succ_eq_append_getElem q1, List.mem_append] at hy
              rcases hy with hy | hy
              · exact HA.out y hy
              · simp only [List.mem_cons, List.not_mem_nil, or_false] at hy
                rw [hy, q2]; exact hm
            have hbx := hb2.alloc hb2.size (.cells #[.int .i64 r, .int .i64 b, .int .i64 t, .bool fr] 78)
            clear hx hm hs e1 HA
            go_wp2
            go_roundw
            case rel => exact ⟨j2 + 1, hj3, by go_num, HA2, hbx⟩
            case measure => simp [intOf]; omega
          · have e1 : headF S x = none := by
              cases hh : headF S x with
              | none => rfl
              | some v => exact absurd (headF_isSome.1 (by rw [hh]; rfl)) hm
            rw [e1] at hlook
            have hlook2 : (Instr.lookup 79 (.map (some w1.heap.size)) (.int .i64 x) true).run Try.prog wr = .ok (.tuple #[.agg #[.int .i64 0, .int .i64 0, .int .i64 0, .bool false], .bool false]) wr := hlook
            clear hlook
            have hex : ∃ x ∈ f, x ∉ begsL S := ⟨x, List.mem_of_getElem? hx, hm⟩
            have HEx := Lib.hid hex
            have hbx := hb02.alloc hb02.size (.cells #[.int .i64 0, .int .i64 0, .int .i64 0, .bool false] 78)
            clear hx hm e1 HA hex
            go_wp2
            go_ret2
            exact ⟨hbx, .inr ⟨HEx.out, rfl⟩⟩
        · have HAll : Hid (∀ x ∈ f, x ∈ begsL S) := by
            have := HA.out
            rw [List.take_of_length_le (by rw [HFL.out]; omega)] at this
            exact this
          have g2 : decide (j2 < n2) = false := decide_eq_false hlt2
          clear HA
          go_wp2
          go_ret2
          exact ⟨hb02, .inl ⟨HAll.out, _, rfl, HI.out.below hb2⟩⟩
end Go.Proofs.Ytgkoaambdejkdaa

namespace Go.Proofs.Ytgkoaambdejkdaa
open Go.RowKit
def linksP (rs : List Int) : List Int := (rs.filter fun v => v != 0).map fun v => v - 1
theorem linksP_zero {rs : List Int} {j : Nat} (h : rs[j]? = some 0) : linksP (rs.take (j + 1)) = linksP (rs.take j) := by
  obtain ⟨h1, h2⟩ := List.getElem?_eq_some_iff.1 h
  unfold linksP
  rw [List.take_succ_eq_append_getElem h1, List.filter_append, List.map_append, h2]
  simp
theorem linksP_succ {rs : List Int} {j : Nat} {v : Int} (h : rs[j]? = some v) (h0 : v ≠ 0) : linksP (rs.take (j + 1)) = linksP (rs.take j) ++ [v - 1] := by
  obtain ⟨h1, h2⟩ := List.getElem?_eq_some_iff.1 h
  unfold linksP
  rw [List.take_succ_eq_append_getElem h1, List.filter_append, List.map_append, h2]
  simp [h0]
theorem field_head (r b t : Int) (f : Bool) (w : World) : (Instr.field 78 (.agg #[.int .i64 r, .int .i64 b, .int .i64 t, .bool f]) 0).run Try.prog w = .ok (.int .i64 r) w := by kernel_rfl
set_option maxRecDepth 100000 in
set_option maxHeartbeats 2000000 in
theorem each_any (F : Nat) (cap1 cap2 : Value) (gh b B : Nat) (A Ao : Option Addr) (n c k co : Nat) (a : List Int) (S : List Spot) (s : Spot) (w : World) (hBh : Blk w gh 128 #[.slice A n c, .map (some b), .slice Ao k co]) (hM : MapIs w Try.prog 3 .i64 b 300 (headF S))
    (hs : spotAt S s.loc = some s) (hok : SpotOk a s) (hr : Reads w B 1 A n (a.map (.int .u64))) (hnc : n ≤ c) (hn : n ≤ 256) (hP : Plain Try.prog F) (hlk : ∀ v ∈ refsOf a s, v = 0 ∨ 1 ≤ v ∧ v ≤ 256)
    (Inv : List Int → World → Prop) (hI : Inv [] w) (hID : ∀ l w q, Inv l w → Inv l (w.drewN q)) (hIR : ∀ l w', Inv l w' → Reads w' B 1 A n (a.map (.int .u64)))
    (HC : ∀ (l : List Int) (y : Int) (w' : World), Inv l w' → y ∈ linksL a s → Calls Try.prog F #[.int .i64 y, cap1, cap2] w' fun e w'' => e = .returned (.tuple #[]) ∧ Inv (l ++ [y]) w'') :
    Calls Try.prog 54 #[.pointer (some ⟨gh, 0, none⟩), .int .i64 s.loc, .func (.func F) #[] #[cap1, cap2]] w fun e w' => e = .returned (.tuple #[]) ∧ Inv (linksL a s) w' := by
  have hal : a.length = n := by have := hr.1; simpa using this
  have l0 := hok.loc0
  have r0 := hok.r0
  have b0 := hok.b0
  have ft := hok.fits
  have hrl := refsOf_length hok
  have e1 : headF S s.loc = some (headC s) := by unfold headF; rw [hs]; rfl
  have HLOOK := fun q => (hM.drewN q).look (k := 3) (t := 79) Try.underlying3 Try.underlying79 (zero_head _) (x := s.loc) (by unfold Spot.long at ft; simp [Lit.wf, IntKind.min, IntKind.max, IntKind.signed, IntKind.bits]; omega)
  rw [e1] at HLOOK
  have hL : linksL a s = linksP (refsOf a s) := rfl
  rw [hL]
  rw [hL] at HC
  have hR : (refsOf a s) = (a.drop (s.loc.toNat + 1)).take s.r.toNat := rfl
  have HRS := Lib.hid hR
  clear hR hL hM e1 hs hok
  generalize refsOf a s = rs at *
  obtain ⟨loc, r, bb, t, fr⟩ := s
  simp only [Spot.long] at ft l0 r0 b0 ⊢
  obtain ⟨i, rfl⟩ := Int.eq_ofNat_of_zero_le l0
  obtain ⟨m, rfl⟩ := Int.eq_ofNat_of_zero_le r0
  simp only [Int.toNat_natCast] at hrl HRS
  rw [hal] at ft
  obtain ⟨p1, hp1⟩ : ∃ p1, p1 = i + 1 := ⟨_, rfl⟩
  obtain ⟨p2, hp2⟩ : ∃ p2, p2 = p1 + m := ⟨_, rfl⟩
  have w1 : IntKind.i64.wrap ((i : Int) + 1) = p1 := by rw [IntWalk.i64_in _ (by omega)]; omega
  have w2 : IntKind.i64.wrap ((p1 : Int) + m) = p2 := by rw [IntWalk.i64_in _ (by omega)]; omega
  have hlook2 : ∀ q, (Instr.lookup 79 (.map (some b)) (.int .i64 i) false).run Try.prog (w.drewN q) = .ok (.agg #[.int .i64 m, .int .i64 bb, .int .i64 t, .bool fr]) (w.drewN q) := fun q => HLOOK q
  have hfield := fun w => field_head m bb t fr w
  have hpos : 0 < n := by omega
  obtain ⟨ad, rfl, had, -⟩ := hr.2 hpos
  have k0 := hBh.cell 0
  have k1 := hBh.cell 1
  simp only [List.getElem?_toArray, List.getElem?_cons_zero, List.getElem?_cons_succ] at k0 k1
  have q1 : p1 ≤ p2 := by omega
  have q2 : p2 ≤ n := by omega
  have q3 : p2 ≤ c := by omega
  have q4 : p1 ≤ c := by omega
  have q5 : p2 - p1 = m := by omega
  have HC := Lib.hid HC
  have HIR := Lib.hid hIR
  have HID := Lib.hid hID
  have HLK := Lib.hid hlk
  have HRL := Lib.hid hrl
  have hcf := fun (x : Value) (w : World) => hP #[x, cap1, cap2] w
  have HP1 := Lib.hid hp1
  have HAL := Lib.hid hal
  clear HLOOK hrl hlk hIR hID hp1 hp2 hP hal hBh
  by_cases hci : c = p1
  · have hci2 : (c == p1) = true := by simpa using hci
    have hm0 : m = 0 := by omega
    have hrs : rs = [] := List.eq_nil_of_length_eq_zero (by rw [HRL.out]; exact hm0)
    subst hrs
    have g0 : decide (0 < m) = false := decide_eq_false (by omega)
    have HI0 := Lib.hid hI
    clear hI hcf hm0
    go_enter Try.func54, Try.ntmps54
    go_wp2
    go_quiet (fail)
    go_wp2
    go_loopw [26] (fun i wr => i = .int .i64 0 ∧ wr = w.drewN nq) (fun _ _ => 0)
    case atStart => exact ⟨by first | rfl | simp, rfl⟩
    case round =>
      obtain ⟨rfl, rfl⟩ := hrel
      go_wp2
      go_end0
      exact ⟨rfl, HID.out _ _ _ HI0.out⟩
  · have HI0 := Lib.hid hI
    have HG : Hid (∀ (wr : World) (j : Nat), j < m → Reads wr B 1 (some ad) n (a.map (.int .u64)) → ∃ v, rs[j]? = some v ∧ 0 ≤ v ∧ wr.cell? ((ad.add p1).add j) = some (.int .u64 v)) := by
      intro wr j hj hrr
      have h1 := hrr.sub (lo := p1) (hi := p2) q1 q2 hnc
      rw [if_neg hci, q5] at h1
      have h2 : ((a.map (Value.int .u64)).drop p1).take m = rs.map (Value.int .u64) := by rw [HRS.out, List.map_take, List.map_drop, HP1.out]
      rw [h2] at h1
      obtain ⟨ad2, v, e2, -, hv, hc⟩ := h1.num hj
      simp only [Option.map_some, Option.some.injEq] at e2
      subst e2
      refine ⟨v, hv, ?_, hc⟩
      rcases HLK.out v (List.mem_of_getElem? hv) with h | h <;> omega
    clear hI
    go_enter Try.func54, Try.ntmps54
    go_wp2
    go_quiet (fail)
    go_wp2
    go_loopw [7, 26] (fun _ i wr => ∃ j : Nat, j ≤ m ∧ i = .int .i64 j ∧ Hid (Inv (linksP (rs.take j)) wr)) (fun _ i _ => m - (intOf i).toNat)
    case atStart => exact ⟨0, Nat.zero_le _, rfl, HID.out _ _ _ HI0.out⟩
    case round =>
      obtain ⟨j, hj, rfl, HI⟩ := hrel
      by_cases hlt : j < m
      · obtain ⟨v, hv, hv0, hc⟩ := HG.out wr j hlt (HIR.out _ _ HI.out)
        have hlk := HLK.out v (List.mem_of_getElem? hv)
        have hj1 : j + 1 ≤ m := hlt
        by_cases h0 : v = 0
        · subst h0
          have HI2 : Hid (Inv (linksP (rs.take (j + 1))) wr) := by
            show Inv _ _
            rw [linksP_zero hv]
            exact HI.out
          clear hv HI
          go_wp2
          go_roundw
          case rel => exact ⟨j + 1, hj1, by go_num, HI2⟩
          case measure => simp [intOf]; omega
        · obtain ⟨y, hy⟩ : ∃ y : Nat, v = ((y + 1 : Nat) : Int) := ⟨(v - 1).toNat, by omega⟩
          have hyl : ((y : Nat) : Int) ∈ linksP rs := List.mem_map.2 ⟨v, List.mem_filter.2 ⟨List.mem_of_getElem? hv, by simpa using h0⟩, by omega⟩
          have HQ := HC.out (linksP (rs.take j)) y wr HI.out hyl
          have hst := linksP_succ hv h0
          rw [show v - 1 = ((y : Nat) : Int) by omega] at hst
          rw [← hst] at HQ
          have HQ := Lib.hid HQ
          obtain ⟨V, hV⟩ : ∃ V : Nat, V = y + 1 := ⟨_, rfl⟩
          rw [← hV] at hy
          subst hy
          have z1 : ((V : Int) != 0) = true := by simp; omega
          have z2 : (V != 0) = true := by simp; omega
          have z3 : ¬ V = 0 := by omega
          have w3 : IntKind.i64.wrap (V : Int) = V := IntWalk.i64_in _ (by omega)
          have w4 : IntKind.i64.wrap ((V : Int) - 1) = y := by rw [IntWalk.i64_in _ (by omega)]; omega
          have w5 : (V : Int) - 1 = y := by omega
          have w6 : IntKind.i64.wrap (y : Int) = y := IntWalk.i64_in _ (by omega)
          clear hv HI hyl hst hV hlk
          go_wp2_with fail
          refine HQ.out.mono ?_
          rintro e w9 ⟨rfl, hI9⟩
          have HI9 := Lib.hid hI9
          go_wp2
          go_roundw
          case rel => exact ⟨j + 1, hj1, by go_num, HI9⟩
          case measure => simp [intOf]; omega
      · have hjm : j = m := by omega
        have HI2 : Hid (Inv (linksP rs) wr) := by
          have := HI.out
          rw [hjm, List.take_of_length_le (by rw [HRL.out]; exact Nat.le_refl _)] at this
          exact this
        have g0 : decide (j < m) = false := decide_eq_false hlt
        clear hjm HI
        go_wp2
        go_end0
        exact ⟨rfl, HI2.out⟩
end Go.Proofs.Ytgkoaambdejkdaa

namespace Go.Proofs.Ytgkoaambdejkdaa
open Go.RowKit
def seenF (out : List Int) : Int → Option Value := fun x => if x ∈ out then some (.bool true) else none
theorem seenF_snoc (out : List Int) (x : Int) : seenF (out ++ [x]) = upd (seenF out) x (.bool true) := by
  funext y
  unfold seenF upd
  by_cases h : y = x
  · subst h; simp
  · simp [h]
def AddSt (w0 : World) (out : List Int) (w : World) : Prop :=
  ∃ Ao co, Blk w (w0.heap.size + 1) 98 #[.map (some w0.heap.size)] ∧ Blk w (w0.heap.size + 1 + 1) 23 #[.slice Ao out.length co] ∧ MapIs w Try.prog 3 .i64 w0.heap.size out.length (seenF out) ∧
    w.ownsRow (w0.heap.size + 1 + 1 + 1) 3 1 (.slice Ao out.length co) out.length (out.map (.int .i64)) ∧ Below w0.heap.size w0 w
theorem AddSt.drewN {w0 w : World} {out : List Int} (h : AddSt w0 out w) (q : Nat) : AddSt w0 out (w.drewN q) := by
  obtain ⟨Ao, co, h1, h2, h3, h4, h5⟩ := h
  exact ⟨Ao, co, h1.drewN q, h2.drewN q, h3.drewN q, own_below h4 (below_drewN (Below.refl _ _) q), below_drewN h5 q⟩
theorem zero_bool (w : World) : (zeroValue 4).run Try.prog w = .ok (.bool false) w := by kernel_rfl
set_option maxRecDepth 100000 in
set_option maxHeartbeats 1000000 in
theorem add_any (w0 : World) (out : List Int) (x : Int) (w : World) (h : AddSt w0 out w) (hx : (Lit.int .i64 x).wf = true) (hl : out.length ≤ 100000) :
    Calls Try.prog 53 #[.int .i64 x, .pointer (some ⟨w0.heap.size + 1, 0, none⟩), .pointer (some ⟨w0.heap.size + 1 + 1, 0, none⟩)] w fun e w' => e = .returned (.tuple #[]) ∧ AddSt w0 (addL out x) w' := by
  obtain ⟨Ao, co, h1, h2, h3, h4, h5⟩ := h
  have hlook := h3.look (k := 3) (t := 98) Try.underlying3 Try.underlying98 (zero_bool _) hx
  have k0 := h1.cell 0
  simp only [List.getElem?_toArray, List.getElem?_cons_zero] at k0
  by_cases hm : x ∈ out
  · have e1 : seenF out x = some (.bool true) := by unfold seenF; rw [if_pos hm]
    have e2 : addL out x = out := by unfold addL; rw [if_pos hm]
    rw [e1] at hlook
    rw [e2]
    have hlook2 : (Instr.lookup 98 (.map (some w0.heap.size)) (.int .i64 x) false).run Try.prog w = .ok (.bool true) w := hlook
    have HS : Hid (AddSt w0 out w) := ⟨Ao, co, h1, h2, h3, h4, h5⟩
    clear hlook e1 e2 hm h1 h2 h3 h4 h5
    go_enter Try.func53, Try.ntmps53
    go_wp2
    go_end0
    exact ⟨rfl, HS.out⟩
  · have e1 : seenF out x = none := by unfold seenF; rw [if_neg hm]
    have e2 : addL out x = out ++ [x] := by unfold addL; rw [if_neg hm]
    rw [e1] at hlook
    rw [e2]
    have hlook2 : (Instr.lookup 98 (.map (some w0.heap.size)) (.int .i64 x) false).run Try.prog w = .ok (.bool false) w := hlook
    obtain ⟨w1, hupd, hM1, hg1⟩ := h3.store (k := 3) (t := 98) Try.underlying3 Try.underlying98 (by unfold maxLen; omega) (x := x) hx (.bool true)
    rw [← seenF_snoc] at hM1
    have hwl := h2.lt
    have hB1 := h1.grown hg1 (fun h => by injection h with h; omega)
    have hD1 := h2.grown hg1 (fun h => by injection h with h; omega)
    have hO1 := own_grown h4 hg1 (fun g hg h => by injection h with h; have := (h4.lt g hg).1; omega)
    have hb1 := h5.grown hg1 h5.size (fun g hg => by injection hg with hg; omega)
    have hw1 : w0.heap.size + 1 + 1 < w1.heap.size := hD1.lt
    have hB2 := hB1.alloc (.cells #[.int .i64 x] 3)
    have hD2 := hD1.alloc (.cells #[.int .i64 x] 3)
    have hM2 := hM1.alloc (.cells #[.int .i64 x] 3)
    have hO2 := hO1.alloc (.cells #[.int .i64 x] 3)
    have hb2 := hb1.alloc hb1.size (.cells #[.int .i64 x] 3)
    have d0 := hD1.cell 0
    have q0 := hB1.cell 0
    simp only [List.getElem?_toArray, List.getElem?_cons_zero] at d0 q0
    obtain ⟨i0, hi, hz0, hz1, hz2⟩ := info_parts info_int
    obtain ⟨k, hk⟩ : ∃ k, k = out.length := ⟨_, rfl⟩
    rw [← hk] at hO2 hD2 hM2 d0 hl
    have HK := Lib.hid hk
    have HM2 := Lib.hid hM2
    have HB2 := Lib.hid hB2
    have HD2 := Lib.hid hD2
    clear hlook e1 e2 hm h1 h2 h3 h4 h5 hM1 hB1 hD1 hO1 hb1 hB2 hD2 hM2 hg1 hk hwl
    go_enter Try.func53, Try.ntmps53
    go_wp2_with (at_builtin; refine wpList_append_any _ rfl (.tmp 10) (.tmp 12) 23 rfl (w0.heap.size + 1 + 1 + 1) 3 i0 (.int .i64 0) 1 8 Try.underlying23 hi hz0 hz1 hz2 rfl (by decide) (.slice Ao k co) k _ rfl hO2 (w1.heap.size + 1) (some ⟨w1.heap.size, 0, none⟩) 1 1 [.int .i64 x] rfl (reads_new w1 [.int .i64 x] 3 1 1 rfl) (by simp [Value.oneCell']) (by unfold maxLen; omega) (by omega) (by simp; omega) ?_; rintro v' w3 hown3 hgr - -; obtain ⟨A5, c5, rfl⟩ := own_slice hown3; have hD3 := HD2.out.grown hgr (fun h => own_off hO2 (by omega) h.symm); have p0 := hD3.cell 0; have pf := hD3.frozen 0; simp only [List.getElem?_toArray, List.getElem?_cons_zero] at p0)
    go_end0
    have hB3 := HB2.out.grown hgr (fun h => own_off hO2 (by omega) h.symm)
    have hM3 := HM2.out.kept hgr (fun h => own_off hO2 (by omega) h.symm)
    have hb3 := hb2.grown hgr hb2.size (fun g hg => by have := (hO2.lt g hg).1; omega)
    have hD4 : Blk (w3.setCell ⟨w0.heap.size + 1 + 1, 0, none⟩ (.slice A5 (k + 1) c5)) (w0.heap.size + 1 + 1) 23 #[.slice A5 (k + 1) c5] := by simpa using hD3.set_ 0 (.slice A5 (k + 1) c5)
    refine ⟨rfl, A5, c5, hB3.far (by dsimp only; omega) _, ?_, ?_, ?_, hb3.setCell (p := ⟨w0.heap.size + 1 + 1, 0, none⟩) (by dsimp only; omega) _⟩
    · rw [List.length_append, List.length_singleton, ← HK.out]
      exact hD4
    · rw [List.length_append, List.length_singleton, ← HK.out]
      exact hM3.setCell (by dsimp only; omega) _
    · rw [List.length_append, List.length_singleton, ← HK.out, List.map_append]
      exact own_apart hown3 (own_off hown3 (by dsimp only; omega)) _
end Go.Proofs.Ytgkoaambdejkdaa

namespace Go.Proofs
open Go.RowKit Go.Sort Go.Shelf
shelf_lay_g SlLaysM.n5 Slgm 5 at Try 51 as Try.sortI
end Go.Proofs
namespace Go.Proofs.Ytgkoaambdejkdaa
open Go.RowKit Go.Sort
def sortL (l : List Int) : List Int := l.mergeSort fun x y => decide (x ≤ y)
theorem sortL_length (l : List Int) : (sortL l).length = l.length := List.length_mergeSort l
theorem sortL_mem {l : List Int} {x : Int} : x ∈ sortL l ↔ x ∈ l := (List.mergeSort_perm l _).mem_iff
theorem sortL_perm (l : List Int) : (sortL l).Perm l := List.mergeSort_perm l _
theorem sortL_sorted (l : List Int) : (sortL l).Pairwise (fun x y => x ≤ y) := by
  have h := List.pairwise_mergeSort (le := fun x y : Int => decide (x ≤ y)) (fun a b c h1 h2 => by simp only [decide_eq_true_eq] at *; omega) (fun a b => by simp only [Bool.or_eq_true, decide_eq_true_eq]; omega) l
  exact h.imp (by simp)
theorem sort_int (base : Nat) (A : Option Addr) (n c : Nat) (xs : List Int) (w : World) (hown : w.ownsRow base 3 1 (.slice A n c) n (xs.map (.int .i64))) (hn : n ≤ 1000000) :
    Calls Try.prog 51 #[.slice A n c] w fun e w' => e = .returned (.tuple #[]) ∧ w'.ownsRow base 3 1 (.slice A n c) n ((sortL xs).map (.int .i64)) ∧ w.grownBy w' (Value.slice A n c).ownBlock := by
  by_cases hnil : Value.slice A n c = .slice none 0 0
  · injection hnil with h1 h2 h3
    subst h1 h2 h3
    have hx : xs = [] := List.eq_nil_of_length_eq_zero (by have := hown.1; simpa using this)
    subst hx
    have H := AnyM.slices_Sort_int_none Try.sortI none 0 w
    refine Calls.mono H ?_
    rintro e w' ⟨rfl, rfl⟩
    exact ⟨rfl, by simpa [sortL] using hown, ⟨rfl, rfl, rfl, Nat.le_refl _, fun _ _ _ => rfl⟩⟩
  · obtain ⟨g, cap, hv, hb, hg, h1, h2, h3, hH⟩ := Lib.holds_of_ownsRow hown hnil
    injection hv with e1 _ e3
    subst e1 e3
    have H := AnyM.slices_Sort_int Try.sortI g 0 c xs w hH hg (by omega)
    rw [h3] at H
    refine Calls.mono H ?_
    rintro e w' ⟨rfl, q, os, rfl⟩
    refine ⟨rfl, ?_, grownBy_sortedI _⟩
    have := Lib.ownsRow_putRow (q := q) (k := n) hown (ys := sortL xs) (by rw [sortL_length, h3]) (Nat.le_refl _)
    rw [List.take_of_length_le (by rw [sortL_length]; omega)] at this
    exact own_grown (row := none) this ⟨rfl, rfl, rfl, by simp, fun k hk _ => heap_grow_old _ _ hk⟩ (fun _ _ h => by cases h)
end Go.Proofs.Ytgkoaambdejkdaa
