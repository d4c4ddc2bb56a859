/-
  Texts joined: Hand Hand2 HandOpen HandLaw Contains Law LawElems LawSlots HandLive GapDefs Pin StoreFrom StoreCheck JoinLaw.
-/
import Derived.Test.YtgkoaambdejkdaaRows
import Derived.ProofKit
import Derived.Deep.Slices
import Derived.Lib.SmallJoins
import Derived.BigQuiet
import Derived.Deep.CutRange
import Derived.Test.YtgkoaambdejkdaaG0
import Derived.Test.YtgkoaambdejkdaaG1
import Derived.Test.YtgkoaambdejkdaaG2
import Derived.Test.YtgkoaambdejkdaaG3
namespace Go.Proofs.Ytgkoaambdejkdaa
open Go.RowKit
structure Slot where
  gen : Int
  opn : Bool
  loc : Int
deriving DecidableEq
def slotC (s : Slot) : List Value := [.int .i64 s.gen, .bool s.opn, .int .i64 s.loc]
def slotsC (l : List Slot) : List Value := l.flatMap slotC
theorem slotsC_length (l : List Slot) : (slotsC l).length = l.length * 3 := by
  induction l with
  | nil => rfl
  | cons a l ih => simp only [slotsC, List.flatMap_cons, List.length_append, List.length_cons] at ih ⊢; rw [ih]; simp [slotC]; omega
theorem slotsC_at (l : List Slot) (j i : Nat) (hj : j < l.length) (hi : i < 3) : (slotsC l)[j * 3 + i]? = (slotC l[j])[i]? := by
  induction l generalizing j with
  | nil => simp at hj
  | cons a l ih =>
    simp only [slotsC, List.flatMap_cons] at ih ⊢
    cases j with
    | zero => rw [List.getElem?_append_left (by simp [slotC]; omega)]; simp
    | succ j =>
      rw [List.getElem?_append_right (by simp [slotC]; omega)]
      have : (j + 1) * 3 + i - (slotC a).length = j * 3 + i := by simp [slotC]; omega
      rw [this]
      exact ih j (by simpa using hj)
theorem Reads.slot {w : World} {B : Nat} {A : Option Addr} {n j : Nat} {l : List Slot} (h : Reads w B 3 A n (slotsC l)) (hj : j < n) :
    ∃ ad s, A = some ad ∧ ad.block < B ∧ l[j]? = some s ∧ w.cell? (ad.add (j * 3)) = some (.int .i64 s.gen) ∧ w.cell? ⟨(ad.add (j * 3)).block, (ad.add (j * 3)).off + 1, none⟩ = some (.bool s.opn) ∧ w.cell? ⟨(ad.add (j * 3)).block, (ad.add (j * 3)).off + 2, none⟩ = some (.int .i64 s.loc) := by
  have hl : j < l.length := by have := h.1; rw [slotsC_length] at this; omega
  obtain ⟨ad, e, hb, hc⟩ := h.2 (by omega)
  refine ⟨ad, l[j], e, hb, List.getElem?_eq_getElem hl, ?_, ?_, ?_⟩
  · have := hc (j * 3 + 0) (.int .i64 l[j].gen) (by rw [slotsC_at l j 0 hl (by omega)]; rfl)
    exact this
  · have := hc (j * 3 + 1) _ (by rw [slotsC_at l j 1 hl (by omega)]; rfl)
    rw [← add_of_add] at this
    exact this
  · have := hc (j * 3 + 2) _ (by rw [slotsC_at l j 2 hl (by omega)]; rfl)
    rw [← add_of_add] at this
    exact this
def slotE (s : Slot) : Int :=
  if s.gen < 0 ∨ 65535 < s.gen ∨ s.loc < 0 ∨ 256 ≤ s.loc then 4
  else if (s.opn = true ∧ s.gen = 0) ∨ (s.opn = false ∧ s.loc ≠ 0) then 3 else 0
def slotsE : List Slot → Int
  | [] => 0
  | s :: r => if slotE s ≠ 0 then slotE s else slotsE r
def handE (l : List Slot) : Int := if 16 < l.length then 2 else slotsE l
theorem handE_small (l : List Slot) (n : Nat) (h : l.length = n) (hn : n ≤ 16) : handE l = slotsE l := by unfold handE; rw [if_neg (by omega)]
theorem slotE_ok {s : Slot} : slotE s = 0 ↔ (0 ≤ s.gen ∧ s.gen ≤ 65535 ∧ 0 ≤ s.loc ∧ s.loc < 256 ∧ (s.opn = true → s.gen ≠ 0) ∧ (s.opn = false → s.loc = 0)) := by
  unfold slotE
  constructor
  · intro h
    split at h
    · cases h
    · split at h
      · cases h
      · rename_i a b
        exact ⟨by omega, by omega, by omega, by omega, fun ho hg => b (.inl ⟨ho, hg⟩), fun ho => Classical.byContradiction fun hl => b (.inr ⟨ho, hl⟩)⟩
  · rintro ⟨h1, h2, h3, h4, h5, h6⟩
    rw [if_neg (by omega), if_neg]
    rintro (⟨ho, hg⟩ | ⟨ho, hl⟩)
    · exact h5 ho hg
    · exact hl (h6 ho)
theorem slotsE_ok {l : List Slot} : slotsE l = 0 ↔ ∀ s ∈ l, slotE s = 0 := by
  induction l with
  | nil => simp [slotsE]
  | cons a l ih =>
    unfold slotsE
    split
    · rename_i h
      constructor
      · intro h2; exact absurd h2 h
      · intro h2; exact absurd (h2 a (by simp)) h
    · rename_i h
      rw [ih]
      constructor
      · intro h2 s hs
        rcases List.mem_cons.1 hs with rfl | hs
        · simpa using h
        · exact h2 s hs
      · intro h2 s hs; exact h2 s (List.mem_cons_of_mem _ hs)
theorem handE_ok {l : List Slot} : handE l = 0 ↔ l.length ≤ 16 ∧ ∀ s ∈ l, slotE s = 0 := by
  unfold handE
  split
  · constructor
    · intro h; cases h
    · rintro ⟨h, _⟩; omega
  · rw [slotsE_ok]
    constructor
    · intro h; exact ⟨by omega, h⟩
    · intro h; exact h.2
theorem slotE_cases (s : Slot) : slotE s = 0 ∨ slotE s = 3 ∨ slotE s = 4 := by
  unfold slotE
  split
  · simp
  · split <;> simp
def nameOf (i gen : Int) : Int := i + gen * 65536
def Found (l : List Slot) (n : Int) (i : Nat) (s : Slot) : Prop := n % 65536 = (i : Int) ∧ l[i]? = some s ∧ s.opn = true ∧ (i : Int) + s.gen * 65536 = n
end Go.Proofs.Ytgkoaambdejkdaa

namespace Go.Proofs.Ytgkoaambdejkdaa
open Go.RowKit
theorem slotsC_one (l : List Slot) : ∀ u ∈ slotsC l, u.oneCell' = true := by
  intro u hu
  obtain ⟨s, _, hs⟩ := List.mem_flatMap.1 hu
  simp only [slotC, List.mem_cons, List.not_mem_nil, or_false] at hs
  rcases hs with rfl | rfl | rfl <;> rfl
theorem slotsC_set (l : List Slot) (i : Nat) (s : Slot) : (((slotsC l).set (i * 3) (.int .i64 s.gen)).set (i * 3 + 1) (.bool s.opn)).set (i * 3 + 2) (.int .i64 s.loc) = slotsC (l.set i s) := by
  induction l generalizing i with
  | nil => simp [slotsC]
  | cons a l ih =>
    cases i with
    | zero => simp [slotsC, slotC]
    | succ i =>
      have e : (i + 1) * 3 = i * 3 + 1 + 1 + 1 := by omega
      have := ih i
      simp only [slotsC, slotC, List.flatMap_cons, List.cons_append, List.nil_append, e, List.set_cons_succ] at this ⊢
      rw [← this]
def slotFree (s : Slot) : Bool := !s.opn && decide (s.gen < 65535)
def freeIx (l : List Slot) : Int := match l.findIdx? slotFree with | some i => (i : Int) | none => -1
theorem freeIx_some (l : List Slot) (i : Nat) (s : Slot) (h : l[i]? = some s) (hs : slotFree s = true) (hb : ∀ x ∈ l.take i, slotFree x = false) : freeIx l = i := by
  unfold freeIx
  have : l.findIdx? slotFree = some i := by
    obtain ⟨hl, rfl⟩ := List.getElem?_eq_some_iff.1 h
    rw [List.findIdx?_eq_some_iff_getElem]
    refine ⟨hl, hs, fun j hj => ?_⟩
    have := hb l[j] (by rw [List.mem_take_iff_getElem]; exact ⟨j, by omega, rfl⟩)
    rw [this]
    simp
  rw [this]
theorem freeIx_none (l : List Slot) (hb : ∀ x ∈ l, slotFree x = false) : freeIx l = -1 := by
  unfold freeIx
  have : l.findIdx? slotFree = none := by
    rw [List.findIdx?_eq_none_iff]
    exact hb
  rw [this]
theorem freeIx_cases (l : List Slot) : (freeIx l = -1 ∧ ∀ x ∈ l, slotFree x = false) ∨ ∃ (i : Nat) (s : Slot), freeIx l = i ∧ l[i]? = some s ∧ slotFree s = true := by
  unfold freeIx
  cases h : l.findIdx? slotFree with
  | none => exact .inl ⟨rfl, List.findIdx?_eq_none_iff.1 h⟩
  | some i =>
    obtain ⟨hl, hs, _⟩ := List.findIdx?_eq_some_iff_getElem.1 h
    exact .inr ⟨i, l[i], rfl, List.getElem?_eq_getElem hl, hs⟩
theorem own_slot {w : World} {base g n c j : Nat} {e : TypeId} {l : List Slot} {s : Slot} (h : w.ownsRow base e 3 (.slice (some ⟨g, 0, none⟩) n c) n (slotsC l)) (hs : l[j]? = some s) :
    w.cell? ⟨g, j * 3, none⟩ = some (.int .i64 s.gen) ∧ w.cell? ⟨g, j * 3 + 1, none⟩ = some (.bool s.opn) ∧ w.cell? ⟨g, j * 3 + 2, none⟩ = some (.int .i64 s.loc) := by
  obtain ⟨hl, rfl⟩ := List.getElem?_eq_some_iff.1 hs
  have hn : l.length = n := by have := h.1; rw [slotsC_length] at this; omega
  refine ⟨?_, ?_, ?_⟩
  · rw [h.cellAt (j * 3) (by omega)]
    exact slotsC_at l j 0 hl (by omega)
  · rw [h.cellAt (j * 3 + 1) (by omega)]
    exact slotsC_at l j 1 hl (by omega)
  · rw [h.cellAt (j * 3 + 2) (by omega)]
    exact slotsC_at l j 2 hl (by omega)
theorem own_setSlot {w : World} {base g n c : Nat} {e : TypeId} {l : List Slot} (j : Nat) (s : Slot) (h : w.ownsRow base e 3 (.slice (some ⟨g, 0, none⟩) n c) n (slotsC l)) :
    (((w.setCell ⟨g, j * 3, none⟩ (.int .i64 s.gen)).setCell ⟨g, j * 3 + 1, none⟩ (.bool s.opn)).setCell ⟨g, j * 3 + 2, none⟩ (.int .i64 s.loc)).ownsRow base e 3 (.slice (some ⟨g, 0, none⟩) n c) n (slotsC (l.set j s)) := by
  rw [← slotsC_set]
  exact (((h.stored (j * 3) (.int .i64 s.gen)).1.stored (j * 3 + 1) (.bool s.opn)).1.stored (j * 3 + 2) (.int .i64 s.loc)).1
theorem below_set3 {B : Nat} {w w' : World} (h : Below B w w') {g : Nat} (hg : B ≤ g) (a b c : Nat) (x y z : Value) : Below B w (((w'.setCell ⟨g, a, none⟩ x).setCell ⟨g, b, none⟩ y).setCell ⟨g, c, none⟩ z) :=
  ((h.setCell (p := ⟨g, a, none⟩) hg x).setCell (p := ⟨g, b, none⟩) hg y).setCell (p := ⟨g, c, none⟩) hg z
end Go.Proofs.Ytgkoaambdejkdaa

namespace Go.Proofs.Ytgkoaambdejkdaa
open Go.RowKit
theorem results_tmp4 {fn : Func} {t u v x : Tmp} (h : fn.results = #[.tmp t, .tmp u, .tmp v, .tmp x]) (tmps : Array Value) (P : Program) (w : World) :
    (results fn tmps).run P w = .ok (.tuple #[tmps.getD t undef, tmps.getD u undef, tmps.getD v undef, tmps.getD x undef]) w := by simp [results, h]
def openE (l : List Slot) (loc : Int) : Int := if handE l ≠ 0 then handE l else if loc < 0 ∨ 256 ≤ loc then 4 else if freeIx l = -1 then 7 else 0
theorem openE_ok {l : List Slot} {loc : Int} (h : openE l loc = 0) : handE l = 0 ∧ 0 ≤ loc ∧ loc < 256 ∧ ∃ (i : Nat) (s : Slot), freeIx l = i ∧ l[i]? = some s ∧ slotFree s = true := by
  unfold openE at h
  split at h
  · rename_i a; exact absurd h a
  · rename_i a
    split at h
    · cases h
    · rename_i b
      split at h
      · cases h
      · rename_i c
        refine ⟨by simpa using a, by omega, by omega, ?_⟩
        rcases freeIx_cases l with ⟨h1, _⟩ | h1
        · exact absurd h1 c
        · exact h1
end Go.Proofs.Ytgkoaambdejkdaa

namespace Go.Proofs.Ytgkoaambdejkdaa
open Go.RowKit
def findS (l : List Slot) (v : Int) : Option Slot :=
  match l[(v % 65536).toNat]? with
  | some s => if s.opn = true ∧ v % 65536 + s.gen * 65536 = v then some s else none
  | none => none
theorem findS_some {l : List Slot} {v : Int} {s : Slot} : findS l v = some s ↔ Found l v (v % 65536).toNat s := by
  unfold findS Found
  have e : ((v % 65536).toNat : Int) = v % 65536 := by omega
  rw [e]
  cases h : l[(v % 65536).toNat]? with
  | none => simp
  | some t =>
    dsimp only
    split
    · rename_i hc
      constructor
      · intro hh; cases hh; exact ⟨rfl, rfl, hc.1, hc.2⟩
      · rintro ⟨_, h2, _, _⟩; exact h2
    · rename_i hc
      constructor
      · intro hh; cases hh
      · rintro ⟨_, h2, h3, h4⟩
        cases h2
        exact absurd ⟨h3, h4⟩ hc
theorem found_findS {l : List Slot} {v : Int} {i : Nat} {s : Slot} (h : Found l v i s) : findS l v = some s := by
  rw [findS_some]
  have : (v % 65536).toNat = i := by have := h.1; omega
  rw [this]
  exact h
def lookV (l : List Slot) (v : Int) : Int := if handE l ≠ 0 then 0 else match findS l v with | some s => s.loc | none => 0
def lookE (l : List Slot) (v : Int) : Int := if handE l ≠ 0 then handE l else match findS l v with | some _ => 0 | none => 9
theorem handE_set {l : List Slot} {i : Nat} {s : Slot} (h : handE l = 0) (hs : slotE s = 0) : handE (l.set i s) = 0 := by
  rw [handE_ok] at h ⊢
  refine ⟨by simpa using h.1, fun x hx => ?_⟩
  rcases List.mem_or_eq_of_mem_set hx with h2 | rfl
  · exact h.2 x h2
  · exact hs
theorem slotE_of {l : List Slot} {i : Nat} {s : Slot} (h : handE l = 0) (hs : l[i]? = some s) : slotE s = 0 := (handE_ok.1 h).2 s (List.mem_of_getElem? hs)
theorem found_opened {l : List Slot} {i : Nat} {s : Slot} {loc : Int} (hl : l.length ≤ 16) (hs : l[i]? = some s) : Found (l.set i ⟨s.gen + 1, true, loc⟩) (i + (s.gen + 1) * 65536) i ⟨s.gen + 1, true, loc⟩ := by
  have hi := (List.getElem?_eq_some_iff.1 hs).1
  exact ⟨by omega, by simp [hi], rfl, rfl⟩
theorem found_kept {l : List Slot} {i j : Nat} {s t u : Slot} {v : Int} (hs : l[i]? = some s) (hc : s.opn = false) (hf : Found l v j t) : Found (l.set i u) v j t := by
  obtain ⟨h1, h2, h3, h4⟩ := hf
  have hne : i ≠ j := by
    rintro rfl
    rw [hs] at h2
    cases h2
    rw [hc] at h3
    cases h3
  exact ⟨h1, by rw [List.getElem?_set_ne hne]; exact h2, h3, h4⟩
theorem notfound_closed {l : List Slot} {i : Nat} {u : Slot} {v : Int} (hi : v % 65536 = (i : Int)) (hc : u.opn = false) : findS (l.set i u) v = none := by
  cases h : findS (l.set i u) v with
  | none => rfl
  | some s =>
    obtain ⟨_, h2, h3, _⟩ := findS_some.1 h
    have e : (v % 65536).toNat = i := by omega
    rw [e, List.getElem?_set_self'] at h2
    cases h5 : l[i]? with
    | none => rw [h5] at h2; cases h2
    | some t =>
      rw [h5] at h2
      cases h2
      exact absurd (show u.opn = true from h3) (by rw [hc]; decide)
end Go.Proofs.Ytgkoaambdejkdaa

namespace Go.Proofs.Ytgkoaambdejkdaa
open Go.RowKit
end Go.Proofs.Ytgkoaambdejkdaa

namespace Go.Proofs.Ytgkoaambdejkdaa
open Go.ChangeShapes Go.WideShapes Go.ChangeAt Go.RowKit
theorem trodAll_below {H : Type} {enc : TypeId × Value → H} {P : Program} (hl : laidOutB P = true) {W W' : World} (hb : Below W.heap.size W W') :
    ∀ {ts : List TypeId} {vs : List Value} {ds : List (DataW H)} {ps : List MemPlace}, ts.all (fun t => P.readableRec t && decide (t < P.types.size)) = true →
      (∀ x ∈ ps, x.block < W.heap.size) → DataW.TrodAll enc P W 0 (fun _ => true) true ts vs ds ps → DataW.TrodAll enc P W' 0 (fun b => decide (b < W.heap.size)) true ts vs ds ps
  | [], [], [], _, _, _, h => h
  | t :: ts, v :: vs, d :: ds, ps, hr, hlt, h => by
    obtain ⟨p, q, h1, h2, rfl⟩ := h
    simp only [List.all_cons, Bool.and_eq_true, decide_eq_true_eq] at hr
    exact ⟨p, q, Below.trod hl hr.1.1 hr.1.2 h1 hb (fun x hx => hlt x (List.mem_append_left _ hx)), trodAll_below hl hb hr.2 (fun x hx => hlt x (List.mem_append_right _ hx)) h2, rfl⟩
  | [], _ :: _, _, _, _, _, h => h.elim
  | [], [], _ :: _, _, _, _, h => h.elim
  | _ :: _, [], _, _, _, _, h => h.elim
  | _ :: _, _ :: _, [], _, _, _, h => h.elim
theorem law_post {H : Type} {enc : TypeId × Value → H} {P : Program} {f : Func} {s : ChangeSpec} {tb : TypeId} {W W' : World} {args : Array Value} {ds gs : List (DataW H)} {before : List MemPlace}
    (hl : laidOutB P = true) (hu : P.underlying tb = some .bool) (hrt : f.resultTypes = #[tb]) (hts : f.params.toList.all (fun t => P.readableRec t && decide (t < P.types.size)) = true)
    (hv : s.vars = []) (hfn : s.fn H ds = { results := [.lit (.bool true)], args := ds })
    (hW : DataW.Whole enc P f.params.toList s.vars false W args.toList ds gs before) (hb : Below W.heap.size W W') :
    s.post enc P f false true false false W args (.bool true) W' := by
  have hW' := hW
  obtain ⟨p, q, hA, hV, rfl, hz, hn⟩ := hW
  rw [hv] at hV
  obtain ⟨rfl, rfl⟩ := trodVars_none hV
  refine ⟨ds, [], _, [], p, [], hW', ?_, ?_, ?_, hb.frame _, fun h => by cases h⟩
  · rw [List.append_nil, hfn, hrt]
    exact trodAll_mk1 (shut_bool hu true)
  · rw [List.append_nil, hfn]
    exact trodAll_below hl hb hts (fun x hx => hW'.lt x (List.mem_append_left _ hx)) hA
  · rw [hv, List.append_nil, hfn]
    rfl
theorem b64 {x : Int} (h : (Lit.int .i64 x).wf = true) : -9223372036854775808 ≤ x ∧ x ≤ 9223372036854775807 := by
  simpa [Lit.wf, IntKind.min, IntKind.max, IntKind.signed, IntKind.bits] using h
theorem bu64 {x : Int} (h : (Lit.int .u64 x).wf = true) : 0 ≤ x ∧ x ≤ 18446744073709551615 := by
  simpa [Lit.wf, IntKind.min, IntKind.max, IntKind.signed, IntKind.bits] using h
theorem open_nums {H : Type} {enc : TypeId × Value → H} {P : Program} {t e : TypeId} {k : IntKind} {W : World} {r : Reach} {base : Nat} {sp : Nat → Bool} {v : Value} {d : DataW H} {ps : List MemPlace} (ht : P.underlying t = some (.slice e)) (he : P.underlying e = some (.int k)) (hc : P.cellsOf e = 1)
    (hval : Value.okWide P W r base t v) (hlt : ∀ x ∈ ps, x.block < W.heap.size) (h : DataW.Trod enc P W 0 sp true t v d ps) :
    ∃ (A : Option Addr) (n c : Nat) (xs : List Int), v = .slice A n c ∧ n ≤ c ∧ c ≤ maxLen ∧ Reads W W.heap.size 1 A n (xs.map (.int k)) ∧ (∀ x ∈ xs, (Lit.int k x).wf = true) := by
  obtain ⟨a0, len0, cap0, rfl⟩ := okWide_slice ht hval
  obtain ⟨fuel, hf⟩ := h
  rcases open_ints ht he hc hf with ⟨hcs, hx⟩ | ⟨a, len, cap, zs, hcs, hb, hlc, hm, hzl, hx, hcell, hwf⟩
  · simp [Value.cells] at hcs
    obtain ⟨rfl, rfl, rfl⟩ := hcs
    exact ⟨none, 0, 0, [], rfl, Nat.le_refl _, Nat.zero_le _, Reads.none_, fun x hx => by cases hx⟩
  · simp [Value.cells] at hcs
    obtain ⟨rfl, rfl, rfl⟩ := hcs
    simp only [Prod.mk.injEq] at hx
    obtain ⟨rfl, rfl⟩ := hx
    have hlz : len0 ≤ zs.length := by rw [hzl]; split <;> omega
    refine ⟨some a, len0, cap0, zs.take len0, rfl, hlc, hm, ⟨by simp; omega, fun hn => ⟨a, rfl, ?_, fun j u hu => ?_⟩⟩, fun x hx => hwf x (List.mem_of_mem_take hx)⟩
    · have := hlt (.cell a.block (a.off + 0)) (by
        unfold MemPlace.row
        exact List.mem_map.2 ⟨0, List.mem_range.2 (by omega), rfl⟩)
      exact this
    · have hj : j < len0 := by
        have := (List.getElem?_eq_some_iff.1 hu).1
        simp at this; omega
      rw [hcell j (by omega)]
      rw [List.getElem?_map, List.getElem?_take, if_pos hj, List.getElem?_eq_getElem (by omega)] at hu
      rw [← hu, List.getD_eq_getElem?_getD, List.getElem?_eq_getElem (by omega)]
      rfl
end Go.Proofs.Ytgkoaambdejkdaa

namespace Go.Proofs.Ytgkoaambdejkdaa
open Go.ChangeShapes Go.WideShapes Go.ChangeAt Go.RowKit Go.Joins Go.Deep
theorem open_elems2 {α : Type} [Inhabited α] (f : α → List Value) (k : Nat) (hk0 : 0 < k) (hf : ∀ a, (f a).length = k) {H : Type} {enc : TypeId × Value → H} {P : Program} {t e : TypeId} {W : World} {r : Reach} {base : Nat} {sp : Nat → Bool} {v : Value} {d : DataW H} {ps : List MemPlace}
    (ht : P.underlying t = some (.slice e)) (hc : P.cellsOf e = k) (hel : ∀ n cs y, DataW.trod enc P W 0 sp true n e cs = some y → ∃ a, cs = f a)
    (hval : Value.okWide P W r base t v) (hlt : ∀ x ∈ ps, x.block < W.heap.size) (h : DataW.Trod enc P W 0 sp true t v d ps) :
    ∃ (A : Option Addr) (n c : Nat) (l : List α), v = .slice A n c ∧ n ≤ c ∧ c ≤ maxLen ∧ Reads W W.heap.size k A n (l.flatMap f) ∧ l.length = n ∧ (n = 0 ∨ ∃ D E, d = .slice D E ∧ D.length = n) := by
  obtain ⟨a0, len0, cap0, rfl⟩ := okWide_slice ht hval
  obtain ⟨fuel, hf'⟩ := h
  rcases open_slice ht hf' with ⟨hcs, hx⟩ | ⟨a, len, cap, m, n, D, Pl, hcs, hb, hlc, hm, hmm, hx, hcell⟩
  · simp [Value.cells] at hcs
    obtain ⟨rfl, rfl, rfl⟩ := hcs
    exact ⟨none, 0, 0, [], rfl, Nat.le_refl _, Nat.zero_le _, Reads.none_, rfl, .inl rfl⟩
  · simp [Value.cells] at hcs
    obtain ⟨rfl, rfl, rfl⟩ := hcs
    simp only [Prod.mk.injEq] at hx
    obtain ⟨rfl, rfl⟩ := hx
    have hlm : len0 ≤ m := by rw [hmm]; split <;> omega
    rw [hc] at hcell hlt
    obtain ⟨V, hV⟩ := choose_lt (α := α) (p := fun i x => W.cells? 0 (a.add (i * k)) k = some (f x)) (fun i hi => by
      obtain ⟨cs', h1, h2⟩ := hcell i hi
      obtain ⟨x, rfl⟩ := hel _ _ _ h2
      exact ⟨x, h1⟩)
    refine ⟨some a, len0, cap0, (List.range len0).map V, rfl, hlc, hm, ⟨by rw [flat_length f k hf]; simp, fun hn => ⟨a, rfl, ?_, fun j u hu => ?_⟩⟩, by simp, .inr ⟨_, _, rfl, by simp⟩⟩
    · have := hlt (.cell a.block (a.off + 0)) (List.mem_append_left _ (by
        unfold MemPlace.row
        refine List.mem_map.2 ⟨0, List.mem_range.2 ?_, rfl⟩
        exact Nat.mul_pos (by omega) hk0))
      exact this
    · have hj : j < len0 * k := by
        have := (List.getElem?_eq_some_iff.1 hu).1
        rw [flat_length f k hf] at this
        simpa using this
      have hq : j / k < len0 := Nat.div_lt_of_lt_mul (by rw [Nat.mul_comm]; exact hj)
      have hr : j % k < k := Nat.mod_lt _ hk0
      have hjd : j / k * k + j % k = j := by rw [Nat.mul_comm]; exact Nat.div_add_mod j k
      rw [← hjd, flat_at f k hf _ _ _ (by simpa using hq) hr] at hu
      simp only [List.getElem_map, List.getElem_range] at hu
      have := (World.cells?_some (hV (j / k) (by omega))).2.2 (j % k) hr
      rw [add_of_add, hjd] at this
      rw [this]
      exact hu
theorem open_elems {α : Type} [Inhabited α] (f : α → List Value) (k : Nat) (hk0 : 0 < k) (hf : ∀ a, (f a).length = k) {H : Type} {enc : TypeId × Value → H} {P : Program} {t e : TypeId} {W : World} {r : Reach} {base : Nat} {sp : Nat → Bool} {v : Value} {d : DataW H} {ps : List MemPlace}
    (ht : P.underlying t = some (.slice e)) (hc : P.cellsOf e = k) (hel : ∀ n cs y, DataW.trod enc P W 0 sp true n e cs = some y → ∃ a, cs = f a)
    (hval : Value.okWide P W r base t v) (hlt : ∀ x ∈ ps, x.block < W.heap.size) (h : DataW.Trod enc P W 0 sp true t v d ps) :
    ∃ (A : Option Addr) (n c : Nat) (l : List α), v = .slice A n c ∧ n ≤ c ∧ c ≤ maxLen ∧ Reads W W.heap.size k A n (l.flatMap f) ∧ l.length = n := by
  obtain ⟨A, n, c, l, h1, h2, h3, h4, h5, _⟩ := open_elems2 f k hk0 hf ht hc hel hval hlt h
  exact ⟨A, n, c, l, h1, h2, h3, h4, h5⟩
theorem trod_struct2 {H : Type} {enc : TypeId × Value → H} {P : Program} {w : World} {base : Nat} {spare : Nat → Bool} {held : Bool} {t : TypeId} {f0 f1 : Field} {fuel : Nat} {cs : List Value} {x : DataW H × List MemPlace} (ht : P.underlying t = some (.struct #[f0, f1])) (h : DataW.trod enc P w base spare held fuel t cs = some x) :
    ∃ y0 y1 n, x = (.agg [y0.1, y1.1], y0.2 ++ y1.2) ∧ cs.length = P.cellsOf t ∧ DataW.trod enc P w base spare held n f0.type ((cs.drop f0.offset).take (P.cellsOf f0.type)) = some y0 ∧
      DataW.trod enc P w base spare held n f1.type ((cs.drop f1.offset).take (P.cellsOf f1.type)) = some y1 := by
  obtain ⟨xs, n, _, rfl, hl, hlen, hf⟩ := DataW.trod_struct ht h
  match xs, hlen with
  | [y0, y1], _ => exact ⟨y0, y1, n, by simp, hl, by simpa using hf 0 _ rfl, by simpa using hf 1 _ rfl⟩
end Go.Proofs.Ytgkoaambdejkdaa

namespace Go.Proofs.Ytgkoaambdejkdaa
open Go.ChangeShapes Go.WideShapes Go.ChangeAt Go.RowKit Go.Joins Go.Deep
instance : Inhabited Slot := ⟨⟨0, false, 0⟩⟩
theorem list3 {α : Type} {l : List α} (h : l.length = 3) : ∃ a b c, l = [a, b, c] := by
  match l, h with
  | [a, b, c], _ => exact ⟨a, b, c, rfl⟩
end Go.Proofs.Ytgkoaambdejkdaa

namespace Go.Proofs.Ytgkoaambdejkdaa
open Go.RowKit
def liveL (i : Nat) : List Slot → List Int
  | [] => []
  | s :: r => if s.opn = true then ((i : Int) + s.gen * 65536) :: liveL (i + 1) r else liveL (i + 1) r
theorem liveL_snoc (l : List Slot) (i : Nat) (s : Slot) : liveL i (l ++ [s]) = liveL i l ++ (if s.opn = true then [((i + l.length : Nat) : Int) + s.gen * 65536] else []) := by
  induction l generalizing i with
  | nil => simp [liveL]
  | cons a l ih =>
    simp only [List.cons_append, liveL, ih, List.length_cons]
    rw [show i + 1 + l.length = i + (l.length + 1) by omega]
    split <;> simp
theorem liveL_length (l : List Slot) (i : Nat) : (liveL i l).length ≤ l.length := by
  induction l generalizing i with
  | nil => simp [liveL]
  | cons a l ih =>
    simp only [liveL]
    split
    · simp only [List.length_cons]; have := ih (i + 1); omega
    · have := ih (i + 1); simp only [List.length_cons]; omega
theorem liveL_mem {l : List Slot} {i : Nat} {v : Int} (h : v ∈ liveL i l) : ∃ (j : Nat) (s : Slot), l[j]? = some s ∧ s.opn = true ∧ v = ((i + j : Nat) : Int) + s.gen * 65536 := by
  induction l generalizing i with
  | nil => simp [liveL] at h
  | cons a l ih =>
    simp only [liveL] at h
    split at h
    · rename_i ho
      rcases List.mem_cons.1 h with rfl | h
      · exact ⟨0, a, rfl, ho, by simp⟩
      · obtain ⟨j, s, h1, h2, h3⟩ := ih h
        exact ⟨j + 1, s, h1, h2, by rw [h3]; omega⟩
    · obtain ⟨j, s, h1, h2, h3⟩ := ih h
      exact ⟨j + 1, s, h1, h2, by rw [h3]; omega⟩
theorem liveL_order {l : List Slot} {i : Nat} (hi : i + l.length ≤ 65536) : (liveL i l).Pairwise (fun a b => a % 65536 < b % 65536) := by
  induction l generalizing i with
  | nil => simp [liveL]
  | cons a l ih =>
    simp only [List.length_cons] at hi
    simp only [liveL]
    split
    · refine List.pairwise_cons.2 ⟨fun b hb => ?_, ih (by omega)⟩
      obtain ⟨j, s, h1, h2, rfl⟩ := liveL_mem hb
      have := (List.getElem?_eq_some_iff.1 h1).1
      omega
    · exact ih (by omega)
theorem live_found {l : List Slot} {v : Int} (hl : l.length ≤ 65536) (h : v ∈ liveL 0 l) : ∃ s, findS l v = some s := by
  obtain ⟨j, s, h1, h2, h3⟩ := liveL_mem h
  have := (List.getElem?_eq_some_iff.1 h1).1
  refine ⟨s, found_findS (i := j) ⟨by rw [h3]; omega, h1, h2, by rw [h3]; omega⟩⟩
theorem live_new {l : List Slot} (hl : l.length ≤ 65536) {k : Nat} {v : Int} (h : (liveL 0 l)[k]? = some v) : v ∉ (liveL 0 l).take k := by
  intro hm
  obtain ⟨hk, rfl⟩ := List.getElem?_eq_some_iff.1 h
  rw [List.mem_take_iff_getElem] at hm
  obtain ⟨j, hj, he⟩ := hm
  have := List.pairwise_iff_getElem.1 (liveL_order (l := l) (i := 0) (by omega)) j k (by omega) hk (by omega)
  rw [he] at this
  omega
theorem info_u64' : (Try.prog.info? 43).map (fun i => (i.zero, i.size, i.bytes)) = some (some (.int .u64 0), 1, 8) := by kernel_rfl
theorem Reads.part {w : World} {B n k : Nat} {A : Option Addr} {xs : List Value} (h : Reads w B 1 A n xs) (hk : k ≤ n) : Reads w B 1 A k (xs.take k) := by
  refine ⟨by rw [List.length_take, h.1]; omega, fun hk0 => ?_⟩
  obtain ⟨ad, e, hb, hc⟩ := h.2 (by omega)
  refine ⟨ad, e, hb, fun j u hu => hc j u ?_⟩
  rw [List.getElem?_take] at hu
  split at hu
  · exact hu
  · cases hu
namespace HandLive
open Go.ChangeShapes Go.WideShapes Go.ChangeAt Go.RowKit
theorem own : ownKnob Try.prog.godebug = none := by kernel_rfl
theorem laidOut : laidOutB Try.prog = true := by kernel_rfl
end HandLive
end Go.Proofs.Ytgkoaambdejkdaa

namespace Go.Proofs.Ytgkoaambdejkdaa
open Go.RowKit
structure Rn where
  loc : Int
  len : Int
deriving DecidableEq
def runC (r : Rn) : List Value := [.int .i64 r.loc, .int .i64 r.len]
def runsC (l : List Rn) : List Value := l.flatMap runC
theorem runsC_length (l : List Rn) : (runsC l).length = l.length * 2 := flat_length runC 2 (fun _ => rfl) l
theorem runsC_one (l : List Rn) : ∀ u ∈ runsC l, u.oneCell' = true := by
  intro u hu
  obtain ⟨s, _, hs⟩ := List.mem_flatMap.1 hu
  simp only [runC, List.mem_cons, List.not_mem_nil, or_false] at hs
  rcases hs with rfl | rfl <;> rfl
theorem runsC_snoc (l : List Rn) (s : Rn) : runsC (l ++ [s]) = runsC l ++ runC s := by simp [runsC]
theorem Reads.run {w : World} {B : Nat} {A : Option Addr} {n j : Nat} {l : List Rn} (h : Reads w B 2 A n (runsC l)) (hj : j < n) :
    ∃ ad s, A = some ad ∧ ad.block < B ∧ l[j]? = some s ∧ w.cell? (ad.add (j * 2)) = some (.int .i64 s.loc) ∧
      w.cell? ⟨(ad.add (j * 2)).block, (ad.add (j * 2)).off + 1, none⟩ = some (.int .i64 s.len) := by
  obtain ⟨ad, s, e, hb, hs, c0, cs⟩ := Reads.elem (f := runC) (k := 2) (fun _ => rfl) h (by decide) hj
  exact ⟨ad, s, e, hb, hs, c0, cs 1 (by decide) (by decide)⟩
def badRun (r : Rn) : Bool := decide (r.loc < 0) || decide (r.len < 1)
def fitIx (n : Int) : Nat → List Rn → List Int
  | _, [] => []
  | i, r :: l => if n ≤ r.len then (i : Int) :: fitIx n (i + 1) l else fitIx n (i + 1) l
def fitsE (l : List Rn) (n : Int) : Int := if n < 1 then 1 else if l.any badRun = true then 4 else if fitIx n 0 l = [] then 7 else 0
theorem fitIx_snoc (n : Int) (l : List Rn) (r : Rn) (i : Nat) : fitIx n i (l ++ [r]) = fitIx n i l ++ (if n ≤ r.len then [((i + l.length : Nat) : Int)] else []) := by
  induction l generalizing i with
  | nil => simp only [List.nil_append, fitIx, List.length_nil, Nat.add_zero]
  | cons a l ih =>
    simp only [List.cons_append, fitIx, ih, List.length_cons]
    rw [show i + 1 + l.length = i + (l.length + 1) by omega]
    split <;> simp
theorem fitIx_length (n : Int) (l : List Rn) (i : Nat) : (fitIx n i l).length ≤ l.length := by
  induction l generalizing i with
  | nil => simp [fitIx]
  | cons a l ih =>
    simp only [fitIx]
    have := ih (i + 1)
    split <;> simp only [List.length_cons] <;> omega
theorem fitIx_mem {n : Int} {l : List Rn} {i : Nat} {x : Int} : x ∈ fitIx n i l ↔ ∃ (j : Nat) (r : Rn), l[j]? = some r ∧ n ≤ r.len ∧ x = ((i + j : Nat) : Int) := by
  induction l generalizing i with
  | nil => simp [fitIx]
  | cons a l ih =>
    simp only [fitIx]
    constructor
    · intro h
      split at h
      · rename_i ha
        rcases List.mem_cons.1 h with rfl | h
        · exact ⟨0, a, rfl, ha, rfl⟩
        · obtain ⟨j, r, h1, h2, h3⟩ := ih.1 h
          exact ⟨j + 1, r, h1, h2, by rw [h3]; omega⟩
      · obtain ⟨j, r, h1, h2, h3⟩ := ih.1 h
        exact ⟨j + 1, r, h1, h2, by rw [h3]; omega⟩
    · rintro ⟨j, r, h1, h2, rfl⟩
      cases j with
      | zero =>
        obtain rfl : a = r := by simpa using h1
        rw [if_pos h2]
        exact List.mem_cons_self
      | succ j =>
        have hm : ((i + (j + 1) : Nat) : Int) ∈ fitIx n (i + 1) l := ih.2 ⟨j, r, by simpa using h1, h2, by omega⟩
        split
        · exact List.mem_cons_of_mem _ hm
        · exact hm
theorem fitIx_rise (n : Int) (l : List Rn) (i : Nat) : (fitIx n i l).Pairwise (· < ·) := by
  induction l generalizing i with
  | nil => simp [fitIx]
  | cons a l ih =>
    simp only [fitIx]
    split
    · refine List.pairwise_cons.2 ⟨fun x hx => ?_, ih (i + 1)⟩
      obtain ⟨j, r, _, _, rfl⟩ := fitIx_mem.1 hx
      omega
    · exact ih (i + 1)
theorem fitsE_ok {l : List Rn} {n : Int} : fitsE l n = 0 ↔ 1 ≤ n ∧ l.any badRun = false ∧ fitIx n 0 l ≠ [] := by
  unfold fitsE
  split
  · constructor
    · intro h; cases h
    · omega
  · split
    · rename_i h; constructor
      · intro h; cases h
      · rintro ⟨_, h2, _⟩; rw [h] at h2; cases h2
    · rename_i h
      split
      · rename_i h3; constructor
        · intro h; cases h
        · rintro ⟨_, _, h4⟩; exact absurd h3 h4
      · rename_i h3; exact ⟨fun _ => ⟨by omega, by simpa using h, h3⟩, fun _ => rfl⟩
def bump (acc : List Rn) (n : Int) : List Rn := acc.dropLast ++ (match acc.getLast? with | some r => [⟨r.loc, r.len + n⟩] | none => [])
def gapsA (acc : List Rn) (prev : Bool) : List Spot → List Rn
  | [] => acc
  | s :: l => if s.f = false then gapsA acc false l else if prev = true then gapsA (bump acc s.long) true l else gapsA (acc ++ [⟨s.loc, s.long⟩]) true l
def gapsL (l : List Spot) : List Rn := gapsA [] false l
theorem bump_snoc (acc : List Rn) (r : Rn) (n : Int) : bump (acc ++ [r]) n = acc ++ [⟨r.loc, r.len + n⟩] := by simp [bump]
theorem bump_length {acc : List Rn} (n : Int) : (bump acc n).length = acc.length := by
  rcases List.eq_nil_or_concat acc with rfl | ⟨l, r, rfl⟩
  · rfl
  · rw [List.concat_eq_append, bump_snoc]; simp
theorem gapsA_length (acc : List Rn) (prev : Bool) (l : List Spot) : (gapsA acc prev l).length ≤ acc.length + l.length := by
  induction l generalizing acc prev with
  | nil => simp [gapsA]
  | cons s l ih =>
    simp only [gapsA, List.length_cons]
    split
    · have := ih acc false; omega
    · split
      · have := ih (bump acc s.long) true; rw [bump_length] at this; omega
      · have := ih (acc ++ [⟨s.loc, s.long⟩]) true; simp only [List.length_append, List.length_cons, List.length_nil] at this; omega
theorem runsC_bump (acc : List Rn) (l n x : Int) : (runsC (acc ++ [⟨l, n⟩])).set (acc.length * 2 + 1) (.int .i64 x) = runsC (acc ++ [⟨l, x⟩]) := by
  rw [runsC_snoc, runsC_snoc, List.set_append_right _ _ (by rw [runsC_length]; omega), runsC_length, show acc.length * 2 + 1 - acc.length * 2 = 1 by omega]
  rfl
theorem runsC_last (acc : List Rn) (l n : Int) : (runsC (acc ++ [⟨l, n⟩]))[acc.length * 2 + 1]? = some (.int .i64 n) := by
  rw [runsC_snoc, List.getElem?_append_right (by rw [runsC_length]; omega), runsC_length, show acc.length * 2 + 1 - acc.length * 2 = 1 by omega]
  rfl
end Go.Proofs.Ytgkoaambdejkdaa

namespace Go.Proofs.Ytgkoaambdejkdaa
open Go.RowKit
def pinBad (x : Rn) : Bool := !(decide (0 ≤ x.loc) && decide (x.loc < 256)) || decide (x.len < 1) || decide (1000000 < x.len)
def pinGo : Option Int → List Rn → Int
  | _, [] => 0
  | pv, x :: t => if pinBad x = true then 4 else if pv.any (fun p => decide (x.loc ≤ p)) = true then 3 else pinGo (some x.loc) t
def pinE (l : List Rn) : Int := if 16 < l.length then 2 else pinGo none l
structure PinsOk (l : List Rn) : Prop where
  len : l.length ≤ 16
  ok : ∀ x ∈ l, pinBad x = false
  rise : l.Pairwise (fun x y => x.loc < y.loc)
theorem pinGo_ok : ∀ (pv : Option Int) (l : List Rn), pinGo pv l = 0 ↔ (∀ x ∈ l, pinBad x = false) ∧ l.Pairwise (fun x y => x.loc < y.loc) ∧ ∀ p, pv = some p → ∀ x ∈ l, p < x.loc
  | pv, [] => by simp [pinGo]
  | pv, x :: t => by
    have ih := pinGo_ok (some x.loc) t
    unfold pinGo
    by_cases h1 : pinBad x = true
    · rw [if_pos h1]
      simp only [List.mem_cons, forall_eq_or_imp, h1]
      simp
    · rw [if_neg h1]
      have h1' : pinBad x = false := by simpa using h1
      by_cases h2 : pv.any (fun p => decide (x.loc ≤ p)) = true
      · rw [if_pos h2]
        refine ⟨fun h => (by cases h), fun ⟨_, _, h⟩ => ?_⟩
        cases pv with
        | none => simp at h2
        | some p =>
          have := h p rfl x List.mem_cons_self
          simp only [Option.any_some, decide_eq_true_eq] at h2
          omega
      · rw [if_neg h2, ih]
        constructor
        · rintro ⟨a1, a2, a3⟩
          refine ⟨fun y hy => ?_, List.pairwise_cons.2 ⟨fun y hy => a3 _ rfl y hy, a2⟩, fun p hp y hy => ?_⟩
          · rcases List.mem_cons.1 hy with rfl | hy
            · exact h1'
            · exact a1 y hy
          · subst hp
            simp only [Option.any_some, decide_eq_true_eq] at h2
            rcases List.mem_cons.1 hy with rfl | hy
            · omega
            · have := a3 _ rfl y hy; omega
        · rintro ⟨a1, a2, a3⟩
          exact ⟨fun y hy => a1 y (List.mem_cons_of_mem _ hy), (List.pairwise_cons.1 a2).2, fun p hp y hy => by injection hp with hp; subst hp; exact (List.pairwise_cons.1 a2).1 y hy⟩
theorem pinE_ok {l : List Rn} : pinE l = 0 ↔ PinsOk l := by
  unfold pinE
  by_cases h : 16 < l.length
  · rw [if_pos h]
    exact ⟨fun h => (by cases h), fun hk => by have := hk.len; omega⟩
  · rw [if_neg h, pinGo_ok]
    exact ⟨fun ⟨a, b, _⟩ => ⟨by omega, a, b⟩, fun ⟨_, a, b⟩ => ⟨a, b, by simp⟩⟩
def thereB (x : Int) : Bool := decide (0 ≤ x) && decide (x < 256)
end Go.Proofs.Ytgkoaambdejkdaa

namespace Go.Proofs.Ytgkoaambdejkdaa
open Go.RowKit
def pinsL (p : List Rn) : List Int := p.map (·.loc)
theorem Blk.four {w : World} {g : Nat} {t : TypeId} {a b c d : Value} (h : Blk w g t #[a, b, c, d]) :
    w.cell? ⟨g, 0, none⟩ = some a ∧ w.cell? ⟨g, 1, none⟩ = some b ∧ w.cell? ⟨g, 2, none⟩ = some c ∧ w.cell? ⟨g, 3, none⟩ = some d := ⟨h.cell 0, h.cell 1, h.cell 2, h.cell 3⟩
def openL (l : List Slot) : List Int := (l.filter (·.opn)).map (·.loc)
theorem openL_snoc (l : List Slot) (s : Slot) : openL (l ++ [s]) = openL l ++ (if s.opn = true then [s.loc] else []) := by
  unfold openL
  rw [List.filter_append, List.map_append]
  obtain ⟨g, o, x⟩ := s
  cases o <;> simp
def fromL (r : List Int) (l : List Slot) (p : List Rn) : List Int := Lib.compact (sortL ((namedL r ++ openL l) ++ pinsL p))
end Go.Proofs.Ytgkoaambdejkdaa

namespace Go.Proofs.Ytgkoaambdejkdaa
open Go.RowKit
theorem fromL_length (r : List Int) (l : List Slot) (p : List Rn) : (fromL r l p).length ≤ r.length + l.length + p.length := by
  unfold fromL
  have h1 := (compact_sublist (sortL ((namedL r ++ openL l) ++ pinsL p))).length_le
  rw [sortL_length, List.length_append, List.length_append] at h1
  have h2 := namedL_length r
  have h3 : (openL l).length ≤ l.length := by unfold openL; rw [List.length_map]; exact List.length_filter_le _ _
  have h4 : (pinsL p).length = p.length := by unfold pinsL; rw [List.length_map]
  omega
def firstE (es : List Int) : Int := (es.find? (· ≠ 0)).getD 0
theorem firstE_eq (a b c d : Int) : firstE [a, b, c, d] = if a ≠ 0 then a else if b ≠ 0 then b else if c ≠ 0 then c else d := by
  unfold firstE
  by_cases h1 : a = 0 <;> by_cases h2 : b = 0 <;> by_cases h3 : c = 0 <;> by_cases h4 : d = 0 <;> simp [h1, h2, h3, h4, List.find?]
theorem at_cases {a : List Int} (h : checkE a = 0) (x : Int) : (atIx a x < 0 ∧ x ∉ begsL (spotsL a)) ∨ ∃ (i : Nat) (s : Spot), atIx a x = i ∧ (spotsL a)[i]? = some s ∧ (x ∈ begsL (spotsL a) ↔ s.f = false) := by
  have hr := spots_rise (checkE_ok.1 h).1
  unfold atIx begsL
  rcases ixOf_cases (fun s : Spot => s.loc == x) (spotsL a) with ⟨h1, h2⟩ | ⟨i, s, h1, h2, h3, _⟩
  · refine .inl ⟨by omega, fun h4 => ?_⟩
    obtain ⟨s, hs, rfl⟩ := List.mem_map.1 h4
    have := h2 s (List.mem_filter.1 hs).1
    simp at this
  · refine .inr ⟨i, s, h1, h2, ?_⟩
    simp only [beq_iff_eq] at h3
    subst h3
    constructor
    · intro h4
      obtain ⟨y, hy, he⟩ := List.mem_map.1 h4
      obtain ⟨hy1, hy2⟩ := List.mem_filter.1 hy
      obtain ⟨j, hj, rfl⟩ := List.mem_iff_getElem.1 hy1
      obtain ⟨hi, rfl⟩ := List.getElem?_eq_some_iff.1 h2
      rcases Nat.lt_trichotomy i j with g | g | g
      · have := List.pairwise_iff_getElem.1 hr i j hi hj g; omega
      · subst g; simpa using hy2
      · have := List.pairwise_iff_getElem.1 hr j i hj hi g; omega
    · intro h4
      exact List.mem_map.2 ⟨s, List.mem_filter.2 ⟨List.mem_of_getElem? h2, by simp [h4]⟩, rfl⟩
def storeE (a r : List Int) (l : List Slot) (p : List Rn) : Int :=
  if firstE [checkE a, rootE r a.length, pinE p, handE l] ≠ 0 then firstE [checkE a, rootE r a.length, pinE p, handE l]
  else if (fromL r l p).all (fun x => decide (x ∈ begsL (spotsL a))) = true then 0 else 5
end Go.Proofs.Ytgkoaambdejkdaa

namespace Go.Proofs.Ytgkoaambdejkdaa
open Go.RowKit
def freeC (p : Nat) : Chk := ⟨0, (p : Int) - 1, 0, true, List.replicate (p - 1) 0⟩
def flushC (p : Nat) : List Chk := if p = 0 then [] else [freeC p]
def joinP : Nat → List Chk → List Chk
  | p, [] => flushC p
  | p, c :: cs => if c.f then joinP (p + c.len) cs else flushC p ++ c :: joinP 0 cs
def flushG (i p : Nat) : List Rn := if p = 0 then [] else [⟨i, p⟩]
def gapsP : Nat → Nat → List Chk → List Rn
  | i, p, [] => flushG (i - p) p
  | i, p, c :: cs => if c.f then gapsP (i + c.len) (p + c.len) cs else flushG (i - p) p ++ gapsP (i + c.len) 0 cs
theorem freeC_len {p : Nat} (h : p ≠ 0) : (freeC p).len = p := by unfold Chk.len freeC; rw [List.length_replicate]; omega
theorem freeC_f (p : Nat) : (freeC p).f = true := rfl
theorem freeC_ok {p : Nat} (h : p ≠ 0) (h2 : p ≤ 256) : (freeC p).ok := by
  refine ⟨headE_ok.2 ?_, ?_⟩
  · unfold freeC; dsimp only; refine ⟨by omega, by omega, by omega, by omega, by omega, by omega, by omega, fun _ => ⟨rfl, rfl⟩⟩
  · unfold freeC; dsimp only; rw [List.length_replicate]; omega
theorem flushC_length (p : Nat) : (chunksW (flushC p)).length = p := by
  unfold flushC
  by_cases h : p = 0
  · rw [if_pos h, h]; rfl
  · rw [if_neg h, chunksW_cons, List.length_append, chkW_length, freeC_len h]; rfl
theorem joinP_length : ∀ (cs : List Chk) (p : Nat), (chunksW (joinP p cs)).length = p + (chunksW cs).length := by
  intro cs
  induction cs with
  | nil => intro p; simp only [joinP]; rw [flushC_length]; rfl
  | cons c cs ih =>
    intro p
    simp only [joinP]
    rw [chunksW_cons, List.length_append, chkW_length]
    split
    · rw [ih]; omega
    · rw [chunksW_append, List.length_append, flushC_length, chunksW_cons, List.length_append, chkW_length, ih]; omega
theorem joinP_mem : ∀ (cs : List Chk) (p : Nat) (d : Chk), d ∈ joinP p cs → (∃ q, q ≠ 0 ∧ q ≤ p + (chunksW cs).length ∧ d = freeC q) ∨ (d ∈ cs ∧ d.f = false) := by
  intro cs
  have hfl : ∀ (p n : Nat) (d : Chk), d ∈ flushC p → ∃ q, q ≠ 0 ∧ q ≤ p + n ∧ d = freeC q := by
    intro p n d h
    unfold flushC at h
    split at h
    · cases h
    · rename_i h0; exact ⟨p, h0, by omega, List.mem_singleton.1 h⟩
  induction cs with
  | nil => intro p d h; exact .inl (hfl p _ d h)
  | cons c cs ih =>
    intro p d h
    simp only [joinP] at h
    rw [chunksW_cons, List.length_append, chkW_length]
    split at h
    · rcases ih _ d h with ⟨q, h1, h2, h3⟩ | ⟨h1, h2⟩
      · exact .inl ⟨q, h1, by omega, h3⟩
      · exact .inr ⟨List.mem_cons_of_mem _ h1, h2⟩
    · rename_i hf
      rcases List.mem_append.1 h with h | h
      · exact .inl (hfl p _ d h)
      · rcases List.mem_cons.1 h with rfl | h
        · exact .inr ⟨List.mem_cons_self, by simpa using hf⟩
        · rcases ih _ d h with ⟨q, h1, h2, h3⟩ | ⟨h1, h2⟩
          · exact .inl ⟨q, h1, by omega, h3⟩
          · exact .inr ⟨List.mem_cons_of_mem _ h1, h2⟩
theorem gapsA_chunks : ∀ (cs : List Chk) (i p : Nat) (acc : List Rn), p ≤ i → (∀ c ∈ cs, c.ok) → gapsA (acc ++ flushG (i - p) p) (decide (0 < p)) (spotsFrom i cs) = acc ++ gapsP i p cs := by
  intro cs
  induction cs with
  | nil => intro i p acc _ _; simp only [spotsFrom, gapsA, gapsP]
  | cons c cs ih =>
    intro i p acc hp hok
    have hc := hok c List.mem_cons_self
    have hok' : ∀ d ∈ cs, d.ok := fun d hd => hok d (List.mem_cons_of_mem _ hd)
    have hpos : 1 ≤ c.len := by unfold Chk.len; omega
    simp only [spotsFrom, gapsA, gapsP]
    rw [Chk.long hc]
    have hsf : (c.spot i).f = c.f := rfl
    have hsl : (c.spot i).loc = i := rfl
    rw [hsf, hsl]
    cases hf : c.f
    · rw [if_pos rfl, if_neg (by decide)]
      have := ih (i + c.len) 0 (acc ++ flushG (i - p) p) (by omega) hok'
      rw [List.append_assoc] at this
      simpa [flushG] using this
    · rw [if_neg (by decide), if_pos rfl]
      have := ih (i + c.len) (p + c.len) acc (by omega) hok'
      rw [show i + c.len - (p + c.len) = i - p by omega] at this
      rw [decide_eq_true (by omega)] at this
      rw [← this]
      by_cases h0 : p = 0
      · rw [if_neg (by simp [h0])]
        subst h0
        have e1 : flushG (i - 0) 0 = [] := rfl
        have e2 : flushG (i - 0) (0 + c.len) = [⟨i, c.len⟩] := by unfold flushG; rw [if_neg (by omega)]; simp
        rw [e1, e2, List.append_nil]
      · rw [if_pos (by simp; omega)]
        simp only [flushG]
        rw [if_neg h0, if_neg (by omega), bump_snoc]
        congr 3
theorem gapsL_chunks {cs : List Chk} (hok : ∀ c ∈ cs, c.ok) : gapsL (spotsFrom 0 cs) = gapsP 0 0 cs := by
  have := gapsA_chunks cs 0 0 [] (by omega) hok
  simpa [flushG, gapsL] using this
theorem gapsP_mem : ∀ (cs : List Chk) (i p : Nat), p ≤ i → ∀ r ∈ gapsP i p cs, ∃ a n : Nat, r = ⟨a, n⟩ ∧ 1 ≤ n ∧ i - p ≤ a ∧ a + n ≤ i + (chunksW cs).length := by
  intro cs
  have hfl : ∀ (i p m : Nat), p ≤ i → ∀ r ∈ flushG (i - p) p, ∃ a n : Nat, r = ⟨a, n⟩ ∧ 1 ≤ n ∧ i - p ≤ a ∧ a + n ≤ i + m := by
    intro i p m hp r h
    unfold flushG at h
    split at h
    · cases h
    · exact ⟨i - p, p, List.mem_singleton.1 h, by omega, by omega, by omega⟩
  induction cs with
  | nil => intro i p hp r h; exact hfl i p _ hp r h
  | cons c cs ih =>
    intro i p hp r h
    simp only [gapsP] at h
    rw [chunksW_cons, List.length_append, chkW_length]
    split at h
    · obtain ⟨a, n, h1, h2, h3, h4⟩ := ih _ _ (by omega) r h
      exact ⟨a, n, h1, h2, by omega, by omega⟩
    · rcases List.mem_append.1 h with h | h
      · exact hfl i p _ hp r h
      · obtain ⟨a, n, h1, h2, h3, h4⟩ := ih _ _ (by omega) r h
        exact ⟨a, n, h1, h2, by omega, by omega⟩
def layL (a : List Int) (i n : Nat) : List Int := if n = 0 then a else (fillL a i n 0).set i (wordOf 0 ((n : Int) - 1) 0 true)
theorem layL_length (a : List Int) (i n : Nat) (h : i + n ≤ a.length) : (layL a i n).length = a.length := by
  unfold layL
  split
  · rfl
  · rw [List.length_set, fillL_length _ _ _ _ h]
theorem layL_mid (pre X post : List Int) : layL (pre ++ X ++ post) pre.length X.length = pre ++ chunksW (flushC X.length) ++ post := by
  unfold layL flushC
  by_cases h : X.length = 0
  · rw [if_pos h, if_pos h, List.eq_nil_of_length_eq_zero h]; simp [chunksW]
  · rw [if_neg h, if_neg h]
    unfold fillL
    rw [show (pre ++ X ++ post).take pre.length = pre by rw [List.append_assoc]; simp, show (pre ++ X ++ post).drop (pre.length + X.length) = post by rw [show pre.length + X.length = (pre ++ X).length by simp, List.drop_left]]
    rw [List.append_assoc, List.set_append_right _ _ (Nat.le_refl _), Nat.sub_self]
    obtain ⟨m, hm⟩ : ∃ m, X.length = m + 1 := ⟨X.length - 1, by omega⟩
    rw [hm, List.replicate_succ, List.cons_append, List.set_cons_zero, List.append_assoc]
    simp [chunksW, chkW, freeC]
theorem layL_out {a : List Int} {i n k : Nat} (h : i + n ≤ a.length) (hk : k < i ∨ i + n ≤ k) : (layL a i n)[k]? = a[k]? := by
  unfold layL
  split
  · rfl
  · rw [List.getElem?_set_ne (by omega)]
    unfold fillL
    rcases hk with hk | hk
    · rw [List.append_assoc, List.getElem?_append_left (by rw [List.length_take]; omega), List.getElem?_take, if_pos hk]
    · rw [List.getElem?_append_right (by rw [List.length_append, List.length_take, List.length_replicate]; omega), List.length_append, List.length_take, List.length_replicate, Nat.min_eq_left (by omega), List.getElem?_drop]
      congr 1
      omega
def joinL (a : List Int) (l : List Rn) : List Int := l.foldl (fun a r => layL a r.loc.toNat r.len.toNat) a
theorem joinL_append (a : List Int) (l m : List Rn) : joinL a (l ++ m) = joinL (joinL a l) m := List.foldl_append
theorem joinL_flush (pre X post : List Int) : joinL (pre ++ X ++ post) (flushG pre.length X.length) = pre ++ chunksW (flushC X.length) ++ post := by
  rw [← layL_mid]
  unfold flushG joinL
  by_cases h : X.length = 0
  · rw [if_pos h]; unfold layL; rw [if_pos h]; rfl
  · rw [if_neg h]; simp
theorem joinL_chunks : ∀ (cs : List Chk) (pre X : List Int), joinL (pre ++ X ++ chunksW cs) (gapsP (pre.length + X.length) X.length cs) = pre ++ chunksW (joinP X.length cs) := by
  intro cs
  induction cs with
  | nil =>
    intro pre X
    simp only [gapsP, joinP]
    rw [Nat.add_sub_cancel, joinL_flush]
    simp [chunksW]
  | cons c cs ih =>
    intro pre X
    simp only [gapsP, joinP]
    cases hf : c.f
    · rw [if_neg (by decide), if_neg (by decide), joinL_append, Nat.add_sub_cancel, joinL_flush]
      have := ih (pre ++ chunksW (flushC X.length) ++ chkW c) []
      rw [List.length_append, List.length_append, flushC_length, chkW_length] at this
      simp only [List.append_nil, List.length_nil, Nat.add_zero, List.append_assoc] at this
      rw [chunksW_append, chunksW_cons, chunksW_cons, List.append_assoc]
      exact this
    · rw [if_pos rfl, if_pos rfl]
      have := ih pre (X ++ chkW c)
      rw [List.length_append, chkW_length, ← Nat.add_assoc] at this
      rw [← this, chunksW_cons]
      simp
theorem joinL_out {k : Nat} : ∀ (l : List Rn) (a : List Int), (∀ r ∈ l, ∃ i n : Nat, r = ⟨i, n⟩ ∧ i + n ≤ a.length) → (joinL a l)[k]? = a[k]? ∨ ∃ r ∈ l, r.loc ≤ (k : Int) ∧ (k : Int) - r.loc < r.len := by
  intro l
  induction l with
  | nil => intro a _; exact .inl rfl
  | cons r l ih =>
    intro a h
    obtain ⟨i, n, rfl, hin⟩ := h r List.mem_cons_self
    have hl := layL_length a i n hin
    by_cases hk : k < i ∨ i + n ≤ k
    · rcases ih (layL a i n) (fun s hs => by rw [hl]; exact h s (List.mem_cons_of_mem _ hs)) with h1 | ⟨s, hs, h2⟩
      · left
        rw [← layL_out hin hk]
        exact h1
      · exact .inr ⟨s, List.mem_cons_of_mem _ hs, h2⟩
    · exact .inr ⟨⟨i, n⟩, List.mem_cons_self, by dsimp only; omega, by dsimp only; omega⟩
theorem gapsP_join : ∀ (cs : List Chk) (i p : Nat), p ≤ i → gapsP (i - p) 0 (joinP p cs) = gapsP i p cs := by
  intro cs
  have key : ∀ (i p : Nat) (R : List Chk), p ≤ i → (R = [] ∨ ∃ c T, R = c :: T ∧ c.f = false) → gapsP (i - p) 0 (flushC p ++ R) = gapsP i p R := by
    intro i p R hp hR
    unfold flushC
    by_cases h0 : p = 0
    · rw [if_pos h0, h0]; rfl
    · rw [if_neg h0]
      simp only [List.cons_append, List.nil_append, gapsP]
      rw [if_pos (freeC_f p), freeC_len h0, show i - p + p = i by omega, Nat.zero_add]
  induction cs with
  | nil => intro i p hp; simp only [joinP]; have := key i p [] hp (.inl rfl); rwa [List.append_nil] at this
  | cons c cs ih =>
    intro i p hp
    simp only [joinP]
    cases hf : c.f
    · rw [if_neg (by decide), key i p _ hp (.inr ⟨c, _, rfl, hf⟩)]
      simp only [gapsP]
      rw [hf, if_neg (by decide), if_neg (by decide)]
      have := ih (i + c.len) 0 (by omega)
      rw [Nat.sub_zero] at this
      rw [this]
    · rw [if_pos rfl]
      simp only [gapsP]
      rw [hf, if_pos rfl, ← ih (i + c.len) (p + c.len) (by omega)]
      congr 1
      omega
theorem joinP_join : ∀ (cs : List Chk) (p : Nat), joinP 0 (joinP p cs) = joinP p cs := by
  intro cs
  induction cs with
  | nil =>
    intro p
    simp only [joinP]
    unfold flushC
    by_cases h0 : p = 0
    · rw [if_pos h0]; rfl
    · rw [if_neg h0]
      simp only [joinP]
      rw [if_pos (freeC_f p), freeC_len h0, Nat.zero_add]
      unfold flushC
      rw [if_neg h0]
  | cons c cs ih =>
    intro p
    simp only [joinP]
    cases hf : c.f
    · rw [if_neg (by decide)]
      unfold flushC
      by_cases h0 : p = 0
      · rw [if_pos h0]
        simp only [List.nil_append, joinP]
        rw [hf, if_neg (by decide), ih]
        rfl
      · rw [if_neg h0]
        simp only [List.cons_append, List.nil_append, joinP]
        rw [if_pos (freeC_f p), freeC_len h0, Nat.zero_add, hf, if_neg (by decide), ih]
        unfold flushC
        rw [if_neg h0]
        rfl
    · rw [if_pos rfl]
      exact ih _
theorem starts_join : ∀ (cs : List Chk) (i p : Nat), p ≤ i → starts (i - p) (joinP p cs) = starts i cs := by
  intro cs
  have key : ∀ (i p : Nat) (R : List Chk), p ≤ i → starts (i - p) (flushC p ++ R) = starts i R := by
    intro i p R hp
    unfold flushC
    by_cases h0 : p = 0
    · rw [if_pos h0, h0]; rfl
    · rw [if_neg h0]
      simp only [List.cons_append, List.nil_append, starts]
      rw [freeC_len h0, show i - p + p = i by omega]
      rfl
  induction cs with
  | nil => intro i p hp; simp only [joinP]; have := key i p [] hp; rwa [List.append_nil] at this
  | cons c cs ih =>
    intro i p hp
    simp only [joinP]
    cases hf : c.f
    · rw [if_neg (by decide), key i p _ hp]
      simp only [starts]
      have := ih (i + c.len) 0 (by omega)
      rw [Nat.sub_zero] at this
      rw [this]
    · rw [if_pos rfl]
      simp only [starts]
      rw [hf, if_pos rfl, List.nil_append, ← ih (i + c.len) (p + c.len) (by omega)]
      congr 1
      omega
theorem free_join : ∀ (cs : List Chk) (i p j : Nat), ((spotsFrom j (joinP p cs)).filter (·.f)).length = (gapsP i p cs).length := by
  intro cs
  have key : ∀ (i p j : Nat) (R : List Chk), ((spotsFrom j (flushC p ++ R)).filter (·.f)).length = (flushG i p).length + ((spotsFrom (j + p) R).filter (·.f)).length := by
    intro i p j R
    unfold flushC flushG
    by_cases h0 : p = 0
    · rw [if_pos h0, if_pos h0, h0]; simp
    · rw [if_neg h0, if_neg h0]
      simp only [List.cons_append, List.nil_append, spotsFrom]
      rw [freeC_len h0, List.filter_cons, if_pos (by rfl)]
      simp only [List.length_cons, List.length_nil]
      omega
  induction cs with
  | nil => intro i p j; simp only [joinP, gapsP]; have := key (i - p) p j []; rw [List.append_nil] at this; rw [this]; rfl
  | cons c cs ih =>
    intro i p j
    simp only [joinP, gapsP]
    cases hf : c.f
    · rw [if_neg (by decide), if_neg (by decide), key (i - p) p j, List.length_append]
      simp only [spotsFrom]
      rw [List.filter_cons, if_neg (by simp [Chk.spot, hf]), ih (i + c.len) 0]
    · rw [if_pos rfl, if_pos rfl]
      exact ih _ _ _
theorem joinP_ok {cs : List Chk} (hok : ∀ c ∈ cs, c.ok) (hl : (chunksW cs).length ≤ 256) : ∀ d ∈ joinP 0 cs, d.ok := by
  intro d hd
  rcases joinP_mem cs 0 d hd with ⟨q, h1, h2, rfl⟩ | ⟨h1, -⟩
  · exact freeC_ok h1 (by omega)
  · exact hok d h1
theorem refsC_join {cs : List Chk} (h : refsC cs) : refsC (joinP 0 cs) := by
  intro d hd v hv
  have hs := starts_join cs 0 0 (by omega)
  rw [Nat.sub_zero] at hs
  rw [hs]
  rcases joinP_mem cs 0 d hd with ⟨q, h1, h2, rfl⟩ | ⟨h1, -⟩
  · simp [freeC] at hv
  · exact h d h1 v hv
structure JoinOk (a b : List Int) (l : List Rn) : Prop where
  len : b.length = a.length
  check : checkE b = 0
  gaps : gapsL (spotsL b) = l
  again : joinL b l = b
  free : ((spotsL b).filter (·.f)).length = l.length
  out : ∀ k : Nat, b[k]? = a[k]? ∨ ∃ r ∈ l, r.loc ≤ (k : Int) ∧ (k : Int) - r.loc < r.len
  runs : ∀ r ∈ l, ∃ i n : Nat, r = ⟨i, n⟩ ∧ 1 ≤ n ∧ i + n ≤ a.length
theorem join_ok {a : List Int} (h : checkE a = 0) : JoinOk a (joinL a (gapsL (spotsL a))) (gapsL (spotsL a)) := by
  obtain ⟨cs, hok, rfl, hs, hl, hr⟩ := check_chunks h
  have hg : gapsL (spotsL (chunksW cs)) = gapsP 0 0 cs := by rw [hs, gapsL_chunks hok]
  rw [hg]
  have hj := joinL_chunks cs [] []
  simp only [List.nil_append, List.length_nil, Nat.add_zero] at hj
  have hok2 := joinP_ok hok hl
  have hlen := joinP_length cs 0
  rw [Nat.zero_add] at hlen
  have hm := gapsP_mem cs 0 0 (by omega)
  have hm' : ∀ r ∈ gapsP 0 0 cs, ∃ i n : Nat, r = ⟨i, n⟩ ∧ 1 ≤ n ∧ i + n ≤ (chunksW cs).length := fun r hr => by
    obtain ⟨i, n, h1, h2, h3, h4⟩ := hm r hr
    exact ⟨i, n, h1, h2, by omega⟩
  obtain ⟨hs1, hs2⟩ := chunks_spots hok2 (by omega)
  have hg2 := gapsP_join cs 0 0 (by omega)
  rw [Nat.sub_zero] at hg2
  refine ⟨by rw [hj, hlen], by rw [hj, checkE_chunks hok2 (by omega)]; exact refsC_join hr, by rw [hj, hs2, gapsL_chunks hok2, hg2], ?_, ?_, fun k => ?_, hm'⟩
  · have hj2 := joinL_chunks (joinP 0 cs) [] []
    simp only [List.nil_append, List.length_nil, Nat.add_zero] at hj2
    rw [hg2, joinP_join] at hj2
    rw [hj, hj2]
  · rw [hj, hs2, free_join cs 0 0 0]
  · exact joinL_out _ _ (fun r hr => by
      obtain ⟨i, n, h1, h2, h3⟩ := hm' r hr
      exact ⟨i, n, h1, h3⟩)
end Go.Proofs.Ytgkoaambdejkdaa
