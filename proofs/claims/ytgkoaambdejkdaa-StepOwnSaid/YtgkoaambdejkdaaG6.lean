/-
  Texts joined: SlideClean StoreLaw CleanLaw TintWords CleanGaps IntF0 HandSwap RootSwap SlicesPin StorePuts StoreCollect CleanTwice StLaw StMem.
-/
import Derived.Test.YtgkoaambdejkdaaRows
import Derived.Test.YtgkoaambdejkdaaG1
import Derived.Test.YtgkoaambdejkdaaG3
import Derived.Test.YtgkoaambdejkdaaG4
import Derived.Test.YtgkoaambdejkdaaG5
namespace Go.Proofs.Ytgkoaambdejkdaa
open Go.RowKit
def CleanOk (a f p : List Int) : Prop := checkE a = 0 ∧ (∀ x ∈ f ++ p, x ∈ begsL (spotsL a)) ∧ risesP p = true
theorem pairwise_rises : ∀ {l : List Int}, l.Pairwise (· < ·) → risesP l = true
  | [], _ => rfl
  | [_], _ => rfl
  | x :: y :: t, h => by
    obtain ⟨h1, h2⟩ := List.pairwise_cons.1 h
    simp only [risesP, Bool.and_eq_true, decide_eq_true_eq]
    exact ⟨h1 y List.mem_cons_self, pairwise_rises h2⟩
theorem reached_rises {a f L : List Int} {S : List Spot} (h : Reached a S f L) : risesP L = true := by
  refine pairwise_rises ?_
  have h1 := h.sorted
  have h2 := List.nodup_iff_pairwise_ne.1 h.once
  exact (List.Pairwise.and h1 h2).imp (fun ⟨h, h'⟩ => by omega)
theorem begs_ix {S : List Spot} {x : Int} (h : x ∈ begsL S) : 0 ≤ ixOf (pL x) S := by
  obtain ⟨s, hs⟩ := begsL_iff.1 h
  obtain ⟨h1, h2, h3⟩ := spotAt_some hs
  rcases ixOf_cases (pL x) S with ⟨-, e2⟩ | ⟨i, s', e1, -⟩
  · have := e2 s h1
    simp [pL, h2, h3] at this
  · omega
theorem clean_longs {a f p L : List Int} (h0 : checkE a = 0) (h : Reached a (spotsL a) (f ++ p) L) : (risesP p = true → longsE a L p = 0) ∧ (risesP p = false → longsE a L p = 3) := by
  constructor
  · intro hp
    exact longsE_ok.2 ⟨h0, reached_rises h, hp, fun x hx => begs_ix (h.begs x hx), fun x hx => h.roots x (List.mem_append_right _ hx)⟩
  · intro hp
    unfold longsE
    rw [if_neg (by simp [h0]), if_pos (by simp [hp])]
theorem reached_closed {a f L : List Int} (h0 : checkE a = 0) (h : Reached a (spotsL a) f L) : ClosedL a L :=
  ⟨h.begs, h.closed, fun x hx => (begsL_bounds (checkE_ok.1 h0).1 x (h.begs x hx)).1⟩
structure CleanIs (a f p L Y b now : List Int) : Prop where
  check : checkE a = 0
  rises : risesP p = true
  reached : Reached a (spotsL a) (f ++ p) L
  longs : longsE a L p = 0
  y : Y = slidGo p 0 L (longsV a L p)
  b : b = slidW a L p
  now : now = f.map (posL L Y)
end Go.Proofs.Ytgkoaambdejkdaa

namespace Go.Proofs.Ytgkoaambdejkdaa
open Go.RowKit
theorem firstE_zero (a b c d : Int) : firstE [a, b, c, d] = 0 ↔ a = 0 ∧ b = 0 ∧ c = 0 ∧ d = 0 := by
  rw [firstE_eq]
  by_cases h1 : a = 0 <;> by_cases h2 : b = 0 <;> by_cases h3 : c = 0 <;> simp [h1, h2, h3]
structure StoreOk (a r : List Int) (l : List Slot) (p : List Rn) : Prop where
  arena : checkE a = 0
  roots : rootE r a.length = 0
  pins : PinsOk p
  hands : handE l = 0
  live : ∀ x ∈ fromL r l p, x ∈ begsL (spotsL a)
theorem storeE_ok {a r : List Int} {l : List Slot} {p : List Rn} : storeE a r l p = 0 ↔ StoreOk a r l p := by
  unfold storeE
  by_cases h : firstE [checkE a, rootE r a.length, pinE p, handE l] = 0
  · rw [if_neg (by simp [h])]
    obtain ⟨h1, h2, h3, h4⟩ := (firstE_zero _ _ _ _).1 h
    constructor
    · intro h5
      by_cases h6 : (fromL r l p).all (fun x => decide (x ∈ begsL (spotsL a))) = true
      · exact ⟨h1, h2, pinE_ok.1 h3, h4, fun x hx => of_decide_eq_true (List.all_eq_true.1 h6 x hx)⟩
      · rw [if_neg h6] at h5; cases h5
    · intro h5
      rw [if_pos (List.all_eq_true.2 fun x hx => decide_eq_true (h5.live x hx))]
  · rw [if_pos h]
    exact ⟨fun h5 => absurd h5 h, fun h5 => (firstE_zero _ _ _ _).2 ⟨h5.arena, h5.roots, pinE_ok.2 h5.pins, h5.hands⟩⟩
theorem fromL_mem {r : List Int} {l : List Slot} {p : List Rn} {x : Int} : x ∈ fromL r l p ↔ (x ∈ r ∧ 0 ≤ x) ∨ (∃ s ∈ l, s.opn = true ∧ s.loc = x) ∨ ∃ y ∈ p, y.loc = x := by
  unfold fromL openL pinsL
  rw [compact_mem, sortL_mem, List.mem_append, List.mem_append, namedL_mem, List.mem_map, List.mem_map]
  simp only [List.mem_filter, and_assoc, or_assoc]
theorem StoreOk.pinned {a r : List Int} {l : List Slot} {p : List Rn} (h : StoreOk a r l p) : ∀ x ∈ pinsL p, x ∈ begsL (spotsL a) := by
  intro x hx
  obtain ⟨y, hy, rfl⟩ := List.mem_map.1 hx
  exact h.live _ (fromL_mem.2 (.inr (.inr ⟨y, hy, rfl⟩)))
theorem StoreOk.clean {a r : List Int} {l : List Slot} {p : List Rn} (h : StoreOk a r l p) : CleanOk a (fromL r l p) (pinsL p) := by
  refine ⟨h.arena, fun x hx => ?_, pairwise_rises ?_⟩
  · rcases List.mem_append.1 hx with hx | hx
    · exact h.live x hx
    · exact h.pinned x hx
  · exact List.pairwise_map.2 h.pins.rise
theorem fromL_sorted (r : List Int) (l : List Slot) (p : List Rn) : (fromL r l p).Pairwise (fun x y => x ≤ y) := (sortL_sorted _).sublist (compact_sublist _)
end Go.Proofs.Ytgkoaambdejkdaa

namespace Go.Proofs.Ytgkoaambdejkdaa
open Go.RowKit
structure Cleaned (a f p L Y b now : List Int) : Prop where
  laid : LaidOk a L Y b a.length
  closed : ClosedL a L
  plan : Planned a L p (longsV a L p) Y
  sub : ∀ x ∈ f ++ p, x ∈ L
  pin : ∀ x ∈ p, posL L Y x = x
  map : now ++ p = (f ++ p).map (posL L Y)
  len256 : a.length ≤ 256
  lenL : L.length ≤ 256
theorem cleaned_of {a f p L Y b now : List Int} (h : CleanIs a f p L Y b now) : Cleaned a f p L Y b now := by
  obtain ⟨h1, h2, h3, h4, rfl, rfl, rfl⟩ := h
  have hP := planned_of h4
  have h0 := (checkE_ok.1 h1).1
  have hN := (parse_ok h0).1
  have hC := reached_closed h1 h3
  have hpin : ∀ x ∈ p, posL L (slidGo p 0 L (longsV a L p)) x = x := by
    intro x hx
    obtain ⟨hK, -⟩ := kept_of h4
    have hxL := h3.roots x (List.mem_append_right _ hx)
    obtain ⟨j, y, hj, hy, e⟩ := posL_ex hP.nodup hP.len hxL
    have hS := slid_of a.length p L (longsV a L p) 0 hK (fun z hz => hP.nn2 z (List.mem_of_getElem? hz))
    obtain ⟨s, i, -, -, -, -, -, e6, -⟩ := hP.at_ j x y hj hy
    rw [e]
    exact (hS.at_ j x y s.long hj e6 hy).2.1 hx
  refine ⟨?_, hC, hP, h3.roots, hpin, ?_, hN, ?_⟩
  · exact laid_ok h0 hC hP.nodup hP.len hN hP.nn hP.rows
  · rw [List.map_append]
    congr 1
    conv => lhs; rw [← List.map_id p]
    exact List.map_congr_left (fun x hx => (hpin x hx).symm)
  · exact nodup_bound 256 L h3.once (fun x hx => begsL_bounds h0 x (h3.begs x hx))
theorem Cleaned.alive {a f p L Y b now : List Int} (h : Cleaned a f p L Y b now) : ∀ x ∈ now ++ p, x ∈ begsL (spotsL b) := by
  intro x hx
  rw [h.map] at hx
  obtain ⟨z, hz, rfl⟩ := List.mem_map.1 hx
  have hzL := h.sub z hz
  obtain ⟨s, hs⟩ := begsL_iff.1 (h.closed.begs z hzL)
  obtain ⟨s', hs', -⟩ := h.laid.iso.at_ z hzL s hs
  exact begsL_iff.2 ⟨s', hs'⟩
theorem Cleaned.form {a f p L Y b now : List Int} (h : Cleaned a f p L Y b now) {os os' : List Ob} {fr fr' : List Int} (h1 : FormIs a (f ++ p) os fr) (h2 : FormIs b (now ++ p) os' fr') : os = os' ∧ fr = fr' := by
  rw [h.map] at h2
  exact form_iso h.laid.iso h.closed h.sub h1 h2
theorem rises_len {a p : List Int} (h0 : checkE a = 0) (hp : risesP p = true) (hb : ∀ x ∈ p, x ∈ begsL (spotsL a)) : p.length ≤ 256 := by
  refine nodup_bound 256 p ?_ (fun x hx => begsL_bounds (checkE_ok.1 h0).1 x (hb x hx))
  rw [List.nodup_iff_pairwise_ne]
  exact (risesP_pairwise hp).imp (fun h => by omega)
theorem words_wf {a : List Int} (h : ∀ x ∈ a, 0 ≤ x ∧ x < 18446744073709551616) : ∀ x ∈ a, (Lit.int .u64 x).wf = true := fun x hx => by
  obtain ⟨h1, h2⟩ := h x hx
  simp [Lit.wf, IntKind.min, IntKind.max, IntKind.signed, IntKind.bits]
  omega
theorem wf_words {a : List Int} (h : ∀ x ∈ a, (Lit.int .u64 x).wf = true) : ∀ x ∈ a, 0 ≤ x ∧ x < 18446744073709551616 := fun x hx => by
  have := h x hx
  simp [Lit.wf, IntKind.min, IntKind.max, IntKind.signed, IntKind.bits] at this
  omega
theorem laid_wf {a keep Y : List Int} {N : Nat} (ha : ∀ x ∈ a, (Lit.int .u64 x).wf = true) (hR : RowsOk N 0 (rowsOf a keep Y)) (hN : N ≤ 256) (hY : ∀ y ∈ Y, y ≤ 256) (hn : keep.Nodup) (hl : Y.length = keep.length) (hC : ClosedL a keep) (hY0 : ∀ y ∈ Y, 0 ≤ y) :
    ∀ x ∈ chunksW (laidC N 0 (rowsOf a keep Y)), (Lit.int .u64 x).wf = true := by
  refine words_wf (fun x hx => ?_)
  obtain ⟨c, hc, hxc⟩ := List.mem_flatMap.1 hx
  have hcok := laidC_ok hR hN c hc
  obtain ⟨w1, w2, w3, w4, w5, w6, w7⟩ := rdw_word c.r c.b c.t c.f hcok.1
  rcases List.mem_cons.1 hxc with rfl | hxp
  · exact ⟨w6, w7⟩
  · rcases laidC_mem hR c hc with ⟨q, -, -, rfl⟩ | ⟨y, hy⟩
    · have := List.eq_of_mem_replicate hxp
      omega
    · obtain ⟨j, hj⟩ := List.mem_iff_getElem?.1 hy
      have hjl : j < keep.length := by have := (List.getElem?_eq_some_iff.1 hj).1; rw [rowsOf_length hl] at this; exact this
      have := rowsOf_at (a := a) (List.getElem?_eq_getElem hjl) (List.getElem?_eq_getElem (l := Y) (i := j) (by omega))
      rw [hj] at this
      simp only [Option.some.injEq, Prod.mk.injEq] at this
      obtain ⟨-, rfl⟩ := this
      obtain ⟨s, hs⟩ := begsL_iff.1 (hC.begs _ (List.getElem_mem hjl))
      rw [rowAt_some hs] at hxp
      rcases List.mem_append.1 hxp with h | h
      · obtain ⟨v, hv, rfl⟩ := List.mem_map.1 h
        unfold refT
        by_cases h0 : v = 0
        · rw [if_pos h0]; omega
        · rw [if_neg h0]
          have hk := Iso.link_of hC (List.getElem_mem hjl) hs v hv h0
          obtain ⟨i, u, -, hu, e⟩ := posL_ex hn hl hk
          have h1 := hY u (List.mem_of_getElem? hu)
          have h2 := hY0 u (List.mem_of_getElem? hu)
          rw [e]
          omega
      · unfold bodyOf at h
        exact wf_words ha x (List.mem_of_mem_drop (List.mem_of_mem_take h))
theorem Cleaned.wf {a f p L Y b now : List Int} (h : Cleaned a f p L Y b now) (hI : CleanIs a f p L Y b now) (ha : ∀ x ∈ a, (Lit.int .u64 x).wf = true) : (∀ x ∈ b, (Lit.int .u64 x).wf = true) ∧ ∀ x ∈ now, (Lit.int .i64 x).wf = true := by
  have hN := h.len256
  have hYb : ∀ y ∈ Y, 0 ≤ y ∧ y ≤ 256 := fun y hy => by
    obtain ⟨j, hj⟩ := List.mem_iff_getElem?.1 hy
    have hjl : j < L.length := by rw [← h.plan.len]; exact (List.getElem?_eq_some_iff.1 hj).1
    obtain ⟨s, i, -, -, -, e4, e5, -, e7, -⟩ := h.plan.at_ j _ y (List.getElem?_eq_getElem hjl) hj
    have := e4.r0
    have := e4.b0
    unfold Spot.long at e5
    omega
  constructor
  · obtain ⟨-, -, -, -, rfl, rfl, -⟩ := hI
    exact laid_wf ha h.plan.rows hN (fun y hy => (hYb y hy).2) h.plan.nodup h.plan.len h.closed h.plan.nn
  · obtain ⟨-, -, -, -, -, -, rfl⟩ := hI
    intro x hx
    obtain ⟨z, hz, rfl⟩ := List.mem_map.1 hx
    obtain ⟨i, u, -, hu, e⟩ := posL_ex h.plan.nodup h.plan.len (h.sub z (List.mem_append_left _ hz))
    have := hYb u (List.mem_of_getElem? hu)
    rw [e]
    simp [Lit.wf, IntKind.min, IntKind.max, IntKind.signed, IntKind.bits]
    omega
theorem slides_ok : CleanOk [1, 1] [0] [] := by
  refine ⟨by decide, ?_, by decide⟩
  decide
end Go.Proofs.Ytgkoaambdejkdaa

namespace Go.Proofs.Ytgkoaambdejkdaa
open Go.RowKit
def longW (S : List Spot) (x : Int) : Int := match spotAt S x with | some s => s.long | none => 0
def longsL (S : List Spot) : List Int → Int
  | [] => 0
  | x :: t => longW S x + longsL S t
theorem longsL_snoc (S : List Spot) (l : List Int) (x : Int) : longsL S (l ++ [x]) = longsL S l + longW S x := by
  induction l with
  | nil => simp [longsL]
  | cons y l ih => simp only [List.cons_append, longsL, ih]; omega
theorem tints_facts : checkE [1, 1] = 0 ∧ spotsL [1, 1] = [⟨0, 1, 0, 0, false⟩] := by decide
theorem tints_reached : Reached [1, 1] (spotsL [1, 1]) [0] [0] := by
  rw [tints_facts.2]
  refine ⟨by decide, by decide, by decide, fun X hX _ x hx => hX x hx, by decide, by decide⟩
end Go.Proofs.Ytgkoaambdejkdaa

namespace Go.Proofs.Ytgkoaambdejkdaa
open Go.RowKit
theorem rsum_takeG {L : List Rn} {M : Int} (h : ∀ r ∈ L, 0 ≤ r.len ∧ r.len ≤ M) : ∀ j, j ≤ L.length → 0 ≤ rsum (L.take j) ∧ rsum (L.take j) ≤ M * j := by
  intro j
  induction j with
  | zero => intro _; simp [rsum]
  | succ j ih =>
    intro hj
    have hlt : j < L.length := by omega
    rw [List.take_succ_eq_append_getElem hlt, rsum_append]
    have h1 := h _ (List.getElem_mem hlt)
    have h2 := ih (by omega)
    simp only [rsum]
    have e : M * ((j + 1 : Nat) : Int) = M * j + M := by rw [Int.natCast_add, Int.mul_add]; simp
    rw [e]
    omega
theorem rsum_mono {L : List Rn} (h : ∀ r ∈ L, 0 ≤ r.len) : ∀ j, rsum (L.take j) ≤ rsum L := by
  induction L with
  | nil => intro j; simp
  | cons r L ih =>
    intro j
    have h0 := h r List.mem_cons_self
    have ih' := ih (fun x hx => h x (List.mem_cons_of_mem _ hx))
    cases j with
    | zero =>
      have := ih' 0
      simp only [List.take_zero, rsum] at this ⊢
      omega
    | succ j =>
      have := ih' j
      simp only [List.take_succ_cons, rsum]
      omega
theorem longsL_isum {a L longs : List Int} (hl : longs.length = L.length) (h : ∀ (j : Nat) (x : Int), L[j]? = some x → longs[j]? = some (longW (spotsL a) x)) : isum longs = longsL (spotsL a) L := by
  induction L generalizing longs with
  | nil => obtain rfl : longs = [] := List.eq_nil_of_length_eq_zero hl
           rfl
  | cons x L ih =>
    cases longs with
    | nil => cases hl
    | cons k longs =>
      have h0 := h 0 x rfl
      simp only [List.getElem?_cons_zero, Option.some.injEq] at h0
      simp only [isum, longsL]
      rw [ih (by simpa using hl) (fun j y hy => by have := h (j + 1) y (by simpa using hy); simpa using this), h0]
theorem Cleaned.gaps {a f p L Y b now : List Int} (h : Cleaned a f p L Y b now) (hI : CleanIs a f p L Y b now) :
    ggL b = pgaps a.length 0 Y (longsV a L p) ∧ rsum (ggL b) + longsL (spotsL a) L = a.length ∧ (∀ r ∈ ggL b, 0 ≤ r.len ∧ r.len ≤ 256) ∧ (ggL b).length ≤ p.length + 1 ∧ (ggL b).length ≤ 257 := by
  have hg : ggL b = pgaps a.length 0 Y (longsV a L p) := by
    unfold ggL
    rw [if_pos h.laid.check, h.laid.gaps, h.plan.ys, h.plan.lens]
  obtain ⟨hK, hN⟩ := kept_of hI.longs
  have hs := pgaps_sum a.length p L (longsV a L p) 0 hK (fun x hx => h.plan.nn2 x (List.mem_of_getElem? hx)) (by omega)
  rw [← hI.y] at hs
  have hlen : (pgaps a.length 0 Y (longsV a L p)).length ≤ p.length + 1 := by
    rw [hI.y]
    exact pgaps_few (reached_rises hI.reached)
  have hlen2 : (pgaps a.length 0 Y (longsV a L p)).length ≤ L.length + 1 := by
    rw [hI.y]
    have h1 := pgaps_count a.length p L (longsV a L p) 0
    have h2 := List.length_filter_le (fun x => decide (x ∈ p)) L
    omega
  have hll := h.lenL
  have hsum : isum (longsV a L p) = longsL (spotsL a) L := longsL_isum h.plan.lenL (fun j x hx => by
    obtain ⟨s, i, e1, -, -, -, -, e6, -⟩ := h.plan.at_ j x _ hx (List.getElem?_eq_getElem (l := Y) (i := j) (by rw [h.plan.len]; exact (List.getElem?_eq_some_iff.1 hx).1))
    rw [e6]
    unfold longW
    rw [e1])
  rw [hg]
  refine ⟨rfl, by rw [← hsum, hs.1]; omega, fun r hr => ?_, hlen, by omega⟩
  have := hs.2 r hr
  omega
end Go.Proofs.Ytgkoaambdejkdaa

namespace Go.Proofs.Ytgkoaambdejkdaa
open Go.RowKit
set_option maxRecDepth 100000 in
set_option maxHeartbeats 1000000 in
theorem indexIntF0_any (F : Nat) (A : Option Addr) (n c B : Nat) (l : List Int) (p : Int → Bool) (w : World) (hr : Reads w B 1 A n (l.map (.int .i64))) (hB : B ≤ w.heap.size) (hn : n ≤ 1000000000000000000) (hP : Plain Try.prog F)
    (HC : ∀ (w' : World) (x : Int), Below w.heap.size w w' → x ∈ l → Calls Try.prog F #[.int .i64 x] w' fun e w'' => e = .returned (.bool (p x)) ∧ Below w'.heap.size w' w'') :
    Calls Try.prog 58 #[.slice A n c, .func (.func F) #[] #[]] w fun e w' => e = .returned (.int .i64 (ixOf p l)) ∧ Below w.heap.size w w' := by
  have hll : l.length = n := by have := hr.1; simpa using this
  have HL := Lib.hid hll
  have HC := Lib.hid HC
  have hcf := fun (x : Value) (w : World) => hP #[x] w
  clear hll hP
  go_enter Try.func58, Try.ntmps58
  go_wp2
  go_loopw [5, 8] (fun _ i wr => ∃ j : Nat, j ≤ n ∧ i = .int .i64 j ∧ Below w.heap.size w wr ∧ Hid (∀ x ∈ l.take j, p x = false)) (fun _ i _ => n - (intOf i).toNat)
  case atStart => exact ⟨0, Nat.zero_le _, rfl, Below.refl _ _, by intro x hx; simp at hx⟩
  case round =>
    obtain ⟨j, hj, rfl, hb, HD⟩ := hrel
    by_cases hlt : j < n
    · obtain ⟨ad, s, rfl, had, hs, c0⟩ := (hr.below (hb.mono hB)).num hlt
      have HS := Lib.hid hs
      have HQ := Lib.hid (HC.out wr s hb (List.mem_of_getElem? hs))
      clear hs
      cases hp : p s
      · have HF := Lib.hid hp
        clear hp
        go_wp2_with fail
        refine HQ.out.mono ?_
        rw [HF.out]
        rintro e w1 ⟨rfl, hb1⟩
        go_wp2
        go_roundw
        case rel => exact ⟨j + 1, by omega, by go_num, hb.trans (hb1.mono hb.size), fun x hx => by
          rcases take_succ_mem HS.out x hx with h | rfl
          · exact HD.out x h
          · exact HF.out⟩
        case measure => simp [intOf]; omega
      · have HF := Lib.hid hp
        clear hp
        go_wp2_with fail
        refine HQ.out.mono ?_
        rw [HF.out]
        rintro e w1 ⟨rfl, hb1⟩
        go_wp2
        go_ret
        exact ⟨ret_int (ixOf_some HS.out HF.out HD.out).symm, hb.trans (hb1.mono hb.size)⟩
    · go_wp2
      go_ret
      exact ⟨ret_int (ixOf_none (by have := HD.out; rwa [List.take_of_length_le (by rw [HL.out]; omega)] at this)).symm, hb⟩
theorem containsIntF0_any (F : Nat) (A : Option Addr) (n c B : Nat) (l : List Int) (p : Int → Bool) (w : World) (hr : Reads w B 1 A n (l.map (.int .i64))) (hB : B ≤ w.heap.size) (hn : n ≤ 1000000000000000000) (hP : Plain Try.prog F)
    (HC : ∀ (w' : World) (x : Int), Below w.heap.size w w' → x ∈ l → Calls Try.prog F #[.int .i64 x] w' fun e w'' => e = .returned (.bool (p x)) ∧ Below w'.heap.size w' w'') :
    Calls Try.prog 22 #[.slice A n c, .func (.func F) #[] #[]] w fun e w' => e = .returned (.bool (l.any p)) ∧ Below w.heap.size w w' := by
  have H := Lib.hid (indexIntF0_any F A n c B l p w hr hB hn hP HC)
  have hd := ixOf_nonneg p l
  rw [← hd]
  generalize ixOf p l = i at *
  clear HC hd
  go_enter Try.func22, Try.ntmps22
  go_wp2_with fail
  refine H.out.mono ?_
  rintro e w1 ⟨rfl, hb⟩
  go_wp2
  go_ret
  exact ⟨rfl, hb⟩
end Go.Proofs.Ytgkoaambdejkdaa

namespace Go.Proofs.Ytgkoaambdejkdaa
open Go.RowKit
def swapS (t : List Int) (s : Slot) : Slot := if s.opn = true then ⟨s.gen, true, t.getD s.loc.toNat 0⟩ else s
theorem swapS_step {l : List Slot} {t : List Int} {j : Nat} (h : j < l.length) : ((l.take j).map (swapS t) ++ l.drop j).set j (swapS t l[j]) = (l.take (j + 1)).map (swapS t) ++ l.drop (j + 1) := by
  have hl : ((l.take j).map (swapS t)).length = j := by rw [List.length_map, List.length_take]; omega
  rw [List.drop_eq_getElem_cons h, List.set_append_right _ _ (by omega), hl, Nat.sub_self, List.set_cons_zero, List.take_succ_eq_append_getElem h, List.map_append, List.append_assoc]
  rfl
theorem swapS_at {l : List Slot} {t : List Int} {j : Nat} (h : j < l.length) : ((l.take j).map (swapS t) ++ l.drop j)[j]? = some l[j] := by
  have hl : ((l.take j).map (swapS t)).length = j := by rw [List.length_map, List.length_take]; omega
  rw [List.getElem?_append_right (by omega), hl, Nat.sub_self, List.drop_eq_getElem_cons h]
  rfl
theorem set_same {α : Type} {l : List α} {i : Nat} {x : α} (h : l[i]? = some x) : l.set i x = l := by
  obtain ⟨h1, rfl⟩ := List.getElem?_eq_some_iff.1 h
  exact List.set_getElem_self h1
theorem swapS_skip {l : List Slot} {t : List Int} {j : Nat} (h : j < l.length) (h0 : l[j].opn = false) : (l.take j).map (swapS t) ++ l.drop j = (l.take (j + 1)).map (swapS t) ++ l.drop (j + 1) := by
  rw [← swapS_step h]
  have e : swapS t l[j] = l[j] := by unfold swapS; rw [h0]; rfl
  rw [e, set_same (swapS_at h)]
theorem slotsC_set1 {l : List Slot} {j : Nat} {gen loc loc' : Int} {opn : Bool} (h : l[j]? = some ⟨gen, opn, loc⟩) : (slotsC l).set (j * 3 + 2) (.int .i64 loc') = slotsC (l.set j ⟨gen, opn, loc'⟩) := by
  obtain ⟨hj, he⟩ := List.getElem?_eq_some_iff.1 h
  have a0 := slotsC_at l j 0 hj (by omega)
  have a1 := slotsC_at l j 1 hj (by omega)
  rw [he] at a0 a1
  have h3 := slotsC_set l j ⟨gen, opn, loc'⟩
  dsimp only at h3
  rw [← h3, set_same (l := slotsC l) (i := j * 3) (x := .int .i64 gen) a0, set_same (l := slotsC l) (i := j * 3 + 1) (x := .bool opn) a1]
end Go.Proofs.Ytgkoaambdejkdaa

namespace Go.Proofs.Ytgkoaambdejkdaa
open Go.RowKit
def swapE (r : List Int) (n : Int) (t : List Int) : Int := if rootE r n ≠ 0 then rootE r n else if (t.length : Int) ≠ n then 3 else if t.any (fun v => !inR v n) = true then 4 else 0
def swapV (t : List Int) (v : Int) : Int := if 0 ≤ v then t.getD v.toNat 0 else v
theorem swapE_ok {r t : List Int} {n : Int} (h : swapE r n t = 0) : rootE r n = 0 ∧ (t.length : Int) = n ∧ ∀ v ∈ t, -1 ≤ v ∧ v < n := by
  unfold swapE at h
  split at h
  · rename_i h1; exact absurd h h1
  · rename_i h1
    split at h
    · cases h
    · rename_i h2
      split at h
      · cases h
      · rename_i h3
        refine ⟨by simpa using h1, by simpa using h2, fun v hv => ?_⟩
        have h4 : ¬ (!inR v n) = true := fun h5 => h3 (List.any_eq_true.2 ⟨v, hv, h5⟩)
        simp only [inR, Bool.not_eq_true', Bool.not_eq_false, Bool.and_eq_true, decide_eq_true_eq] at h4
        exact h4
theorem swapE_of {r t : List Int} {n : Int} (h : rootE r n = 0) (h1 : (t.length : Int) = n) (h2 : ∀ v ∈ t, -1 ≤ v ∧ v < n) : swapE r n t = 0 := by
  unfold swapE
  rw [if_neg (by simp [h]), if_neg (by simp [h1]), if_neg]
  intro h3
  obtain ⟨v, hv, h4⟩ := List.any_eq_true.1 h3
  have := h2 v hv
  simp only [inR, Bool.not_eq_true', Bool.and_eq_false_iff, decide_eq_false_iff_not] at h4
  omega
theorem swap_step {r t : List Int} {j : Nat} (h : j < r.length) : ((r.take j).map (swapV t) ++ r.drop j).set j (swapV t r[j]) = (r.take (j + 1)).map (swapV t) ++ r.drop (j + 1) := by
  have hl : ((r.take j).map (swapV t)).length = j := by rw [List.length_map, List.length_take]; omega
  rw [List.drop_eq_getElem_cons h, List.set_append_right _ _ (by omega), hl, Nat.sub_self, List.set_cons_zero, List.take_succ_eq_append_getElem h, List.map_append, List.append_assoc]
  rfl
theorem swap_at {r t : List Int} {j : Nat} (h : j < r.length) : ((r.take j).map (swapV t) ++ r.drop j)[j]? = some r[j] := by
  have hl : ((r.take j).map (swapV t)).length = j := by rw [List.length_map, List.length_take]; omega
  rw [List.getElem?_append_right (by omega), hl, Nat.sub_self, List.drop_eq_getElem_cons h]
  rfl
theorem swap_skip {r t : List Int} {j : Nat} (h : j < r.length) (h0 : r[j] < 0) : (r.take j).map (swapV t) ++ r.drop j = (r.take (j + 1)).map (swapV t) ++ r.drop (j + 1) := by
  rw [← swap_step h]
  have : swapV t r[j] = r[j] := by unfold swapV; rw [if_neg (by omega)]
  rw [this]
  obtain ⟨q1, q2⟩ := List.getElem?_eq_some_iff.1 (swap_at (t := t) h)
  have h1 := List.set_getElem_self q1
  rw [q2] at h1
  exact h1.symm
end Go.Proofs.Ytgkoaambdejkdaa

namespace Go.Proofs.Ytgkoaambdejkdaa
open Go.RowKit
end Go.Proofs.Ytgkoaambdejkdaa

namespace Go.Proofs.Ytgkoaambdejkdaa
open Go.RowKit
theorem begs_bounds {a : List Int} (h : checkE a = 0) {x : Int} (hx : x ∈ begsL (spotsL a)) : 0 ≤ x ∧ x ≤ 256 := by
  obtain ⟨s, hs, rfl⟩ := List.mem_map.1 hx
  exact spots_bounds (checkE_ok.1 h).1 s (List.mem_filter.1 hs).1
theorem begs_lt {a : List Int} (h : checkE a = 0) {x : Int} (hx : x ∈ begsL (spotsL a)) : 0 ≤ x ∧ x < a.length := by
  have h2 := begsL_bounds (checkE_ok.1 h).1 _ hx
  obtain ⟨s, hs, rfl⟩ := List.mem_map.1 hx
  have h1 := ((parse_mem (parse_ok (checkE_ok.1 h).1).2) s (List.mem_filter.1 hs).1).1
  have h3 := h1.fits
  have h4 := h1.r0
  have h5 := h1.b0
  unfold Spot.long at h3
  omega
theorem at_wf {x : Int} (h : 0 ≤ x ∧ x ≤ 256) : (Lit.int .i64 x).wf = true := by
  simp [Lit.wf, IntKind.min, IntKind.max, IntKind.signed, IntKind.bits]; omega
def putsL (t : List Int) : List Int → List Int → List Int
  | x :: f, y :: g => putsL (t.set x.toNat y) f g
  | _, _ => t
theorem putsL_length (f g : List Int) : ∀ t : List Int, (putsL t f g).length = t.length := by
  induction f generalizing g with
  | nil => intro t; cases g <;> rfl
  | cons x f ih =>
    intro t
    cases g with
    | nil => rfl
    | cons y g => rw [putsL, ih, List.length_set]
theorem putsL_snoc {f g : List Int} (h : f.length = g.length) (x y : Int) : ∀ t : List Int, putsL t (f ++ [x]) (g ++ [y]) = (putsL t f g).set x.toNat y := by
  induction f generalizing g with
  | nil => intro t; cases g with
    | nil => rfl
    | cons b g => cases h
  | cons a f ih =>
    intro t
    cases g with
    | nil => cases h
    | cons b g => simp only [List.cons_append, putsL]; exact ih (by simpa using h) _
theorem putsL_mem {f g : List Int} : ∀ {t : List Int} {v : Int}, v ∈ putsL t f g → v ∈ t ∨ v ∈ g := by
  induction f generalizing g with
  | nil => intro t v h; cases g <;> exact .inl h
  | cons x f ih =>
    intro t v h
    cases g with
    | nil => exact .inl h
    | cons y g =>
      rw [putsL] at h
      rcases ih h with h | h
      · rcases List.mem_or_eq_of_mem_set h with h | h
        · exact .inl h
        · exact .inr (by rw [h]; exact List.mem_cons_self)
      · exact .inr (List.mem_cons_of_mem _ h)
theorem putsL_other {f g : List Int} {k : Nat} (h : ∀ x ∈ f, x.toNat ≠ k) : ∀ t : List Int, (putsL t f g)[k]? = t[k]? := by
  induction f generalizing g with
  | nil => intro t; cases g <;> rfl
  | cons x f ih =>
    intro t
    cases g with
    | nil => rfl
    | cons y g =>
      rw [putsL, ih (fun z hz => h z (List.mem_cons_of_mem _ hz)), List.getElem?_set_ne (h x List.mem_cons_self)]
theorem putsL_at {f g : List Int} (hd : f.Nodup) (h0 : ∀ x ∈ f, 0 ≤ x) {i : Nat} {x y : Int} (hx : f[i]? = some x) (hy : g[i]? = some y) : ∀ t : List Int, x.toNat < t.length → (putsL t f g)[x.toNat]? = some y := by
  induction f generalizing g i with
  | nil => simp at hx
  | cons a f ih =>
    intro t ht
    cases g with
    | nil => simp at hy
    | cons b g =>
      rw [putsL]
      cases i with
      | zero =>
        simp only [List.getElem?_cons_zero, Option.some.injEq] at hx hy
        subst hx hy
        have hn := (List.nodup_cons.1 hd).1
        rw [putsL_other (fun z hz he => hn (by have h1 := h0 z (List.mem_cons_of_mem _ hz); have h2 := h0 a List.mem_cons_self; have : z = a := by omega
                                               rwa [← this]))]
        rw [List.getElem?_set_self ht]
      | succ i =>
        simp only [List.getElem?_cons_succ] at hx hy
        exact ih (List.nodup_cons.1 hd).2 (fun z hz => h0 z (List.mem_cons_of_mem _ hz)) hx hy _ (by rw [List.length_set]; exact ht)
theorem own_blk {w : World} {base size n g : Nat} {e t : TypeId} {v : Value} {xs : List Value} {cs : Array Value} (h : w.ownsRow base e size v n xs) (hB : Blk w g t cs) (hne : e ≠ t) : v.ownBlock ≠ some g := by
  intro hg
  rcases h.2 with ⟨rfl, _⟩ | ⟨g1, cap, cur, rfl, _, hh, _⟩
  · cases hg
  · obtain rfl : g1 = g := by simpa [Value.ownBlock] using hg
    have hB : w.heap[g1]? = some (.cells cs t (0, 0)) := hB
    rw [hh] at hB
    injection hB with hB
    injection hB with _ hB
    exact hne hB
theorem puts_in {a f p L Y b now : List Int} (h : CleanIs a f p L Y b now) (k : Nat) (hk : a.length ≤ k) : ∀ v ∈ putsL (List.replicate k 0) f now, 0 ≤ v ∧ v < k := by
  have hC := cleaned_of h
  intro v hv
  rcases putsL_mem hv with h1 | h1
  · obtain ⟨h2, rfl⟩ := List.mem_replicate.1 h1
    omega
  · have h2 := begs_lt hC.laid.check (hC.alive v (List.mem_append_left _ h1))
    have h3 := hC.laid.len
    omega
theorem two_made (w : World) (base n k : Nat) (hb : base ≤ w.heap.size) (hn : n ≤ maxLen) (hk : k ≤ maxLen) :
    ((w.alloc (.cells (madeCells #[.int .i64 0] n) 3)).alloc (.cells (madeCells #[.int .i64 0] k) 3)).ownsRow base 3 1 (.slice (some ⟨w.heap.size, 0, none⟩) n n) n (List.replicate n (.int .i64 0)) ∧
    ((w.alloc (.cells (madeCells #[.int .i64 0] n) 3)).alloc (.cells (madeCells #[.int .i64 0] k) 3)).ownsRow base 3 1 (.slice (some ⟨w.heap.size + 1, 0, none⟩) k k) k (List.replicate k (.int .i64 0)) ∧
    Below base w ((w.alloc (.cells (madeCells #[.int .i64 0] n) 3)).alloc (.cells (madeCells #[.int .i64 0] k) 3)) := by
  have h1 := own_make1 w base 3 (.int .i64 0) n _ rfl hb hn
  have h2 := own_make1 (w.alloc (.cells (madeCells #[.int .i64 0] n) 3)) base 3 (.int .i64 0) k _ rfl (by rw [World.size_alloc]; omega) hk
  rw [World.size_alloc] at h2
  have hb1 := (Below.refl base w).alloc hb (.cells (madeCells #[.int .i64 0] n) 3)
  exact ⟨h1.alloc _, h2, hb1.alloc (by rw [World.size_alloc]; omega) _⟩
def freeL (b : List Int) : Int := rsum (ggL b)
end Go.Proofs.Ytgkoaambdejkdaa

namespace Go.Proofs.Ytgkoaambdejkdaa
open Go.RowKit
end Go.Proofs.Ytgkoaambdejkdaa

namespace Go.Proofs.Ytgkoaambdejkdaa
open Go.RowKit
theorem slid_pairwise {N : Int} (pinned : List Int) : ∀ (keep L : List Int) (e : Int), Kept N keep L → (∀ x, keep[0]? = some x → e ≤ x) → (slidGo pinned e keep L).Pairwise (· < ·) := by
  intro keep
  induction keep with
  | nil => intro L e _ _; simp [slidGo]
  | cons x ks ih =>
    intro L e hK he
    cases L with
    | nil => simp [slidGo]
    | cons n ls =>
      obtain ⟨x0, n1, n2, hxn⟩ := hK.at_ 0 x n rfl rfl
      have hex := he x rfl
      obtain ⟨z, hz⟩ : ∃ z, z = (if x ∈ pinned then x else e) := ⟨_, rfl⟩
      have hz1 : e ≤ z ∧ z ≤ x := by rw [hz]; split <;> omega
      have hh : ∀ y, ks[0]? = some y → z + n ≤ y := fun y hy => by have := hK.next 0 x n y rfl rfl (by simpa using hy); omega
      have hS := slid_of N pinned ks ls (z + n) hK.tail hh
      have hY : slidGo pinned e (x :: ks) (n :: ls) = z :: slidGo pinned (z + n) ks ls := by simp only [slidGo]; rw [← hz]
      rw [hY]
      refine List.pairwise_cons.2 ⟨fun y hy => ?_, ih ls (z + n) hK.tail hh⟩
      obtain ⟨j, hj⟩ := List.mem_iff_getElem?.1 hy
      have := hS.low j y hj
      omega
theorem slid_slid (pinned : List Int) : ∀ (keep L : List Int) (e : Int), slidGo pinned e (slidGo pinned e keep L) L = slidGo pinned e keep L := by
  intro keep
  induction keep with
  | nil => intro L e; simp [slidGo]
  | cons x ks ih =>
    intro L e
    cases L with
    | nil => simp [slidGo]
    | cons n ls =>
      obtain ⟨z, hz⟩ : ∃ z, z = (if x ∈ pinned then x else e) := ⟨_, rfl⟩
      have hzz : (if z ∈ pinned then z else e) = z := by
        by_cases h : z ∈ pinned
        · rw [if_pos h]
        · rw [if_neg h]
          by_cases hx : x ∈ pinned
          · rw [if_pos hx] at hz; rw [hz] at h; exact absurd hx h
          · rw [if_neg hx] at hz; exact hz.symm
      have hY : slidGo pinned e (x :: ks) (n :: ls) = z :: slidGo pinned (z + n) ks ls := by simp only [slidGo]; rw [← hz]
      rw [hY]
      simp only [slidGo]
      rw [hzz, ih]
theorem Cleaned.again {a f p L Y b now : List Int} (h : Cleaned a f p L Y b now) (hI : CleanIs a f p L Y b now) : CleanOk b now p ∧ ∀ L' Y' b' now', CleanIs b now p L' Y' b' now' → L' = Y ∧ Y' = Y ∧ b' = b ∧ now' = now := by
  refine ⟨⟨h.laid.check, h.alive, hI.rises⟩, fun L' Y' b' now' hI' => ?_⟩
  have hP := h.plan
  obtain ⟨hK, -⟩ := kept_of hI.longs
  have hYs : Y.Pairwise (· < ·) := by
    rw [hI.y]
    exact slid_pairwise p L _ 0 hK (fun x hx => hP.nn2 x (List.mem_of_getElem? hx))
  have hmap : L.map (posL L Y) = Y := posL_map hP.nodup hP.len
  have hR := reached_iso h.laid.iso hP.nn2 hI.reached (by rw [hmap]; exact hYs.imp (fun h => by omega))
  rw [← h.map, hmap] at hR
  obtain rfl : L' = Y := Reached.unique hI'.reached hR
  have hYn : L'.Nodup := by
    rw [List.nodup_iff_pairwise_ne]
    exact hYs.imp (fun h => by omega)
  have hP' := planned_of hI'.longs
  rw [← hI'.y] at hP'
  have hat : ∀ (j : Nat) (x y : Int), L[j]? = some x → L'[j]? = some y → ∃ s s', spotAt (spotsL a) x = some s ∧ spotAt (spotsL b) y = some s' ∧ s'.r = s.r ∧ s'.b = s.b ∧ s'.t = s.t ∧ bodyOf b s' = bodyOf a s ∧ refsOf b s' = (refsOf a s).map (refT (posL L L')) := by
    intro j x y hx hy
    have hxL := List.mem_of_getElem? hx
    obtain ⟨s, hs⟩ := begsL_iff.1 (h.closed.begs x hxL)
    obtain ⟨s', hs', e⟩ := h.laid.iso.at_ x hxL s hs
    rw [posL_at hP.nodup hx hy] at hs'
    exact ⟨s, s', hs, hs', e⟩
  have hlen : (longsV b L' p) = longsV a L p := by
    refine List.ext_getElem? (fun j => ?_)
    by_cases hj : j < L.length
    · have hx : L[j]? = some L[j] := List.getElem?_eq_getElem hj
      have hy : L'[j]? = some (L'[j]'(by rw [hP.len]; exact hj)) := List.getElem?_eq_getElem _
      have hy' : Y'[j]? = some (Y'[j]'(by rw [hP'.len, hP.len]; exact hj)) := List.getElem?_eq_getElem _
      obtain ⟨s, i, e1, -, -, -, -, e6, -⟩ := hP.at_ j _ _ hx hy
      obtain ⟨s2, i2, f1, -, -, -, -, f6, -⟩ := hP'.at_ j _ _ hy hy'
      obtain ⟨t, t', g1, g2, g3, g4, -⟩ := hat j _ _ hx hy
      obtain rfl := Option.some.inj (e1.symm.trans g1)
      obtain rfl := Option.some.inj (f1.symm.trans g2)
      rw [e6, f6]
      unfold Spot.long
      rw [g3, g4]
    · rw [List.getElem?_eq_none (by rw [hP'.lenL, hP.len]; omega), List.getElem?_eq_none (by rw [hP.lenL]; omega)]
  have hY' : Y' = L' := by
    rw [hI'.y, hlen]
    conv => lhs; rw [hI.y]
    rw [slid_slid]
    exact hI.y.symm
  subst hY'
  have hid : ∀ y ∈ Y', posL Y' Y' y = y := fun y hy => by
    obtain ⟨j, z, h1, h2, h3⟩ := posL_ex hYn rfl hy
    rw [h1] at h2
    rw [h3]
    exact (Option.some.inj h2).symm
  refine ⟨rfl, rfl, ?_, ?_⟩
  · have e1 := hI'.b
    unfold slidW at e1
    rw [← hI'.y, h.laid.len] at e1
    have e2 := hI.b
    unfold slidW at e2
    rw [← hI.y] at e2
    rw [e1]
    refine Eq.trans ?_ e2.symm
    congr 2
    refine List.ext_getElem? (fun j => ?_)
    by_cases hj : j < L.length
    · have hx : L[j]? = some L[j] := List.getElem?_eq_getElem hj
      have hy : Y'[j]? = some (Y'[j]'(by rw [hP.len]; exact hj)) := List.getElem?_eq_getElem _
      rw [rowsOf_at hy hy, rowsOf_at hx hy]
      obtain ⟨s, s', g1, g2, g3, g4, g5, g6, g7⟩ := hat j _ _ hx hy
      rw [rowAt_some g1, rowAt_some g2]
      congr 2
      unfold kC
      rw [g3, g4, g5, g6, g7, List.map_map]
      congr 2
      refine List.map_congr_left (fun v hv => ?_)
      show refT _ (refT _ v) = refT _ v
      by_cases h0 : v = 0
      · subst h0; rfl
      · have hk := Iso.link_of h.closed (List.mem_of_getElem? hx) g1 v hv h0
        have hn := h.laid.iso.nn _ hk
        have e : refT (posL L Y') v = posL L Y' (v - 1) + 1 := by unfold refT; rw [if_neg h0]
        rw [e]
        unfold refT
        rw [if_neg (by omega), show posL L Y' (v - 1) + 1 - 1 = posL L Y' (v - 1) by omega, hid]
        obtain ⟨i, u, -, hu, e2⟩ := posL_ex hP.nodup hP.len hk
        rw [e2]
        exact List.mem_of_getElem? hu
    · rw [List.getElem?_eq_none (by rw [rowsOf_length rfl, hP.len]; omega), List.getElem?_eq_none (by rw [rowsOf_length hP.len]; omega)]
  · rw [hI'.now]
    conv => rhs; rw [← List.map_id now]
    refine List.map_congr_left (fun x hx => hid x ?_)
    rw [hI.now] at hx
    obtain ⟨z, hz, rfl⟩ := List.mem_map.1 hx
    obtain ⟨i, u, -, hu, e2⟩ := posL_ex hP.nodup hP.len (h.sub z (List.mem_append_left _ hz))
    rw [e2]
    exact List.mem_of_getElem? hu
end Go.Proofs.Ytgkoaambdejkdaa

namespace Go.Proofs.Ytgkoaambdejkdaa
open Go.RowKit
theorem compact_strict {l : List Int} (h : l.Pairwise (fun x y => x ≤ y)) : (Lib.compact l).Pairwise (fun x y => x < y) := by
  unfold Lib.compact Lib.compactUpTo
  rw [List.pairwise_map]
  have h1 : ((List.range l.length).filter (Lib.keeps l.toArray)).Pairwise (fun i j => i < j) := List.pairwise_lt_range.sublist List.filter_sublist
  refine List.Pairwise.imp_of_mem ?_ h1
  intro i j hi hj hij
  obtain ⟨hi1, -⟩ := List.mem_filter.1 hi
  obtain ⟨hj1, hj2⟩ := List.mem_filter.1 hj
  have hi1 := List.mem_range.1 hi1
  have hj1 := List.mem_range.1 hj1
  have h2 : l.toArray[j]! ≠ l.toArray[j - 1]! := by
    simp only [Lib.keeps, decide_eq_true_eq] at hj2
    exact hj2.resolve_left (by omega)
  rw [getElem!_pos l.toArray i (by simpa using hi1), getElem!_pos l.toArray j (by simpa using hj1)]
  rw [getElem!_pos l.toArray j (by simpa using hj1), getElem!_pos l.toArray (j - 1) (by simp; omega)] at h2
  simp only [List.getElem_toArray] at h2 ⊢
  have h3 : ∀ (p q : Nat) (hp : p < l.length) (hq : q < l.length), p ≤ q → l[p] ≤ l[q] := by
    intro p q hp hq hpq
    rcases Nat.eq_or_lt_of_le hpq with rfl | hlt
    · exact Int.le_refl _
    · exact List.pairwise_iff_getElem.1 h p q hp hq hlt
  have h4 := h3 i (j - 1) hi1 (by omega) (by omega)
  have h5 := h3 (j - 1) j (by omega) hj1 (by omega)
  omega
theorem fromL_strict (r : List Int) (l : List Slot) (p : List Rn) : (fromL r l p).Pairwise (fun x y => x < y) := compact_strict (sortL_sorted _)
theorem fromL_nodup (r : List Int) (l : List Slot) (p : List Rn) : (fromL r l p).Nodup := by
  rw [List.nodup_iff_pairwise_ne]
  exact (fromL_strict r l p).imp (fun h => by omega)
structure St where
  a : List Int
  r : List Int
  p : List Rn
  l : List Slot
def St.begs (S : St) : List Int := fromL S.r S.l S.p
def StOk (S : St) : Prop := StoreOk S.a S.r S.l S.p
def rootedL (S : St) : List Int := S.r.filter (fun v => decide (0 ≤ v)) ++ openL S.l ++ pinsL S.p
theorem rooted_begs {S : St} {x : Int} : x ∈ S.begs ↔ x ∈ rootedL S := by
  unfold St.begs rootedL fromL
  rw [compact_mem, sortL_mem]
  simp only [List.mem_append, namedL_mem, List.mem_filter, decide_eq_true_eq]
theorem open_at {S : St} {s : Slot} (h : s ∈ S.l) (ho : s.opn = true) : s.loc ∈ S.begs := rooted_begs.2 (List.mem_append_left _ (List.mem_append_right _ (List.mem_map.2 ⟨s, List.mem_filter.2 ⟨h, ho⟩, rfl⟩)))
theorem root_at {S : St} {v : Int} (h : v ∈ S.r) (h0 : 0 ≤ v) : v ∈ S.begs := rooted_begs.2 (List.mem_append_left _ (List.mem_append_left _ (List.mem_filter.2 ⟨h, by simpa using h0⟩)))
theorem pin_at {S : St} {y : Rn} (h : y ∈ S.p) : y.loc ∈ S.begs := rooted_begs.2 (List.mem_append_right _ (List.mem_map.2 ⟨y, h, rfl⟩))
def phiV (φ : Int → Int) (v : Int) : Int := if 0 ≤ v then φ v else v
def phiS (φ : Int → Int) (s : Slot) : Slot := if s.opn = true then ⟨s.gen, true, φ s.loc⟩ else s
structure Coll (S S' : St) (fr : Int) (L Y now : List Int) : Prop where
  is : CleanIs S.a S.begs (pinsL S.p) L Y S'.a now
  r : S'.r = S.r.map (swapV (putsL (List.replicate S.a.length 0) S.begs now))
  p : S'.p = S.p
  l : S'.l = S.l.map (swapS (putsL (List.replicate 256 0) S.begs now))
  fr : fr = freeL S'.a
section
variable {S S' S2 : St} {fr fr2 : Int} {L Y now L2 Y2 now2 : List Int}
theorem Coll.put (h : Coll S S' fr L Y now) (hS : StOk S) {k : Nat} (hk : S.a.length ≤ k) {x : Int} (hx : x ∈ S.begs) : 0 ≤ x ∧ x < S.a.length ∧ (putsL (List.replicate k 0) S.begs now).getD x.toNat 0 = posL L Y x := by
  have h1 : ∀ x ∈ S.begs, 0 ≤ x ∧ x < S.a.length := fun x hx => begs_lt hS.arena (hS.live x hx)
  obtain ⟨i, hi⟩ := List.mem_iff_getElem?.1 hx
  have hy : now[i]? = some (posL L Y x) := by rw [h.is.now, List.getElem?_map, hi]; rfl
  have h2 := putsL_at (show S.begs.Nodup from fromL_nodup S.r S.l S.p) (fun x hx => (h1 x hx).1) hi hy (List.replicate k 0) (by rw [List.length_replicate]; have := h1 x hx; omega)
  refine ⟨(h1 x hx).1, (h1 x hx).2, ?_⟩
  rw [List.getD_eq_getElem?_getD, h2]
  rfl
theorem Coll.r' (h : Coll S S' fr L Y now) (hS : StOk S) : S'.r = S.r.map (phiV (posL L Y)) := by
  rw [h.r]
  refine List.map_congr_left (fun v hv => ?_)
  unfold swapV phiV
  by_cases h0 : 0 ≤ v
  · rw [if_pos h0, if_pos h0, (h.put hS (Nat.le_refl _) (root_at hv h0)).2.2]
  · rw [if_neg h0, if_neg h0]
theorem Coll.l' (h : Coll S S' fr L Y now) (hS : StOk S) : S'.l = S.l.map (phiS (posL L Y)) := by
  rw [h.l]
  refine List.map_congr_left (fun s hs => ?_)
  unfold swapS phiS
  by_cases h0 : s.opn = true
  · rw [if_pos h0, if_pos h0, (h.put hS (cleaned_of h.is).len256 (open_at hs h0)).2.2]
  · rw [if_neg h0, if_neg h0]
theorem Coll.pos (h : Coll S S' fr L Y now) {x : Int} (hx : x ∈ S.begs) : 0 ≤ posL L Y x ∧ posL L Y x < S.a.length ∧ posL L Y x ∈ begsL (spotsL S'.a) := by
  have hC := cleaned_of h.is
  have h1 : posL L Y x ∈ now := by rw [h.is.now]; exact List.mem_map.2 ⟨x, hx, rfl⟩
  have h2 := hC.alive _ (List.mem_append_left _ h1)
  have h3 := begs_lt hC.laid.check h2
  have h4 := hC.laid.len
  exact ⟨h3.1, by omega, h2⟩
theorem Coll.pinned (h : Coll S S' fr L Y now) {y : Rn} (hy : y ∈ S.p) : posL L Y y.loc = y.loc := (cleaned_of h.is).pin _ (List.mem_map.2 ⟨y, hy, rfl⟩)
theorem filter_phi {φ : Int → Int} : ∀ {r : List Int}, (∀ v ∈ r, 0 ≤ v → 0 ≤ φ v) → (r.map (phiV φ)).filter (fun v => decide (0 ≤ v)) = (r.filter (fun v => decide (0 ≤ v))).map φ
  | [], _ => rfl
  | v :: r, h => by
    have ih := filter_phi (φ := φ) (r := r) (fun v hv => h v (List.mem_cons_of_mem _ hv))
    by_cases h0 : 0 ≤ v
    · have h1 := h v List.mem_cons_self h0
      rw [List.map_cons, show phiV φ v = φ v from if_pos h0, List.filter_cons_of_pos (by simpa using h1), List.filter_cons_of_pos (by simpa using h0), List.map_cons, ih]
    · rw [List.map_cons, show phiV φ v = v from if_neg h0, List.filter_cons_of_neg (by simpa using h0), List.filter_cons_of_neg (by simpa using h0), ih]
theorem phiS_opn (φ : Int → Int) (s : Slot) : (phiS φ s).opn = s.opn := by
  unfold phiS
  by_cases h : s.opn = true
  · rw [if_pos h]; exact h.symm
  · rw [if_neg h]
theorem open_phi {φ : Int → Int} : ∀ (l : List Slot), openL (l.map (phiS φ)) = (openL l).map φ
  | [] => rfl
  | s :: l => by
    have ih := open_phi (φ := φ) l
    unfold openL at ih ⊢
    by_cases h : s.opn = true
    · rw [List.map_cons, List.filter_cons_of_pos (by rw [phiS_opn]; exact h), List.filter_cons_of_pos h, List.map_cons, List.map_cons, List.map_cons, ih]
      rw [show (phiS φ s).loc = φ s.loc by unfold phiS; rw [if_pos h]]
    · rw [List.map_cons, List.filter_cons_of_neg (by rw [phiS_opn]; exact h), List.filter_cons_of_neg h, ih]
theorem Coll.rooted (h : Coll S S' fr L Y now) (hS : StOk S) : rootedL S' = (rootedL S).map (posL L Y) := by
  unfold rootedL
  rw [h.r' hS, h.l' hS, h.p, List.map_append (f := posL L Y), List.map_append (f := posL L Y), filter_phi (fun v hv h0 => (h.pos (root_at hv h0)).1), open_phi]
  congr 1
  conv => lhs; rw [← List.map_id (pinsL S.p)]
  exact List.map_congr_left (fun x hx => ((cleaned_of h.is).pin x hx).symm)
theorem Coll.begs' (h : Coll S S' fr L Y now) (hS : StOk S) {x : Int} : x ∈ S'.begs ↔ x ∈ now := by
  rw [rooted_begs, h.rooted hS, h.is.now, List.mem_map, List.mem_map]
  simp only [rooted_begs]
theorem slotE_loc {s : Slot} {x : Int} (h : slotE s = 0) (ho : s.opn = true) (hx : 0 ≤ x ∧ x < 256) : slotE ⟨s.gen, true, x⟩ = 0 := by
  obtain ⟨g, o, y⟩ := s
  subst ho
  unfold slotE at h ⊢
  simp only at h ⊢
  split at h
  · cases h
  · rename_i h1
    rw [if_neg (by omega)]
    split at h
    · cases h
    · rename_i h2
      rw [if_neg (by simp at h2 ⊢; omega)]
theorem Coll.ok (h : Coll S S' fr L Y now) (hS : StOk S) : StOk S' := by
  have hC := cleaned_of h.is
  have hlen := hC.laid.len
  have h256 := hC.len256
  refine ⟨hC.laid.check, ?_, ?_, ?_, ?_⟩
  · obtain ⟨e1, e2, e3, e4⟩ := rootE_ok hS.roots
    refine rootE_of (by omega) (by omega) (by rw [h.r, List.length_map]; exact e3) ?_
    intro v hv
    rw [h.r' hS] at hv
    obtain ⟨u, hu, rfl⟩ := List.mem_map.1 hv
    have h1 := e4 u hu
    unfold phiV
    by_cases h0 : 0 ≤ u
    · rw [if_pos h0]
      have := h.pos (root_at hu h0)
      omega
    · rw [if_neg h0]
      omega
  · rw [h.p]; exact hS.pins
  · obtain ⟨e1, e2⟩ := handE_ok.1 hS.hands
    refine handE_ok.2 ⟨by rw [h.l, List.length_map]; exact e1, ?_⟩
    intro s hs
    rw [h.l' hS] at hs
    obtain ⟨u, hu, rfl⟩ := List.mem_map.1 hs
    have h1 := e2 u hu
    unfold phiS
    by_cases h0 : u.opn = true
    · rw [if_pos h0]
      have := h.pos (open_at hu h0)
      exact slotE_loc h1 h0 (by omega)
    · rw [if_neg h0]
      exact h1
  · intro x hx
    have h1 : x ∈ now := (h.begs' hS).1 hx
    exact hC.alive x (List.mem_append_left _ h1)
theorem Coll.unique (h : Coll S S' fr L Y now) (h2 : Coll S S2 fr2 L2 Y2 now2) : S2 = S' ∧ fr2 = fr := by
  have hL : L2 = L := Reached.unique h2.is.reached h.is.reached
  subst hL
  have hY : Y2 = Y := by rw [h2.is.y, h.is.y]
  subst hY
  have hn : now2 = now := by rw [h2.is.now, h.is.now]
  subst hn
  have hb : S2.a = S'.a := by rw [h2.is.b, h.is.b]
  obtain ⟨a, r, p, l⟩ := S'
  obtain ⟨a2, r2, p2, l2⟩ := S2
  have e1 := h.r; have e2 := h2.r; have e3 := h.p; have e4 := h2.p; have e5 := h.l; have e6 := h2.l; have e7 := h.fr; have e8 := h2.fr
  simp only at hb e1 e2 e3 e4 e5 e6 e7 e8
  subst hb e3 e4 e7 e8
  rw [e1, e2, e5, e6]
  exact ⟨rfl, rfl⟩
theorem Coll.again (h : Coll S S' fr L Y now) (hS : StOk S) (h2 : Coll S' S2 fr2 L2 Y2 now2) : S2 = S' ∧ fr2 = fr := by
  have hC := cleaned_of h.is
  have hb : S'.begs = now := by
    have hn : now.Pairwise (fun x y => x < y) := by
      obtain ⟨hK, -⟩ := kept_of h.is.longs
      have hP := hC.plan
      have hYs : Y.Pairwise (· < ·) := by
        rw [h.is.y]
        exact slid_pairwise _ L _ 0 hK (fun x hx => hP.nn2 x (List.mem_of_getElem? hx))
      rw [h.is.now, List.pairwise_map]
      refine List.Pairwise.imp_of_mem ?_ (fromL_strict S.r S.l S.p)
      intro x x' hx hx' hlt
      obtain ⟨j, y, hj, hy, e⟩ := posL_ex hP.nodup hP.len (h.is.reached.roots x (List.mem_append_left _ hx))
      obtain ⟨j', y', hj', hy', e'⟩ := posL_ex hP.nodup hP.len (h.is.reached.roots x' (List.mem_append_left _ hx'))
      rw [e, e']
      obtain ⟨q1, rfl⟩ := List.getElem?_eq_some_iff.1 hj
      obtain ⟨q2, rfl⟩ := List.getElem?_eq_some_iff.1 hj'
      obtain ⟨q3, rfl⟩ := List.getElem?_eq_some_iff.1 hy
      obtain ⟨q4, rfl⟩ := List.getElem?_eq_some_iff.1 hy'
      refine List.pairwise_iff_getElem.1 hYs j j' q3 q4 ?_
      rcases Nat.lt_trichotomy j j' with g | g | g
      · exact g
      · subst g; omega
      · have := List.pairwise_iff_getElem.1 h.is.reached.sorted j' j q2 q1 g
        omega
    refine sorted_unique ((fromL_strict _ _ _).imp (fun h => by omega)) (fromL_nodup _ _ _) (hn.imp (fun h => by omega)) ?_ (fun x => h.begs' hS)
    rw [List.nodup_iff_pairwise_ne]
    exact hn.imp (fun h => by omega)
  have hI := h2.is
  rw [hb, h.p] at hI
  obtain ⟨-, hag⟩ := hC.again h.is
  obtain ⟨e1, e2, e3, e4⟩ := hag _ _ _ _ hI
  have hS' := h.ok hS
  have hid : ∀ x ∈ S'.begs, posL L2 Y2 x = x := by
    intro x hx
    have h1 := hI.reached.roots x (List.mem_append_left _ (by rw [← hb]; exact hx))
    obtain ⟨j, y, hj, hy, e⟩ := posL_ex (planned_of hI.longs).nodup (show Y2.length = L2.length by rw [e1, e2]) h1
    rw [e1] at hj
    rw [e2] at hy
    rw [e]
    exact Option.some.inj (hy.symm.trans hj)
  obtain ⟨a2, r2, p2, l2⟩ := S2
  obtain ⟨a1, r1, p1, l1⟩ := S'
  have g1 := h2.r' hS'
  have g2 := h2.l' hS'
  have g3 := h2.p
  have g4 := h2.fr
  have g5 := h.fr
  simp only at e3 g1 g2 g3 g4 g5
  subst e3 g3
  have f1 : r2 = r1 := by
    rw [g1]
    conv => rhs; rw [← List.map_id r1]
    refine List.map_congr_left (fun v hv => ?_)
    unfold phiV
    by_cases h0 : 0 ≤ v
    · rw [if_pos h0, hid v (root_at hv h0)]; rfl
    · rw [if_neg h0]; rfl
  have f2 : l2 = l1 := by
    rw [g2]
    conv => rhs; rw [← List.map_id l1]
    refine List.map_congr_left (fun s hs => ?_)
    unfold phiS
    by_cases h0 : s.opn = true
    · rw [if_pos h0, hid _ (open_at hs h0)]
      obtain ⟨g, o, y⟩ := s
      simp only at h0
      subst h0
      rfl
    · rw [if_neg h0]; rfl
  subst f1 f2
  exact ⟨rfl, by rw [g4, g5]⟩
theorem Coll.alike (h : Coll S S' fr L Y now) (hS : StOk S) {os os' : List Ob} {fo fo' : List Int} (h1 : FormIs S.a (rootedL S) os fo) (h2 : FormIs S'.a (rootedL S') os' fo') : os = os' ∧ fo = fo' := by
  have hC := cleaned_of h.is
  rw [h.rooted hS] at h2
  exact form_iso hC.laid.iso hC.closed (fun x hx => h.is.reached.roots x (List.mem_append_left _ (rooted_begs.2 hx))) h1 h2
end
end Go.Proofs.Ytgkoaambdejkdaa

namespace Go.Proofs.Ytgkoaambdejkdaa
open Go.RowKit
structure StR (w : World) (B : Nat) (A : Option Addr) (n : Nat) (RA : Option Addr) (rn : Nat) (PA : Option Addr) (pn : Nat) (HA : Option Addr) (hn : Nat) (S : St) : Prop where
  a : Reads w B 1 A n (S.a.map (.int .u64))
  r : Reads w B 1 RA rn (S.r.map (.int .i64))
  p : Reads w B 2 PA pn (runsC S.p)
  l : Reads w B 3 HA hn (slotsC S.l)
structure StK (n c rn pn hn : Nat) (S : St) : Prop where
  cap : n ≤ c
  max : c ≤ maxLen
  wf : ∀ x ∈ S.a, (Lit.int .u64 x).wf = true
  rn : rn ≤ 9223372036854775807
  pn : pn ≤ 9223372036854775807
  hn : hn ≤ 9223372036854775807
section
variable {w w' : World} {B n c rn rc pn pc hn hc : Nat} {A RA PA HA : Option Addr} {S : St}
theorem StR.below (h : StR w B A n RA rn PA pn HA hn S) (hb : Below B w w') : StR w' B A n RA rn PA pn HA hn S := ⟨h.a.below hb, h.r.below hb, h.p.below hb, h.l.below hb⟩
theorem StR.more {B' : Nat} (h : StR w B A n RA rn PA pn HA hn S) (hB : B ≤ B') : StR w B' A n RA rn PA pn HA hn S := ⟨h.a.more hB, h.r.more hB, h.p.more hB, h.l.more hB⟩
theorem StR.drew (h : StR w B A n RA rn PA pn HA hn S) : StR w.drew B A n RA rn PA pn HA hn S := ⟨h.a.drew, h.r.drew, h.p.drew, h.l.drew⟩
theorem StR.lens (h : StR w B A n RA rn PA pn HA hn S) : S.a.length = n ∧ S.r.length = rn ∧ S.p.length = pn ∧ S.l.length = hn := by
  refine ⟨by have := h.a.1; simpa using this, by have := h.r.1; simpa using this, ?_, ?_⟩
  · have := h.p.1; rw [runsC_length] at this; omega
  · have := h.l.1; rw [slotsC_length] at this; omega
theorem own_max {base size k d : Nat} {e : TypeId} {xs : List Value} (h : w.ownsRow base e size (.slice A k d) k xs) : d ≤ maxLen := by
  rcases h.2 with ⟨h, _⟩ | ⟨g, cap, cur, h, _, _, _, h4, _⟩
  · injection h with _ _ h3
    subst h3
    exact Nat.zero_le _
  · injection h with _ _ h3
    subst h3
    exact h4
theorem own_block4 {base e size k g : Nat} {v : Value} {xs : List Value} {t : TypeId} {cs : Array Value} (h : w.ownsRow base e size v k xs) (hB : Blk w g t cs) (hne : e ≠ t) (x0 x1 x2 x3 : Value) :
    ((((w.setCell ⟨g, 0, none⟩ x0).setCell ⟨g, 1, none⟩ x1).setCell ⟨g, 2, none⟩ x2).setCell ⟨g, 3, none⟩ x3).ownsRow base e size v k xs := by
  have hn := own_blk h hB hne
  exact own_apart (own_apart (own_apart (own_apart h (p := ⟨g, 0, none⟩) hn _) (p := ⟨g, 1, none⟩) hn _) (p := ⟨g, 2, none⟩) hn _) (p := ⟨g, 3, none⟩) hn _
theorem below_block4 {base g : Nat} {w0 : World} (h : Below base w0 w) (hg : base ≤ g) (x0 x1 x2 x3 : Value) :
    Below base w0 ((((w.setCell ⟨g, 0, none⟩ x0).setCell ⟨g, 1, none⟩ x1).setCell ⟨g, 2, none⟩ x2).setCell ⟨g, 3, none⟩ x3) :=
  (((h.setCell (p := ⟨g, 0, none⟩) hg _).setCell (p := ⟨g, 1, none⟩) hg _).setCell (p := ⟨g, 2, none⟩) hg _).setCell (p := ⟨g, 3, none⟩) hg _
end
end Go.Proofs.Ytgkoaambdejkdaa
