/-
  Texts joined: SameOb WalksTrue Law LawElems LawNums LawObs.
-/
import Derived.Test.YtammailnbgojgabRows
import Derived.ProofKit
import Derived.Deep.Slices
import Derived.Lib.SmallJoins
import Derived.SizedLaws
import Derived.Deep.Strs
import Derived.Test.YtammailnbgojgabG0
import Derived.Test.YtammailnbgojgabG2
import Derived.Test.YtammailnbgojgabG4
import Derived.Test.YtammailnbgojgabG6
/-
  The laws' sameObject.
-/
namespace Go.Proofs.Ytammailnbgojgab
open Go.RowKit

set_option maxRecDepth 100000 in
set_option maxHeartbeats 1000000 in
theorem sameOb_any (o1 o2 : Ob) (v1 v2 : ObV) (w : World) (h1 : ObR w w.heap.size o1 v1) (h2 : ObR w w.heap.size o2 v2) (hn1 : v1.n1 ≤ 1000000 ∧ v1.n2 ≤ 1000000) (hn2' : v2.n1 ≤ 1000000 ∧ v2.n2 ≤ 1000000) :
    Calls Try.prog 15 #[.agg #[.int .i64 v1.t, .slice v1.A1 v1.n1 v1.c1, .slice v1.A2 v1.n2 v1.c2, .bool v1.f], .agg #[.int .i64 v2.t, .slice v2.A1 v2.n1 v2.c1, .slice v2.A2 v2.n2 v2.c2, .bool v2.f]] w fun e w' => e = .returned (.bool (decide (o1 = o2))) ∧ Below w.heap.size w w' := by
  obtain ⟨a1, a2, -, -, -, -, a7, a8⟩ := h1
  obtain ⟨b1, b2, -, -, -, -, b7, b8⟩ := h2
  obtain ⟨t1, A1, n1, c1, A2, n2, c2, f1⟩ := v1
  obtain ⟨t2, B1, m1, d1, B2, m2, d2, f2⟩ := v2
  obtain ⟨s1, r1, y1, g1⟩ := o1
  obtain ⟨s2, r2, y2, g2⟩ := o2
  dsimp only at *
  subst a1 a2 b1 b2
  obtain ⟨hn1, hn2⟩ := hn1
  obtain ⟨hm1, hm2⟩ := hn2'
  have hbw := (below_new w (.cells #[.int .i64 t1, .slice A1 n1 c1, .slice A2 n2 c2, .bool f1] 38)).alloc (by simp) (.cells #[.int .i64 t2, .slice B1 m1 d1, .slice B2 m2 d2, .bool f2] 38)
  have HBW := Lib.hid hbw
  have HI := Lib.hid (fun W (hr : Below w.heap.size w W) => equal_int A1 B1 n1 c1 m1 d1 _ _ r1 r2 W (a7.below hr) (b7.below hr) (by omega) (by omega))
  have HU := Lib.hid (fun W (hr : Below w.heap.size w W) => equal_u64 A2 B2 n2 c2 m2 d2 _ _ y1 y2 W (a8.below hr) (b8.below hr) (by omega) (by omega))
  clear a7 a8 b7 b8 hbw hn1 hn2 hm1 hm2
  by_cases e1 : t1 = t2
  · subst e1
    by_cases e2 : f1 = f2
    · subst e2
      by_cases e3 : r1 = r2
      · have HE3 : Hid (decide (r1 = r2) = true) := decide_eq_true e3
        by_cases e4 : y1 = y2
        · have HE4 : Hid (decide (y1 = y2) = true) := decide_eq_true e4
          have HD : Hid (decide ((⟨t1, r1, y1, f1⟩ : Ob) = ⟨t1, r2, y2, f1⟩) = true) := by show _ = _; rw [e3, e4]; exact decide_eq_true rfl
          clear e3 e4
          go_enter Try.func15, Try.ntmps15
          go_wp2_with fail
          refine (HI.out _ HBW.out).mono ?_
          rw [HE3.out]
          rintro e w1 ⟨rfl, q, rfl⟩
          go_wp2_with fail
          refine (HU.out _ (below_drewN HBW.out q)).mono ?_
          rw [HE4.out]
          rintro e w1 ⟨rfl, q2, rfl⟩
          go_wp2
          go_ret
          exact ⟨by rw [HD.out]; rfl, below_drewN HBW.out _⟩
        · have HE4 : Hid (decide (y1 = y2) = false) := decide_eq_false e4
          have HD : Hid (decide ((⟨t1, r1, y1, f1⟩ : Ob) = ⟨t1, r2, y2, f1⟩) = false) := by show _ = _; rw [decide_eq_false]; intro h; injection h with _ _ h _; exact e4 h
          clear e3 e4
          go_enter Try.func15, Try.ntmps15
          go_wp2_with fail
          refine (HI.out _ HBW.out).mono ?_
          rw [HE3.out]
          rintro e w1 ⟨rfl, q, rfl⟩
          go_wp2_with fail
          refine (HU.out _ (below_drewN HBW.out q)).mono ?_
          rw [HE4.out]
          rintro e w1 ⟨rfl, q2, rfl⟩
          go_wp2
          go_ret
          exact ⟨by rw [HD.out]; rfl, below_drewN HBW.out _⟩
      · have HE3 : Hid (decide (r1 = r2) = false) := decide_eq_false e3
        have HD : Hid (decide ((⟨t1, r1, y1, f1⟩ : Ob) = ⟨t1, r2, y2, f1⟩) = false) := by show _ = _; rw [decide_eq_false]; intro h; injection h with _ h _ _; exact e3 h
        clear e3
        go_enter Try.func15, Try.ntmps15
        go_wp2_with fail
        refine (HI.out _ HBW.out).mono ?_
        rw [HE3.out]
        rintro e w1 ⟨rfl, q, rfl⟩
        go_wp2
        go_ret
        exact ⟨by rw [HD.out]; rfl, below_drewN HBW.out q⟩
    · have HD : Hid (decide ((⟨t1, r1, y1, f1⟩ : Ob) = ⟨t1, r2, y2, f2⟩) = false) := by show _ = _; rw [decide_eq_false]; intro h; injection h with _ _ _ h; exact e2 h
      have e2' : (f1 == f2) = false := by simpa using e2
      clear e2
      go_enter Try.func15, Try.ntmps15
      go_wp2
      go_ret
      exact ⟨by rw [HD.out]; rfl, HBW.out⟩
  · have HD : Hid (decide ((⟨t1, r1, y1, f1⟩ : Ob) = ⟨t2, r2, y2, f2⟩) = false) := by show _ = _; rw [decide_eq_false]; intro h; injection h with h; exact e1 h
    have e1' : (t1 == t2) = false := by simpa using e1
    clear e1
    go_enter Try.func15, Try.ntmps15
    go_wp2
    go_ret
    exact ⟨by rw [HD.out]; rfl, HBW.out⟩
end Go.Proofs.Ytammailnbgojgab

/-
  The laws' closed fact 'walks': it answers true.
-/
namespace Go.Proofs.Ytammailnbgojgab
open Go.RowKit

set_option maxHeartbeats 400000 in
theorem small_any (w : World) : Calls Try.prog 48 #[] w fun e w' => e = .returned (.slice (some ⟨w.heap.size, 0, none⟩) 2 2) ∧ w' = w.alloc (.cells #[.int .u64 1, .int .u64 1] 47) := by
  go_enter Try.func48, Try.ntmps48
  go_wp2
  go_ret
  exact ⟨rfl, rfl⟩

theorem small_reads (w : World) : Reads (w.alloc (.cells #[.int .u64 1, .int .u64 1] 47)) (w.alloc (.cells #[.int .u64 1, .int .u64 1] 47)).heap.size 1 (some ⟨w.heap.size, 0, none⟩) 2 ([1, 1].map (.int .u64)) := by
  have := reads_new w ([1, 1].map (.int .u64)) 47 2 1 rfl
  simpa using this
theorem small_wf : ∀ x ∈ ([1, 1] : List Int), (Lit.int .u64 x).wf = true := by decide
theorem small_spots : spotsE [1, 1] = 0 ∧ spotsL [1, 1] = [⟨0, 1, 0, 0, false⟩] := by decide

set_option maxHeartbeats 400000 in
theorem walks_true (w : World) : Calls Try.prog 17 #[] w fun e w' => e = .returned (.bool true) ∧ Below w.heap.size w w' := by
  have H := Lib.hid (spots_any _ 2 2 [1, 1] _ (small_reads w) small_wf)
  go_enter Try.func17, Try.ntmps17
  go_wp2_with (go_at_call 48; refine (small_any _).mono ?_; rintro e w1 ⟨rfl, rfl⟩)
  go_wp2_with fail
  refine H.out.mono ?_
  rw [small_spots.1, small_spots.2]
  rintro e w2 ⟨hb, A', c', rfl, hown⟩
  obtain ⟨g, cap, hv, hg, -⟩ := hown.form (by decide)
  obtain ⟨rfl, rfl⟩ : A' = some ⟨g, 0, none⟩ ∧ c' = cap := by simpa using hv
  have hc := hown.cellAt 1 (by decide)
  simp [spotsC, spotC] at hc
  clear hown hv
  go_wp2
  go_ret
  exact ⟨rfl, (below_new _ _).trans (hb.mono (by simp))⟩
end Go.Proofs.Ytammailnbgojgab

/-
  What every law's row shares: the end of a call that changed nothing, and the opening of its arguments.
-/
namespace Go.Proofs.Ytammailnbgojgab
open Go.ChangeShapes Go.WideShapes Go.ChangeAt Go.RowKit

theorem trodAll_below {H : Type} {enc : TypeId × Value → H} {P : Program} (hl : laidOutB P = true) {W W' : World} (hb : Below W.heap.size W W') :
    ∀ {ts : List TypeId} {vs : List Value} {ds : List (DataW H)} {ps : List MemPlace}, ts.all (fun t => P.readableRec t && decide (t < P.types.size)) = true →
      (∀ x ∈ ps, x.block < W.heap.size) → DataW.TrodAll enc P W 0 (fun _ => true) true ts vs ds ps → DataW.TrodAll enc P W' 0 (fun b => decide (b < W.heap.size)) true ts vs ds ps
  | [], [], [], _, _, _, h => h
  | t :: ts, v :: vs, d :: ds, ps, hr, hlt, h => by
    obtain ⟨p, q, h1, h2, rfl⟩ := h
    simp only [List.all_cons, Bool.and_eq_true, decide_eq_true_eq] at hr
    exact ⟨p, q, Below.trod hl hr.1.1 hr.1.2 h1 hb (fun x hx => hlt x (List.mem_append_left _ hx)), trodAll_below hl hb hr.2 (fun x hx => hlt x (List.mem_append_right _ hx)) h2, rfl⟩
  | [], _ :: _, _, _, _, _, h => h.elim
  | [], [], _ :: _, _, _, _, h => h.elim
  | _ :: _, [], _, _, _, _, h => h.elim
  | _ :: _, _ :: _, [], _, _, _, h => h.elim

/-- THE END OF A LAW: it answered true, and below the old heap's end nothing has changed. -/
theorem law_post {H : Type} {enc : TypeId × Value → H} {P : Program} {f : Func} {s : ChangeSpec} {tb : TypeId} {W W' : World} {args : Array Value} {ds gs : List (DataW H)} {before : List MemPlace}
    (hl : laidOutB P = true) (hu : P.underlying tb = some .bool) (hrt : f.resultTypes = #[tb]) (hts : f.params.toList.all (fun t => P.readableRec t && decide (t < P.types.size)) = true)
    (hv : s.vars = []) (hfn : s.fn H ds = { results := [.lit (.bool true)], args := ds })
    (hW : DataW.Whole enc P f.params.toList s.vars false W args.toList ds gs before) (hb : Below W.heap.size W W') :
    s.post enc P f false true false false W args (.bool true) W' := by
  have hW' := hW
  obtain ⟨p, q, hA, hV, rfl, hz, hn⟩ := hW
  rw [hv] at hV
  obtain ⟨rfl, rfl⟩ := trodVars_none hV
  refine ⟨ds, [], _, [], p, [], hW', ?_, ?_, ?_, hb.frame _, fun h => by cases h⟩
  · rw [List.append_nil, hfn, hrt]
    exact trodAll_mk1 (shut_bool hu true)
  · rw [List.append_nil, hfn]
    exact trodAll_below hl hb hts (fun x hx => hW'.lt x (List.mem_append_left _ hx)) hA
  · rw [hv, List.append_nil, hfn]
    rfl

theorem b64 {x : Int} (h : (Lit.int .i64 x).wf = true) : -9223372036854775808 ≤ x ∧ x ≤ 9223372036854775807 := by
  simpa [Lit.wf, IntKind.min, IntKind.max, IntKind.signed, IntKind.bits] using h
theorem bu64 {x : Int} (h : (Lit.int .u64 x).wf = true) : 0 ≤ x ∧ x ≤ 18446744073709551615 := by
  simpa [Lit.wf, IntKind.min, IntKind.max, IntKind.signed, IntKind.bits] using h

/-- A slice of numbers, as an argument. -/
theorem open_nums {H : Type} {enc : TypeId × Value → H} {P : Program} {t e : TypeId} {k : IntKind} {W : World} {r : Reach} {base : Nat} {sp : Nat → Bool} {v : Value} {d : DataW H} {ps : List MemPlace} (ht : P.underlying t = some (.slice e)) (he : P.underlying e = some (.int k)) (hc : P.cellsOf e = 1)
    (hval : Value.okWide P W r base t v) (hlt : ∀ x ∈ ps, x.block < W.heap.size) (h : DataW.Trod enc P W 0 sp true t v d ps) :
    ∃ (A : Option Addr) (n c : Nat) (xs : List Int), v = .slice A n c ∧ n ≤ c ∧ c ≤ maxLen ∧ Reads W W.heap.size 1 A n (xs.map (.int k)) ∧ (∀ x ∈ xs, (Lit.int k x).wf = true) := by
  obtain ⟨a0, len0, cap0, rfl⟩ := okWide_slice ht hval
  obtain ⟨fuel, hf⟩ := h
  rcases open_ints ht he hc hf with ⟨hcs, hx⟩ | ⟨a, len, cap, zs, hcs, hb, hlc, hm, hzl, hx, hcell, hwf⟩
  · simp [Value.cells] at hcs
    obtain ⟨rfl, rfl, rfl⟩ := hcs
    exact ⟨none, 0, 0, [], rfl, Nat.le_refl _, Nat.zero_le _, Reads.none_, fun x hx => by cases hx⟩
  · simp [Value.cells] at hcs
    obtain ⟨rfl, rfl, rfl⟩ := hcs
    simp only [Prod.mk.injEq] at hx
    obtain ⟨rfl, rfl⟩ := hx
    have hlz : len0 ≤ zs.length := by rw [hzl]; split <;> omega
    refine ⟨some a, len0, cap0, zs.take len0, rfl, hlc, hm, ⟨by simp; omega, fun hn => ⟨a, rfl, ?_, fun j u hu => ?_⟩⟩, fun x hx => hwf x (List.mem_of_mem_take hx)⟩
    · have := hlt (.cell a.block (a.off + 0)) (by
        unfold MemPlace.row
        exact List.mem_map.2 ⟨0, List.mem_range.2 (by omega), rfl⟩)
      exact this
    · have hj : j < len0 := by
        have := (List.getElem?_eq_some_iff.1 hu).1
        simp at this; omega
      rw [hcell j (by omega)]
      rw [List.getElem?_map, List.getElem?_take, if_pos hj, List.getElem?_eq_getElem (by omega)] at hu
      rw [← hu, List.getD_eq_getElem?_getD, List.getElem?_eq_getElem (by omega)]
      rfl
end Go.Proofs.Ytammailnbgojgab

/-
  Opening a slice of structs that came in: elements of k cells each.
-/
namespace Go.Proofs.Ytammailnbgojgab
open Go.ChangeShapes Go.WideShapes Go.ChangeAt Go.RowKit Go.Joins Go.Deep

theorem open_elems2 {α : Type} [Inhabited α] (f : α → List Value) (k : Nat) (hk0 : 0 < k) (hf : ∀ a, (f a).length = k) {H : Type} {enc : TypeId × Value → H} {P : Program} {t e : TypeId} {W : World} {r : Reach} {base : Nat} {sp : Nat → Bool} {v : Value} {d : DataW H} {ps : List MemPlace}
    (ht : P.underlying t = some (.slice e)) (hc : P.cellsOf e = k) (hel : ∀ n cs y, DataW.trod enc P W 0 sp true n e cs = some y → ∃ a, cs = f a)
    (hval : Value.okWide P W r base t v) (hlt : ∀ x ∈ ps, x.block < W.heap.size) (h : DataW.Trod enc P W 0 sp true t v d ps) :
    ∃ (A : Option Addr) (n c : Nat) (l : List α), v = .slice A n c ∧ n ≤ c ∧ c ≤ maxLen ∧ Reads W W.heap.size k A n (l.flatMap f) ∧ l.length = n ∧ (n = 0 ∨ ∃ D E, d = .slice D E ∧ D.length = n) := by
  obtain ⟨a0, len0, cap0, rfl⟩ := okWide_slice ht hval
  obtain ⟨fuel, hf'⟩ := h
  rcases open_slice ht hf' with ⟨hcs, hx⟩ | ⟨a, len, cap, m, n, D, Pl, hcs, hb, hlc, hm, hmm, hx, hcell⟩
  · simp [Value.cells] at hcs
    obtain ⟨rfl, rfl, rfl⟩ := hcs
    exact ⟨none, 0, 0, [], rfl, Nat.le_refl _, Nat.zero_le _, Reads.none_, rfl, .inl rfl⟩
  · simp [Value.cells] at hcs
    obtain ⟨rfl, rfl, rfl⟩ := hcs
    simp only [Prod.mk.injEq] at hx
    obtain ⟨rfl, rfl⟩ := hx
    have hlm : len0 ≤ m := by rw [hmm]; split <;> omega
    rw [hc] at hcell hlt
    obtain ⟨V, hV⟩ := choose_lt (α := α) (p := fun i x => W.cells? 0 (a.add (i * k)) k = some (f x)) (fun i hi => by
      obtain ⟨cs', h1, h2⟩ := hcell i hi
      obtain ⟨x, rfl⟩ := hel _ _ _ h2
      exact ⟨x, h1⟩)
    refine ⟨some a, len0, cap0, (List.range len0).map V, rfl, hlc, hm, ⟨by rw [flat_length f k hf]; simp, fun hn => ⟨a, rfl, ?_, fun j u hu => ?_⟩⟩, by simp, .inr ⟨_, _, rfl, by simp⟩⟩
    · have := hlt (.cell a.block (a.off + 0)) (List.mem_append_left _ (by
        unfold MemPlace.row
        refine List.mem_map.2 ⟨0, List.mem_range.2 ?_, rfl⟩
        exact Nat.mul_pos (by omega) hk0))
      exact this
    · have hj : j < len0 * k := by
        have := (List.getElem?_eq_some_iff.1 hu).1
        rw [flat_length f k hf] at this
        simpa using this
      have hq : j / k < len0 := Nat.div_lt_of_lt_mul (by rw [Nat.mul_comm]; exact hj)
      have hr : j % k < k := Nat.mod_lt _ hk0
      have hjd : j / k * k + j % k = j := by rw [Nat.mul_comm]; exact Nat.div_add_mod j k
      rw [← hjd, flat_at f k hf _ _ _ (by simpa using hq) hr] at hu
      simp only [List.getElem_map, List.getElem_range] at hu
      have := (World.cells?_some (hV (j / k) (by omega))).2.2 (j % k) hr
      rw [add_of_add, hjd] at this
      rw [this]
      exact hu

theorem open_elems {α : Type} [Inhabited α] (f : α → List Value) (k : Nat) (hk0 : 0 < k) (hf : ∀ a, (f a).length = k) {H : Type} {enc : TypeId × Value → H} {P : Program} {t e : TypeId} {W : World} {r : Reach} {base : Nat} {sp : Nat → Bool} {v : Value} {d : DataW H} {ps : List MemPlace}
    (ht : P.underlying t = some (.slice e)) (hc : P.cellsOf e = k) (hel : ∀ n cs y, DataW.trod enc P W 0 sp true n e cs = some y → ∃ a, cs = f a)
    (hval : Value.okWide P W r base t v) (hlt : ∀ x ∈ ps, x.block < W.heap.size) (h : DataW.Trod enc P W 0 sp true t v d ps) :
    ∃ (A : Option Addr) (n c : Nat) (l : List α), v = .slice A n c ∧ n ≤ c ∧ c ≤ maxLen ∧ Reads W W.heap.size k A n (l.flatMap f) ∧ l.length = n := by
  obtain ⟨A, n, c, l, h1, h2, h3, h4, h5, _⟩ := open_elems2 f k hk0 hf ht hc hel hval hlt h
  exact ⟨A, n, c, l, h1, h2, h3, h4, h5⟩

theorem trod_struct2 {H : Type} {enc : TypeId × Value → H} {P : Program} {w : World} {base : Nat} {spare : Nat → Bool} {held : Bool} {t : TypeId} {f0 f1 : Field} {fuel : Nat} {cs : List Value} {x : DataW H × List MemPlace} (ht : P.underlying t = some (.struct #[f0, f1])) (h : DataW.trod enc P w base spare held fuel t cs = some x) :
    ∃ y0 y1 n, x = (.agg [y0.1, y1.1], y0.2 ++ y1.2) ∧ cs.length = P.cellsOf t ∧ DataW.trod enc P w base spare held n f0.type ((cs.drop f0.offset).take (P.cellsOf f0.type)) = some y0 ∧
      DataW.trod enc P w base spare held n f1.type ((cs.drop f1.offset).take (P.cellsOf f1.type)) = some y1 := by
  obtain ⟨xs, n, _, rfl, hl, hlen, hf⟩ := DataW.trod_struct ht h
  match xs, hlen with
  | [y0, y1], _ => exact ⟨y0, y1, n, by simp, hl, by simpa using hf 0 _ rfl, by simpa using hf 1 _ rfl⟩
end Go.Proofs.Ytammailnbgojgab

/-
  Opening a slice of numbers that came in, with its reach.
-/
namespace Go.Proofs.Ytammailnbgojgab
open Go.ChangeShapes Go.WideShapes Go.ChangeAt Go.RowKit

theorem k_int_bytes : Try.prog.bytesOf 3 = 8 := by kernel_rfl
theorem open_nums2 {H : Type} {enc : TypeId × Value → H} {P : Program} {t e : TypeId} {k : IntKind} {W : World} {r : Reach} {base : Nat} {sp : Nat → Bool} {v : Value} {d : DataW H} {ps : List MemPlace} (ht : P.underlying t = some (.slice e)) (he : P.underlying e = some (.int k)) (hc : P.cellsOf e = 1)
    (hval : Value.okWide P W r base t v) (hlt : ∀ x ∈ ps, x.block < W.heap.size) (h : DataW.Trod enc P W 0 sp true t v d ps) :
    ∃ (A : Option Addr) (n c : Nat) (xs : List Int), v = .slice A n c ∧ n ≤ c ∧ c ≤ maxLen ∧ Reads W W.heap.size 1 A n (xs.map (.int k)) ∧ (∀ x ∈ xs, (Lit.int k x).wf = true) ∧ (n = 0 ∨ ∃ D E, d = .slice D E ∧ D.length = n) := by
  have hk := open_nums ht he hc hval hlt h
  obtain ⟨A, n, c, xs, h1, h2, h3, h4, h5⟩ := hk
  refine ⟨A, n, c, xs, h1, h2, h3, h4, h5, ?_⟩
  subst h1
  obtain ⟨fuel, hf⟩ := h
  rcases open_ints ht he hc hf with ⟨hcs, hx⟩ | ⟨a, len, cap, zs, hcs, hb, hlc, hm, hzl, hx, hcell, hwf⟩
  · simp [Value.cells] at hcs
    exact .inl hcs.2.1
  · simp [Value.cells] at hcs
    obtain ⟨rfl, rfl, rfl⟩ := hcs
    simp only [Prod.mk.injEq] at hx
    obtain ⟨rfl, rfl⟩ := hx
    have hlz : n ≤ zs.length := by rw [hzl]; split <;> omega
    exact .inr ⟨_, _, rfl, by simp [lits]; omega⟩
end Go.Proofs.Ytammailnbgojgab

/-
  Opening a slice of objects (a tag, a slice of ints, a slice of words, a mark) that came in.
-/
namespace Go.Proofs.Ytammailnbgojgab
open Go.ChangeShapes Go.WideShapes Go.ChangeAt Go.RowKit Go.Joins Go.Deep

instance : Inhabited (Ob × ObV) := ⟨(⟨0, [], [], false⟩, ⟨0, none, 0, 0, none, 0, 0, false⟩)⟩

theorem trod_nums {H : Type} {enc : TypeId × Value → H} {P : Program} {t e : TypeId} {k : IntKind} {W : World} {sp : Nat → Bool} {fuel : Nat} {v : Value} {x : DataW H × List MemPlace} (ht : P.underlying t = some (.slice e)) (he : P.underlying e = some (.int k)) (hc : P.cellsOf e = 1)
    (hlt : ∀ p ∈ x.2, p.block < W.heap.size) (h : DataW.trod enc P W 0 sp true fuel t [v] = some x) :
    ∃ (A : Option Addr) (n c : Nat) (xs : List Int), v = .slice A n c ∧ n ≤ c ∧ c ≤ maxLen ∧ xs.length = n ∧ Reads W W.heap.size 1 A n (xs.map (.int k)) ∧ (∀ x ∈ xs, (Lit.int k x).wf = true) := by
  rcases open_ints ht he hc h with ⟨hcs, hx⟩ | ⟨a, len, cap, zs, hcs, hb, hlc, hm, hzl, hx, hcell, hwf⟩
  · simp at hcs
    subst hcs
    exact ⟨none, 0, 0, [], rfl, Nat.le_refl _, Nat.zero_le _, rfl, Reads.none_, fun x hx => by cases hx⟩
  · simp at hcs
    subst hcs
    subst hx
    have hlz : len ≤ zs.length := by rw [hzl]; split <;> omega
    refine ⟨some a, len, cap, zs.take len, rfl, hlc, hm, by simp; omega, ⟨by simp; omega, fun hn => ⟨a, rfl, ?_, fun j u hu => ?_⟩⟩, fun x hx => hwf x (List.mem_of_mem_take hx)⟩
    · have := hlt (.cell a.block (a.off + 0)) (by
        unfold MemPlace.row
        exact List.mem_map.2 ⟨0, List.mem_range.2 (by omega), rfl⟩)
      exact this
    · have hj : j < len := by
        have := (List.getElem?_eq_some_iff.1 hu).1
        simp at this; omega
      rw [hcell j (by omega)]
      rw [List.getElem?_map, List.getElem?_take, if_pos hj, List.getElem?_eq_getElem (by omega)] at hu
      rw [← hu, List.getD_eq_getElem?_getD, List.getElem?_eq_getElem (by omega)]
      rfl

theorem open_elemsQ {α : Type} [Inhabited α] (f : α → List Value) (Q : α → Prop) (k : Nat) (hk0 : 0 < k) (hf : ∀ a, (f a).length = k) {H : Type} {enc : TypeId × Value → H} {P : Program} {t e : TypeId} {W : World} {r : Reach} {base : Nat} {sp : Nat → Bool} {v : Value} {d : DataW H} {ps : List MemPlace}
    (ht : P.underlying t = some (.slice e)) (hc : P.cellsOf e = k) (hel : ∀ n cs (y : DataW H × List MemPlace), (∀ p ∈ y.2, p.block < W.heap.size) → DataW.trod enc P W 0 sp true n e cs = some y → ∃ a, cs = f a ∧ Q a)
    (hval : Value.okWide P W r base t v) (hlt : ∀ x ∈ ps, x.block < W.heap.size) (h : DataW.Trod enc P W 0 sp true t v d ps) :
    ∃ (A : Option Addr) (n c : Nat) (l : List α), v = .slice A n c ∧ n ≤ c ∧ c ≤ maxLen ∧ Reads W W.heap.size k A n (l.flatMap f) ∧ (∀ a ∈ l, Q a) ∧ l.length = n ∧ (n = 0 ∨ ∃ D E, d = .slice D E ∧ D.length = n) := by
  obtain ⟨a0, len0, cap0, rfl⟩ := okWide_slice ht hval
  obtain ⟨fuel, hf'⟩ := h
  rcases open_slice ht hf' with ⟨hcs, hx⟩ | ⟨a, len, cap, m, n, D, Pl, hcs, hb, hlc, hm, hmm, hx, hcell⟩
  · simp [Value.cells] at hcs
    obtain ⟨rfl, rfl, rfl⟩ := hcs
    exact ⟨none, 0, 0, [], rfl, Nat.le_refl _, Nat.zero_le _, Reads.none_, (fun a ha => by cases ha), rfl, .inl rfl⟩
  · simp [Value.cells] at hcs
    obtain ⟨rfl, rfl, rfl⟩ := hcs
    simp only [Prod.mk.injEq] at hx
    obtain ⟨rfl, rfl⟩ := hx
    have hlm : len0 ≤ m := by rw [hmm]; split <;> omega
    rw [hc] at hcell hlt
    obtain ⟨V, hV⟩ := choose_lt (α := α) (p := fun i x => W.cells? 0 (a.add (i * k)) k = some (f x) ∧ Q x) (fun i hi => by
      obtain ⟨cs', h1, h2⟩ := hcell i hi
      obtain ⟨x, rfl, hq⟩ := hel _ _ _ (fun p hp => hlt p (List.mem_append_right _ (List.mem_flatMap.2 ⟨i, List.mem_range.2 hi, hp⟩))) h2
      exact ⟨x, h1, hq⟩)
    refine ⟨some a, len0, cap0, (List.range len0).map V, rfl, hlc, hm, ⟨by rw [flat_length f k hf]; simp, fun hn => ⟨a, rfl, ?_, fun j u hu => ?_⟩⟩, fun x hx => ?_, by simp, .inr ⟨_, _, rfl, by simp⟩⟩
    · have := hlt (.cell a.block (a.off + 0)) (List.mem_append_left _ (by
        unfold MemPlace.row
        refine List.mem_map.2 ⟨0, List.mem_range.2 ?_, rfl⟩
        exact Nat.mul_pos (by omega) hk0))
      exact this
    · have hj : j < len0 * k := by
        have := (List.getElem?_eq_some_iff.1 hu).1
        rw [flat_length f k hf] at this
        simpa using this
      have hq : j / k < len0 := Nat.div_lt_of_lt_mul (by rw [Nat.mul_comm]; exact hj)
      have hr : j % k < k := Nat.mod_lt _ hk0
      have hjd : j / k * k + j % k = j := by rw [Nat.mul_comm]; exact Nat.div_add_mod j k
      rw [← hjd, flat_at f k hf _ _ _ (by simpa using hq) hr] at hu
      simp only [List.getElem_map, List.getElem_range] at hu
      have := (World.cells?_some (hV (j / k) (by omega)).1).2.2 (j % k) hr
      rw [add_of_add, hjd] at this
      rw [this]
      exact hu
    · obtain ⟨i, hi, rfl⟩ := List.mem_map.1 hx
      exact (hV i (by have := List.mem_range.1 hi; omega)).2

theorem list4b {α : Type} {l : List α} (h : l.length = 4) : ∃ a b c d, l = [a, b, c, d] := by
  match l, h with
  | [a, b, c, d], _ => exact ⟨a, b, c, d, rfl⟩
theorem k_ob_bytes : Try.prog.bytesOf 38 = 64 := by kernel_rfl
def ObIn (W : World) (p : Ob × ObV) : Prop := ObR W W.heap.size p.1 p.2 ∧ (∀ x ∈ p.1.refs, (Lit.int .i64 x).wf = true) ∧ ∀ x ∈ p.1.body, (Lit.int .u64 x).wf = true
set_option maxRecDepth 100000 in
theorem open_obs {H : Type} {enc : TypeId × Value → H} {W : World} {r : Reach} {base : Nat} {sp : Nat → Bool} {v : Value} {d : DataW H} {ps : List MemPlace}
    (hval : Value.okWide Try.prog W r base 25 v) (hlt : ∀ x ∈ ps, x.block < W.heap.size) (h : DataW.Trod enc Try.prog W 0 sp true 25 v d ps) :
    ∃ (A : Option Addr) (n c : Nat) (os : List Ob) (vs : List ObV), v = .slice A n c ∧ n ≤ c ∧ c ≤ maxLen ∧ Reads W W.heap.size 4 A n (vs.flatMap obvC) ∧ ObsR W W.heap.size os vs ∧ (∀ o ∈ os, (∀ x ∈ o.refs, (Lit.int .i64 x).wf = true) ∧ ∀ x ∈ o.body, (Lit.int .u64 x).wf = true) ∧ os.length = n ∧ (n = 0 ∨ ∃ D E, d = .slice D E ∧ D.length = n) := by
  obtain ⟨A, n, c, l, rfl, h2, h3, h4, h5, h6, h7⟩ := open_elemsQ (α := Ob × ObV) (fun p => obvC p.2) (ObIn W) 4 (by decide) (fun _ => rfl) Try.underlying25 (by kernel_rfl) (fun n cs y hy hp => by
    obtain ⟨y0, y1, y2, y3, m, hyy, hl, a0, a1, a2, a3⟩ := trod_struct4 Try.underlying38 hp
    have hl4 : cs.length = 4 := hl.trans (by kernel_rfl)
    obtain ⟨c0, c1, c2, c3, rfl⟩ := list4b hl4
    have k0 : Try.prog.cellsOf 3 = 1 := by kernel_rfl
    have k1 : Try.prog.cellsOf 23 = 1 := by kernel_rfl
    have k2 : Try.prog.cellsOf 22 = 1 := by kernel_rfl
    have k3 : Try.prog.cellsOf 4 = 1 := by kernel_rfl
    have k4 : Try.prog.cellsOf 47 = 1 := by kernel_rfl
    dsimp only at a0 a1 a2 a3
    rw [k0] at a0
    rw [k1] at a1
    rw [k2] at a2
    rw [k3] at a3
    have hy1 : ∀ p ∈ y1.2, p.block < W.heap.size := fun p hp' => hy p (by rw [hyy]; simp [hp'])
    have hy2 : ∀ p ∈ y2.2, p.block < W.heap.size := fun p hp' => hy p (by rw [hyy]; simp [hp'])
    obtain ⟨x0, q0, -, -⟩ := DataW.trod_int Try.underlying3 a0
    obtain ⟨x3, q3, -⟩ := DataW.trod_bool Try.underlying4 a3
    simp at q0 q3
    subst q0 q3
    obtain ⟨A1, n1, e1, xs1, rfl, r1, r2, r3, r4, r5⟩ := trod_nums Try.underlying23 Try.underlying3 k0 hy1 (by simpa using a1)
    obtain ⟨A2, n2, e2, xs2, rfl, s1, s2, s3, s4, s5⟩ := trod_nums Try.underlying22 Try.underlying47 k4 hy2 (by simpa using a2)
    exact ⟨(⟨x0, xs1, xs2, x3⟩, ⟨x0, A1, n1, e1, A2, n2, e2, x3⟩), rfl, ⟨rfl, rfl, r1, s1, r3.symm, s3.symm, r4, s4⟩, r5, s5⟩) hval hlt h
  refine ⟨A, n, c, l.map (·.1), l.map (·.2), rfl, h2, h3, ?_, ⟨by simp, fun i o v ho hv => ?_⟩, fun o ho => ?_, by simpa using h6, h7⟩
  · rw [List.flatMap_map]; exact h4
  · rw [List.getElem?_map] at ho hv
    cases hx : l[i]? with
    | none => rw [hx] at ho; cases ho
    | some p =>
      rw [hx] at ho hv
      obtain rfl := Option.some.inj ho
      obtain rfl := Option.some.inj hv
      exact (h5 p (List.mem_of_getElem? hx)).1
  · obtain ⟨p, hp, rfl⟩ := List.mem_map.1 ho
    exact (h5 p hp).2
end Go.Proofs.Ytammailnbgojgab
