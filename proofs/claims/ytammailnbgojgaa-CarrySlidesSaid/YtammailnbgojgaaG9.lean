/-
  Texts joined: CleanLaw Good Law LawNums.
-/
import Derived.Test.YtammailnbgojgaaRows
import Derived.ProofKit
import Derived.SizedLaws
import Derived.Test.YtammailnbgojgaaG0
import Derived.Test.YtammailnbgojgaaG8
/-
  Plain law: what a cleaned arena is. No program stands here.
-/
namespace Go.Proofs.Ytammailnbgojgaa
open Go.RowKit

/-- All that is known of what Clean makes. -/
structure Cleaned (a f p L Y b now : List Int) : Prop where
  laid : LaidOk a L Y b a.length
  closed : ClosedL a L
  plan : Planned a L p (longsV a L p) Y
  sub : ∀ x ∈ f ++ p, x ∈ L
  pin : ∀ x ∈ p, posL L Y x = x
  map : now ++ p = (f ++ p).map (posL L Y)
  len256 : a.length ≤ 256
  lenL : L.length ≤ 256
theorem cleaned_of {a f p L Y b now : List Int} (h : CleanIs a f p L Y b now) : Cleaned a f p L Y b now := by
  obtain ⟨h1, h2, h3, h4, rfl, rfl, rfl⟩ := h
  have hP := planned_of h4
  have h0 := (checkE_ok.1 h1).1
  have hN := (parse_ok h0).1
  have hC := reached_closed h1 h3
  have hpin : ∀ x ∈ p, posL L (slidGo p 0 L (longsV a L p)) x = x := by
    intro x hx
    obtain ⟨hK, -⟩ := kept_of h4
    have hxL := h3.roots x (List.mem_append_right _ hx)
    obtain ⟨j, y, hj, hy, e⟩ := posL_ex hP.nodup hP.len hxL
    have hS := slid_of a.length p L (longsV a L p) 0 hK (fun z hz => hP.nn2 z (List.mem_of_getElem? hz))
    obtain ⟨s, i, -, -, -, -, -, e6, -⟩ := hP.at_ j x y hj hy
    rw [e]
    exact (hS.at_ j x y s.long hj e6 hy).2.1 hx
  refine ⟨?_, hC, hP, h3.roots, hpin, ?_, hN, ?_⟩
  · exact laid_ok h0 hC hP.nodup hP.len hN hP.nn hP.rows
  · rw [List.map_append]
    congr 1
    conv => lhs; rw [← List.map_id p]
    exact List.map_congr_left (fun x hx => (hpin x hx).symm)
  · exact nodup_bound 256 L h3.once (fun x hx => begsL_bounds h0 x (h3.begs x hx))
theorem Cleaned.alive {a f p L Y b now : List Int} (h : Cleaned a f p L Y b now) : ∀ x ∈ now ++ p, x ∈ begsL (spotsL b) := by
  intro x hx
  rw [h.map] at hx
  obtain ⟨z, hz, rfl⟩ := List.mem_map.1 hx
  have hzL := h.sub z hz
  obtain ⟨s, hs⟩ := begsL_iff.1 (h.closed.begs z hzL)
  obtain ⟨s', hs', -⟩ := h.laid.iso.at_ z hzL s hs
  exact begsL_iff.2 ⟨s', hs'⟩
theorem Cleaned.form {a f p L Y b now : List Int} (h : Cleaned a f p L Y b now) {os os' : List Ob} {fr fr' : List Int} (h1 : FormIs a (f ++ p) os fr) (h2 : FormIs b (now ++ p) os' fr') : os = os' ∧ fr = fr' := by
  rw [h.map] at h2
  exact form_iso h.laid.iso h.closed h.sub h1 h2

theorem rises_len {a p : List Int} (h0 : checkE a = 0) (hp : risesP p = true) (hb : ∀ x ∈ p, x ∈ begsL (spotsL a)) : p.length ≤ 256 := by
  refine nodup_bound 256 p ?_ (fun x hx => begsL_bounds (checkE_ok.1 h0).1 x (hb x hx))
  rw [List.nodup_iff_pairwise_ne]
  exact (risesP_pairwise hp).imp (fun h => by omega)

/-- The words of a laid arena are words. -/
theorem words_wf {a : List Int} (h : ∀ x ∈ a, 0 ≤ x ∧ x < 18446744073709551616) : ∀ x ∈ a, (Lit.int .u64 x).wf = true := fun x hx => by
  obtain ⟨h1, h2⟩ := h x hx
  simp [Lit.wf, IntKind.min, IntKind.max, IntKind.signed, IntKind.bits]
  omega
theorem wf_words {a : List Int} (h : ∀ x ∈ a, (Lit.int .u64 x).wf = true) : ∀ x ∈ a, 0 ≤ x ∧ x < 18446744073709551616 := fun x hx => by
  have := h x hx
  simp [Lit.wf, IntKind.min, IntKind.max, IntKind.signed, IntKind.bits] at this
  omega
theorem laid_wf {a keep Y : List Int} {N : Nat} (ha : ∀ x ∈ a, (Lit.int .u64 x).wf = true) (hR : RowsOk N 0 (rowsOf a keep Y)) (hN : N ≤ 256) (hY : ∀ y ∈ Y, y ≤ 256) (hn : keep.Nodup) (hl : Y.length = keep.length) (hC : ClosedL a keep) (hY0 : ∀ y ∈ Y, 0 ≤ y) :
    ∀ x ∈ chunksW (laidC N 0 (rowsOf a keep Y)), (Lit.int .u64 x).wf = true := by
  refine words_wf (fun x hx => ?_)
  obtain ⟨c, hc, hxc⟩ := List.mem_flatMap.1 hx
  have hcok := laidC_ok hR hN c hc
  obtain ⟨w1, w2, w3, w4, w5, w6, w7⟩ := rdw_word c.r c.b c.t c.f hcok.1
  rcases List.mem_cons.1 hxc with rfl | hxp
  · exact ⟨w6, w7⟩
  · rcases laidC_mem hR c hc with ⟨q, -, -, rfl⟩ | ⟨y, hy⟩
    · have := List.eq_of_mem_replicate hxp
      omega
    · obtain ⟨j, hj⟩ := List.mem_iff_getElem?.1 hy
      have hjl : j < keep.length := by have := (List.getElem?_eq_some_iff.1 hj).1; rw [rowsOf_length hl] at this; exact this
      have := rowsOf_at (a := a) (List.getElem?_eq_getElem hjl) (List.getElem?_eq_getElem (l := Y) (i := j) (by omega))
      rw [hj] at this
      simp only [Option.some.injEq, Prod.mk.injEq] at this
      obtain ⟨-, rfl⟩ := this
      obtain ⟨s, hs⟩ := begsL_iff.1 (hC.begs _ (List.getElem_mem hjl))
      rw [rowAt_some hs] at hxp
      rcases List.mem_append.1 hxp with h | h
      · obtain ⟨v, hv, rfl⟩ := List.mem_map.1 h
        unfold refT
        by_cases h0 : v = 0
        · rw [if_pos h0]; omega
        · rw [if_neg h0]
          have hk := Iso.link_of hC (List.getElem_mem hjl) hs v hv h0
          obtain ⟨i, u, -, hu, e⟩ := posL_ex hn hl hk
          have h1 := hY u (List.mem_of_getElem? hu)
          have h2 := hY0 u (List.mem_of_getElem? hu)
          rw [e]
          omega
      · unfold bodyOf at h
        exact wf_words ha x (List.mem_of_mem_drop (List.mem_of_mem_take h))
theorem Cleaned.wf {a f p L Y b now : List Int} (h : Cleaned a f p L Y b now) (hI : CleanIs a f p L Y b now) (ha : ∀ x ∈ a, (Lit.int .u64 x).wf = true) : (∀ x ∈ b, (Lit.int .u64 x).wf = true) ∧ ∀ x ∈ now, (Lit.int .i64 x).wf = true := by
  have hN := h.len256
  have hYb : ∀ y ∈ Y, 0 ≤ y ∧ y ≤ 256 := fun y hy => by
    obtain ⟨j, hj⟩ := List.mem_iff_getElem?.1 hy
    have hjl : j < L.length := by rw [← h.plan.len]; exact (List.getElem?_eq_some_iff.1 hj).1
    obtain ⟨s, i, -, -, -, e4, e5, -, e7, -⟩ := h.plan.at_ j _ y (List.getElem?_eq_getElem hjl) hj
    have := e4.r0
    have := e4.b0
    unfold Spot.long at e5
    omega
  constructor
  · obtain ⟨-, -, -, -, rfl, rfl, -⟩ := hI
    exact laid_wf ha h.plan.rows hN (fun y hy => (hYb y hy).2) h.plan.nodup h.plan.len h.closed h.plan.nn
  · obtain ⟨-, -, -, -, -, -, rfl⟩ := hI
    intro x hx
    obtain ⟨z, hz, rfl⟩ := List.mem_map.1 hx
    obtain ⟨i, u, -, hu, e⟩ := posL_ex h.plan.nodup h.plan.len (h.sub z (List.mem_append_left _ hz))
    have := hYb u (List.mem_of_getElem? hu)
    rw [e]
    simp [Lit.wf, IntKind.min, IntKind.max, IntKind.signed, IntKind.bits]
    omega

theorem slides_ok : CleanOk [1, 1] [0] [] := by
  refine ⟨by decide, ?_, by decide⟩
  decide
set_option maxHeartbeats 1000000 in
theorem slides_true (w : World) : Calls Try.prog 9 #[] w fun e w' => e = .returned (.bool true) ∧ Below w.heap.size w w' := by
  have hn1 := reads_new w [.int .u64 1, .int .u64 1] 42 2 1 rfl
  have hb1 := below_new w (.cells #[.int .u64 1, .int .u64 1] 42)
  have hn2 := reads_new (w.alloc (.cells #[.int .u64 1, .int .u64 1] 42)) [.int .i64 0] 3 1 1 rfl
  have hb2 := below_new (w.alloc (.cells #[.int .u64 1, .int .u64 1] 42)) (.cells #[.int .i64 0] 3)
  have hn3 := (hn1.below (hb2.mono (by simp))).more (show w.heap.size + 1 ≤ ((w.alloc (.cells #[.int .u64 1, .int .u64 1] 42)).alloc (.cells #[.int .i64 0] 3)).heap.size by simp)
  simp only [World.size_alloc] at hn2
  have H := Lib.hid (fun A A2 w hr hr2 => clean_any A 2 2 [1, 1] A2 1 1 [0] none 0 0 [] w hr (by decide) (by decide) (by decide) hr2 (by decide) (by decide) Reads.none_ (by decide) (by decide))
  have HS := Lib.hid (fun w : World => (show Calls Try.prog 26 #[] w fun e w' => e = .returned (.slice (some ⟨w.heap.size, 0, none⟩) 2 2) ∧ w' = w.alloc (.cells #[.int .u64 1, .int .u64 1] 42) by
    go_enter Try.func26, Try.ntmps26
    go_wp2
    go_ret
    exact ⟨rfl, rfl⟩))
  clear hn1
  go_enter Try.func9, Try.ntmps9
  go_wp2_with fail
  refine (HS.out _).mono ?_
  rintro e w1 ⟨rfl, rfl⟩
  go_wp2_with fail
  refine (H.out _ _ _ (by simpa using hn3) (by simpa using hn2)).mono ?_
  rintro e w2 ⟨hb3, ⟨-, L, Y, b, now, A1, c1, A4, c4, -, rfl, -⟩ | ⟨hno, -⟩⟩
  · have hb4 := below_step (below_step hb1 hb2) hb3
    go_wp2
    go_ret
    exact ⟨by first | rfl | simp, hb4⟩
  · exact absurd slides_ok hno
end Go.Proofs.Ytammailnbgojgaa

/-
  The laws' helper 'good': all error numbers are 0.
-/
namespace Go.Proofs.Ytammailnbgojgaa
open Go.RowKit

theorem notzero_any (x : Int) (w : World) : Calls Try.prog 37 #[.int .i64 x] w fun e w' => e = .returned (.bool (x != 0)) ∧ w = w' := by
  go_enter Try.func37, Try.ntmps37
  go_wp2
  go_ret
  exact ⟨rfl, rfl⟩

set_option maxHeartbeats 400000 in
theorem indexErr_any (A : Option Addr) (n c B : Nat) (xs : List Int) (w : World) (hr : Reads w B 1 A n (xs.map (.int .i64))) (hn : n ≤ 1000000000000000000) :
    Calls Try.prog 51 #[.slice A n c, .func (.func 37) #[] #[]] w fun e w' =>
      (∃ i : Int, e = .returned (.int .i64 i) ∧ (decide (0 ≤ i) = !(xs.all (· == 0)))) ∧ w = w' := by
  have hxl : xs.length = n := by have := hr.1; simpa using this
  have HX := Lib.hid hxl
  clear hxl
  go_enter Try.func51, Try.ntmps51
  go_wp2
  go_loop [8] (fun i => ∃ j : Nat, j ≤ n ∧ i = .int .i64 j ∧ (xs.take j).all (· == 0) = true) (fun i => n - (intOf i).toNat)
  case atStart => exact ⟨0, Nat.zero_le _, rfl, by simp⟩
  case round =>
    obtain ⟨j, hj, rfl, ht⟩ := hrel
    have HT := Lib.hid ht
    clear ht
    by_cases hlt : j < n
    · obtain ⟨ad, u, rfl, _, hx, hc⟩ := hr.at_ hlt
      have hl : j < xs.length := by rw [HX.out]; exact hlt
      rw [List.getElem?_map, List.getElem?_eq_getElem hl] at hx
      obtain rfl : u = .int .i64 xs[j] := by simpa using hx.symm
      clear hx
      have T : Hid ((xs.take (j + 1)).all (· == 0) = (xs[j] == 0)) := by
        show _ = _
        rw [List.take_succ_eq_append_getElem hl, List.all_append, HT.out]
        simp
      have T2 : Hid (xs[j] ∈ xs) := List.getElem_mem hl
      generalize xs[j] = x at *
      by_cases he : x = 0
      · subst he
        go_wp2_with (go_at_call 37; refine (notzero_any _ _).mono ?_; rintro e w' ⟨rfl, rfl⟩)
        go_round
        case rel => exact ⟨j + 1, by omega, by go_num, by rw [T.out]; rfl⟩
        case measure => simp [intOf]; omega
      · have he2 : (x != 0) = true := by simpa using he
        have he3 : (x == 0) = false := by simpa using he
        go_wp2_with (go_at_call 37; refine (notzero_any _ _).mono ?_; rintro e w' ⟨rfl, rfl⟩)
        go_ret
        refine ⟨⟨j, rfl, ?_⟩, rfl⟩
        have : xs.all (· == 0) = false := by
          rw [List.all_eq_false]
          exact ⟨x, T2.out, by simpa using he⟩
        rw [this]
        simp
    · go_wp2
      go_ret
      refine ⟨⟨-1, rfl, ?_⟩, rfl⟩
      have hjn : j = n := by omega
      have := HT.out
      rw [hjn, List.take_of_length_le (by rw [HX.out]; omega)] at this
      rw [this]
      simp

theorem containsErr_any (A : Option Addr) (n c B : Nat) (xs : List Int) (w : World) (hr : Reads w B 1 A n (xs.map (.int .i64))) (hn : n ≤ 1000000000000000000) :
    Calls Try.prog 36 #[.slice A n c, .func (.func 37) #[] #[]] w fun e w' => e = .returned (.bool !(xs.all (· == 0))) ∧ w = w' := by
  have H := indexErr_any A n c B xs w hr hn
  have HH := Lib.hid H
  clear H
  generalize (!(xs.all (· == 0))) = b at *
  go_enter Try.func36, Try.ntmps36
  go_wp2_with (go_at_call 51; refine HH.out.mono ?_; rintro e w' ⟨⟨i, rfl, hi⟩, rfl⟩)
  go_ret
  exact ⟨rfl, rfl⟩

theorem good_any (A : Option Addr) (n c B : Nat) (xs : List Int) (w : World) (hr : Reads w B 1 A n (xs.map (.int .i64))) (hn : n ≤ 1000000000000000000) :
    Calls Try.prog 15 #[.slice A n c] w fun e w' => e = .returned (.bool (xs.all (· == 0))) ∧ w = w' := by
  have H := containsErr_any A n c B xs w hr hn
  have HH := Lib.hid H
  clear H
  generalize xs.all (· == 0) = b at *
  go_enter Try.func15, Try.ntmps15
  go_wp2_with (go_at_call 36; refine HH.out.mono ?_; rintro e w' ⟨rfl, rfl⟩)
  go_ret
  exact ⟨by simp, rfl⟩

theorem good_of (A : Option Addr) (n c B : Nat) (xs : List Int) (b : Bool) (w : World) (hb : xs.all (· == 0) = b) (hr : Reads w B 1 A n (xs.map (.int .i64))) (hn : n ≤ 1000000000000000000) :
    Calls Try.prog 15 #[.slice A n c] w fun e w' => e = .returned (.bool b) ∧ w = w' := by
  subst hb
  exact good_any A n c B xs w hr hn
end Go.Proofs.Ytammailnbgojgaa

/-
  What every law's row shares: the end of a call that changed nothing, and the opening of its arguments.
-/
namespace Go.Proofs.Ytammailnbgojgaa
open Go.ChangeShapes Go.WideShapes Go.ChangeAt Go.RowKit

theorem trodAll_below {H : Type} {enc : TypeId × Value → H} {P : Program} (hl : laidOutB P = true) {W W' : World} (hb : Below W.heap.size W W') :
    ∀ {ts : List TypeId} {vs : List Value} {ds : List (DataW H)} {ps : List MemPlace}, ts.all (fun t => P.readableRec t && decide (t < P.types.size)) = true →
      (∀ x ∈ ps, x.block < W.heap.size) → DataW.TrodAll enc P W 0 (fun _ => true) true ts vs ds ps → DataW.TrodAll enc P W' 0 (fun b => decide (b < W.heap.size)) true ts vs ds ps
  | [], [], [], _, _, _, h => h
  | t :: ts, v :: vs, d :: ds, ps, hr, hlt, h => by
    obtain ⟨p, q, h1, h2, rfl⟩ := h
    simp only [List.all_cons, Bool.and_eq_true, decide_eq_true_eq] at hr
    exact ⟨p, q, Below.trod hl hr.1.1 hr.1.2 h1 hb (fun x hx => hlt x (List.mem_append_left _ hx)), trodAll_below hl hb hr.2 (fun x hx => hlt x (List.mem_append_right _ hx)) h2, rfl⟩
  | [], _ :: _, _, _, _, _, h => h.elim
  | [], [], _ :: _, _, _, _, h => h.elim
  | _ :: _, [], _, _, _, _, h => h.elim
  | _ :: _, _ :: _, [], _, _, _, h => h.elim

/-- THE END OF A LAW: it answered true, and below the old heap's end nothing has changed. -/
theorem law_post {H : Type} {enc : TypeId × Value → H} {P : Program} {f : Func} {s : ChangeSpec} {tb : TypeId} {W W' : World} {args : Array Value} {ds gs : List (DataW H)} {before : List MemPlace}
    (hl : laidOutB P = true) (hu : P.underlying tb = some .bool) (hrt : f.resultTypes = #[tb]) (hts : f.params.toList.all (fun t => P.readableRec t && decide (t < P.types.size)) = true)
    (hv : s.vars = []) (hfn : s.fn H ds = { results := [.lit (.bool true)], args := ds })
    (hW : DataW.Whole enc P f.params.toList s.vars false W args.toList ds gs before) (hb : Below W.heap.size W W') :
    s.post enc P f false true false false W args (.bool true) W' := by
  have hW' := hW
  obtain ⟨p, q, hA, hV, rfl, hz, hn⟩ := hW
  rw [hv] at hV
  obtain ⟨rfl, rfl⟩ := trodVars_none hV
  refine ⟨ds, [], _, [], p, [], hW', ?_, ?_, ?_, hb.frame _, fun h => by cases h⟩
  · rw [List.append_nil, hfn, hrt]
    exact trodAll_mk1 (shut_bool hu true)
  · rw [List.append_nil, hfn]
    exact trodAll_below hl hb hts (fun x hx => hW'.lt x (List.mem_append_left _ hx)) hA
  · rw [hv, List.append_nil, hfn]
    rfl

theorem b64 {x : Int} (h : (Lit.int .i64 x).wf = true) : -9223372036854775808 ≤ x ∧ x ≤ 9223372036854775807 := by
  simpa [Lit.wf, IntKind.min, IntKind.max, IntKind.signed, IntKind.bits] using h
theorem bu64 {x : Int} (h : (Lit.int .u64 x).wf = true) : 0 ≤ x ∧ x ≤ 18446744073709551615 := by
  simpa [Lit.wf, IntKind.min, IntKind.max, IntKind.signed, IntKind.bits] using h

/-- A slice of numbers, as an argument. -/
theorem open_nums {H : Type} {enc : TypeId × Value → H} {P : Program} {t e : TypeId} {k : IntKind} {W : World} {r : Reach} {base : Nat} {sp : Nat → Bool} {v : Value} {d : DataW H} {ps : List MemPlace} (ht : P.underlying t = some (.slice e)) (he : P.underlying e = some (.int k)) (hc : P.cellsOf e = 1)
    (hval : Value.okWide P W r base t v) (hlt : ∀ x ∈ ps, x.block < W.heap.size) (h : DataW.Trod enc P W 0 sp true t v d ps) :
    ∃ (A : Option Addr) (n c : Nat) (xs : List Int), v = .slice A n c ∧ n ≤ c ∧ c ≤ maxLen ∧ Reads W W.heap.size 1 A n (xs.map (.int k)) ∧ (∀ x ∈ xs, (Lit.int k x).wf = true) := by
  obtain ⟨a0, len0, cap0, rfl⟩ := okWide_slice ht hval
  obtain ⟨fuel, hf⟩ := h
  rcases open_ints ht he hc hf with ⟨hcs, hx⟩ | ⟨a, len, cap, zs, hcs, hb, hlc, hm, hzl, hx, hcell, hwf⟩
  · simp [Value.cells] at hcs
    obtain ⟨rfl, rfl, rfl⟩ := hcs
    exact ⟨none, 0, 0, [], rfl, Nat.le_refl _, Nat.zero_le _, Reads.none_, fun x hx => by cases hx⟩
  · simp [Value.cells] at hcs
    obtain ⟨rfl, rfl, rfl⟩ := hcs
    simp only [Prod.mk.injEq] at hx
    obtain ⟨rfl, rfl⟩ := hx
    have hlz : len0 ≤ zs.length := by rw [hzl]; split <;> omega
    refine ⟨some a, len0, cap0, zs.take len0, rfl, hlc, hm, ⟨by simp; omega, fun hn => ⟨a, rfl, ?_, fun j u hu => ?_⟩⟩, fun x hx => hwf x (List.mem_of_mem_take hx)⟩
    · have := hlt (.cell a.block (a.off + 0)) (by
        unfold MemPlace.row
        exact List.mem_map.2 ⟨0, List.mem_range.2 (by omega), rfl⟩)
      exact this
    · have hj : j < len0 := by
        have := (List.getElem?_eq_some_iff.1 hu).1
        simp at this; omega
      rw [hcell j (by omega)]
      rw [List.getElem?_map, List.getElem?_take, if_pos hj, List.getElem?_eq_getElem (by omega)] at hu
      rw [← hu, List.getD_eq_getElem?_getD, List.getElem?_eq_getElem (by omega)]
      rfl
end Go.Proofs.Ytammailnbgojgaa

/-
  Opening a slice of numbers that came in, with its reach.
-/
namespace Go.Proofs.Ytammailnbgojgaa
open Go.ChangeShapes Go.WideShapes Go.ChangeAt Go.RowKit

theorem k_int_bytes : Try.prog.bytesOf 3 = 8 := by kernel_rfl
theorem open_nums2 {H : Type} {enc : TypeId × Value → H} {P : Program} {t e : TypeId} {k : IntKind} {W : World} {r : Reach} {base : Nat} {sp : Nat → Bool} {v : Value} {d : DataW H} {ps : List MemPlace} (ht : P.underlying t = some (.slice e)) (he : P.underlying e = some (.int k)) (hc : P.cellsOf e = 1)
    (hval : Value.okWide P W r base t v) (hlt : ∀ x ∈ ps, x.block < W.heap.size) (h : DataW.Trod enc P W 0 sp true t v d ps) :
    ∃ (A : Option Addr) (n c : Nat) (xs : List Int), v = .slice A n c ∧ n ≤ c ∧ c ≤ maxLen ∧ Reads W W.heap.size 1 A n (xs.map (.int k)) ∧ (∀ x ∈ xs, (Lit.int k x).wf = true) ∧ (n = 0 ∨ ∃ D E, d = .slice D E ∧ D.length = n) := by
  have hk := open_nums ht he hc hval hlt h
  obtain ⟨A, n, c, xs, h1, h2, h3, h4, h5⟩ := hk
  refine ⟨A, n, c, xs, h1, h2, h3, h4, h5, ?_⟩
  subst h1
  obtain ⟨fuel, hf⟩ := h
  rcases open_ints ht he hc hf with ⟨hcs, hx⟩ | ⟨a, len, cap, zs, hcs, hb, hlc, hm, hzl, hx, hcell, hwf⟩
  · simp [Value.cells] at hcs
    exact .inl hcs.2.1
  · simp [Value.cells] at hcs
    obtain ⟨rfl, rfl, rfl⟩ := hcs
    simp only [Prod.mk.injEq] at hx
    obtain ⟨rfl, rfl⟩ := hx
    have hlz : n ≤ zs.length := by rw [hzl]; split <;> omega
    exact .inr ⟨_, _, rfl, by simp [lits]; omega⟩
end Go.Proofs.Ytammailnbgojgaa
