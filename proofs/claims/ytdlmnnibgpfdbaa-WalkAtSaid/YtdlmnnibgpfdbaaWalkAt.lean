/-
  WalkAt answers true for every arena and word, and changes no argument: At succeeds exactly at the starts of objects and returns the same descriptions as Objects. No condition.
-/
import Derived.Test.YtdlmnnibgpfdbaaSameOb
import Derived.Test.YtdlmnnibgpfdbaaWalksTrue
import Derived.Test.YtdlmnnibgpfdbaaLaw
import Derived.StillTailTactics
namespace Go.Proofs.Ytdlmnnibgpfdbaa
open Go.RowKit

set_option maxHeartbeats 400000 in
theorem atClosure2_any (g : Nat) (x : Int) (s : Spot) (w : World) (hg : g < w.heap.size) (hc : w.cell? ⟨g, 0, none⟩ = some (.int .i64 x)) :
    Calls Try.prog 18 #[.agg #[.int .i64 s.loc, .int .i64 s.r, .int .i64 s.b, .int .i64 s.t, .bool s.f], .pointer (some ⟨g, 0, none⟩)] w fun e w' => e = .returned (.bool (s.loc == x)) ∧ Below w.heap.size w w' := by
  go_enter Try.func18, Try.ntmps18
  go_wp2
  go_ret
  exact ⟨rfl, below_new _ _⟩

/-- The cells of object i. -/
theorem Reads.ob {w : World} {B : Nat} {A : Option Addr} {n j : Nat} {l : List ObV} (h : Reads w B 4 A n (l.flatMap obvC)) (hj : j < n) :
    ∃ ad s, A = some ad ∧ ad.block < B ∧ l[j]? = some s ∧ w.cell? (ad.add (j * 4)) = some (.int .i64 s.t) ∧
      w.cell? ⟨(ad.add (j * 4)).block, (ad.add (j * 4)).off + 1, none⟩ = some (.slice s.A1 s.n1 s.c1) ∧ w.cell? ⟨(ad.add (j * 4)).block, (ad.add (j * 4)).off + 2, none⟩ = some (.slice s.A2 s.n2 s.c2) ∧
      w.cell? ⟨(ad.add (j * 4)).block, (ad.add (j * 4)).off + 3, none⟩ = some (.bool s.f) := by
  obtain ⟨ad, s, e, hb, hs, c0, cs⟩ := Reads.elem (f := obvC) (k := 4) (fun _ => rfl) h (by decide) hj
  exact ⟨ad, s, e, hb, hs, c0, cs 1 (by decide) (by decide), cs 2 (by decide) (by decide), cs 3 (by decide) (by decide)⟩

set_option maxRecDepth 100000 in
set_option maxHeartbeats 1000000 in
theorem walkAt_bad (A : Option Addr) (n c : Nat) (a : List Int) (x : Int) (w : World) (hr : Reads w w.heap.size 1 A n (a.map (.int .u64))) (hnc : n ≤ c) (ha : ∀ x ∈ a, (Lit.int .u64 x).wf = true) (hE : checkE a ≠ 0) :
    Calls Try.prog 4 #[.slice A n c, .int .i64 x] w fun e w' => e = .returned (.bool true) ∧ Below w.heap.size w w' := by
  have H1 := Lib.hid (fun w hr => spots_any A n c a w hr ha)
  have H2 := Lib.hid (fun w hr => objects_bad A n c a w hr hnc ha hE)
  have H3 := Lib.hid (fun w hr => at_bad A n c a x w hr hnc ha hE)
  generalize checkE a = E at *
  generalize spotsE a = E0 at *
  generalize spotsL a = l at *
  have hE1 : (E != 0) = true := by simpa using hE
  have hE2 : (E == E) = true := by simp
  have HE := Lib.hid hE
  clear hE
  go_enter Try.func4, Try.ntmps4
  go_wp2_with (go_at_call 13; refine (walks_true _).mono ?_; rintro e w1 ⟨rfl, hb1⟩)
  have hb01 := below_step (below_new w (.cells #[.int .i64 x] 3)) hb1
  have B0 := (Blk.new w 3 #[.int .i64 x]).below hb1 (by simp)
  clear hb1
  go_wp2_with fail
  refine (H1.out _ ((hr.below hb01).more hb01.size)).mono ?_
  rintro e w2 ⟨hb2, A', c', rfl, -⟩
  have hb02 := below_step hb01 hb2
  have B2 := B0.below hb2 (B0.lt)
  clear hb01 hb2 B0
  go_wp2_with fail
  refine (H2.out _ ((hr.below hb02).more hb02.size)).mono ?_
  rintro e w3 ⟨rfl, hb3⟩
  have hb03 := below_step hb02 hb3
  have k0 := (B2.below hb3 (B2.lt)).cell 0
  simp only [List.getElem?_toArray, List.getElem?_cons_zero] at k0
  clear hb02 hb3 B2
  go_wp2_with fail
  refine (H3.out _ ((hr.below hb03).more hb03.size)).mono ?_
  rintro e w4 ⟨rfl, hb4⟩
  have hb04 := below_step hb03 hb4
  go_wp2
  go_ret
  exact ⟨rfl, hb04.alloc hb04.size _⟩

set_option maxRecDepth 100000 in
set_option maxHeartbeats 1000000 in
theorem walkAt_ok (A : Option Addr) (n c : Nat) (a : List Int) (x : Int) (w : World) (hr : Reads w w.heap.size 1 A n (a.map (.int .u64))) (hnc : n ≤ c) (ha : ∀ x ∈ a, (Lit.int .u64 x).wf = true) (hE : checkE a = 0) :
    Calls Try.prog 4 #[.slice A n c, .int .i64 x] w fun e w' => e = .returned (.bool true) ∧ Below w.heap.size w w' := by
  have H1 := fun w hr => spots_any A n c a w hr ha
  rw [(checkE_ok.1 hE).1] at H1
  have H1 := Lib.hid H1
  have H2 := Lib.hid (fun w hr => objects_ok A n c a w hr hnc ha hE)
  have hm256 := spotsL_length a
  rcases ixOf_cases (fun s : Spot => s.loc == x) (spotsL a) with ⟨hix, hno⟩ | ⟨i, s, hix, hs, hsx, hbef⟩
  · have H3 := Lib.hid (fun w hr => at_none A n c a x w hr hnc ha hE (by unfold atIx; omega))
    generalize spotsL a = l at *
    generalize hp : (fun s : Spot => s.loc == x) = p at *
    have HPx := Lib.hid hp
    have HIX := Lib.hid (fun A n c B W hr hB hn HC => indexSpot_any 18 (.pointer (some ⟨w.heap.size, 0, none⟩)) A n c B l p W hr hB hn (plain_of (fn := Try.f18) Try.func18 (by kernel_rfl) (by kernel_rfl)) HC)
    rw [hix] at HIX
    clear hp hE hix hno
    go_enter Try.func4, Try.ntmps4
    go_wp2_with (go_at_call 13; refine (walks_true _).mono ?_; rintro e w1 ⟨rfl, hb1⟩)
    have hb01 := below_step (below_new w (.cells #[.int .i64 x] 3)) hb1
    have B0 := (Blk.new w 3 #[.int .i64 x]).below hb1 (by simp)
    clear hb1
    go_wp2_with fail
    refine (H1.out _ ((hr.below hb01).more hb01.size)).mono ?_
    rintro e w2 ⟨hb2, A', c', rfl, hownl⟩
    have hb02 := below_step hb01 hb2
    have B2 := B0.below hb2 (B0.lt)
    have hrl := Reads.of_own hownl
    clear hb01 hb2 B0 hownl
    go_wp2_with fail
    refine (H2.out _ ((hr.below hb02).more hb02.size)).mono ?_
    rintro e w3 ⟨hb3, A3, c3, vs, rfl, hown, hO⟩
    have hb03 := below_step hb02 hb3
    have k0 := (B2.below hb3 (B2.lt)).cell 0
    simp only [List.getElem?_toArray, List.getElem?_cons_zero] at k0
    go_wp2_with fail
    refine (H3.out _ ((hr.below hb03).more hb03.size)).mono ?_
    rintro e w4 ⟨rfl, hb4⟩
    have hb04 := below_step hb03 hb4
    have hb05 := hb04.alloc hb04.size (.cells #[.int .i64 0, .slice none 0 0, .slice none 0 0, .bool false] 42)
    have hb24 := below_step hb3 hb4
    have hb25 := hb24.alloc hb24.size (.cells #[.int .i64 0, .slice none 0 0, .slice none 0 0, .bool false] 42)
    have hrl5 := (hrl.below hb25).more hb25.size
    have B5 := B2.below hb25 (B2.lt)
    obtain ⟨m, hm⟩ : ∃ m, m = l.length := ⟨_, rfl⟩
    rw [← hm] at hrl5 hm256
    rw [← hm]
    clear hm hrl hb24 hb25 B2 hb3 hb4 hb03 hb04 hb02
    go_wp2_with fail
    refine (HIX.out _ _ _ _ _ hrl5 (Nat.le_refl _) (by omega) ?_).mono ?_
    · intro w' s hb' _
      have := atClosure2_any w.heap.size x s w' (by have := hb'.size; have := B5.lt; omega) ((B5.below hb' B5.lt).cell 0)
      rw [← HPx.out]
      exact this
    rintro e w6 ⟨rfl, hb6⟩
    go_wp2
    go_ret
    exact ⟨rfl, below_step hb05 hb6⟩
  · have H3 := Lib.hid (fun w hr => at_ok A n c a x i s w hr hnc ha hE (by unfold atIx; exact hix) hs)
    obtain ⟨hlen, hP⟩ := parse_ok (checkE_ok.1 hE).1
    have hok := (parse_mem hP s (List.mem_of_getElem? hs)).1
    have hr0 := hok.r0
    have hb0' := hok.b0
    have hf256 := hok.fit256
    have HOL := Lib.hid (And.intro (refIx_length (l := spotsL a) hok) (bodyOf_length hok))
    have hil := (List.getElem?_eq_some_iff.1 hs).1
    unfold Spot.long at hf256
    generalize spotsL a = l at *
    generalize hp : (fun s : Spot => s.loc == x) = p at *
    have HPx := Lib.hid hp
    have HIX := Lib.hid (fun A n c B W hr hB hn HC => indexSpot_any 18 (.pointer (some ⟨w.heap.size, 0, none⟩)) A n c B l p W hr hB hn (plain_of (fn := Try.f18) Try.func18 (by kernel_rfl) (by kernel_rfl)) HC)
    rw [hix] at HIX
    have HS := Lib.hid hs
    clear hp hE hix hbef hs hsx hok hP hlen
    go_enter Try.func4, Try.ntmps4
    go_wp2_with (go_at_call 13; refine (walks_true _).mono ?_; rintro e w1 ⟨rfl, hb1⟩)
    have hb01 := below_step (below_new w (.cells #[.int .i64 x] 3)) hb1
    have B0 := (Blk.new w 3 #[.int .i64 x]).below hb1 (by simp)
    clear hb1
    go_wp2_with fail
    refine (H1.out _ ((hr.below hb01).more hb01.size)).mono ?_
    rintro e w2 ⟨hb2, A', c', rfl, hownl⟩
    have hb02 := below_step hb01 hb2
    have B2 := B0.below hb2 (B0.lt)
    have hrl := Reads.of_own hownl
    clear hb01 hb2 B0 hownl
    go_wp2_with fail
    refine (H2.out _ ((hr.below hb02).more hb02.size)).mono ?_
    rintro e w3 ⟨hb3, A3, c3, vs, rfl, hown, hO⟩
    have hb03 := below_step hb02 hb3
    have k0 := (B2.below hb3 (B2.lt)).cell 0
    simp only [List.getElem?_toArray, List.getElem?_cons_zero] at k0
    go_wp2_with fail
    refine (H3.out _ ((hr.below hb03).more hb03.size)).mono ?_
    rintro e w4 ⟨hb4, B1, d1, B2', d2, rfl, hown1, hown2⟩
    have hb04 := below_step hb03 hb4
    have hb05 := hb04.alloc hb04.size (.cells #[.int .i64 s.t, .slice B1 s.r.toNat d1, .slice B2' s.b.toNat d2, .bool s.f] 42)
    have hb24 := below_step hb3 hb4
    have hb25 := hb24.alloc hb24.size (.cells #[.int .i64 s.t, .slice B1 s.r.toNat d1, .slice B2' s.b.toNat d2, .bool s.f] 42)
    have hrl5 := (hrl.below hb25).more hb25.size
    have hb35 := hb4.alloc hb4.size (.cells #[.int .i64 s.t, .slice B1 s.r.toNat d1, .slice B2' s.b.toNat d2, .bool s.f] 42)
    have hO5 := hO.below hb35
    have hown5 := own_below hown hb35
    have hObj : ObO w4 w3.heap.size (obOf a l s) ⟨s.t, B1, s.r.toNat, d1, B2', s.b.toNat, d2, s.f⟩ := ⟨rfl, rfl, HOL.out.1.symm, HOL.out.2.symm, hown1, hown2⟩
    have B5 := B2.below hb25 (B2.lt)
    have B6 := Blk.new w4 42 #[.int .i64 s.t, .slice B1 s.r.toNat d1, .slice B2' s.b.toNat d2, .bool s.f]
    have hOR := hObj.reads.keep (B' := (w4.alloc (.cells #[.int .i64 s.t, .slice B1 s.r.toNat d1, .slice B2' s.b.toNat d2, .bool s.f] 42)).heap.size) (below_new w4 (.cells #[.int .i64 s.t, .slice B1 s.r.toNat d1, .slice B2' s.b.toNat d2, .bool s.f] 42)) (by simp)
    obtain ⟨m, hm⟩ : ∃ m, m = l.length := ⟨_, rfl⟩
    rw [← hm] at hrl5 hm256 hil hown5
    rw [← hm]
    have HM := Lib.hid hm
    clear hm hrl hb24 hb25 B2 hb3 hb4 hb03 hb04 hb02 hb35 hO hown hObj hown1 hown2
    go_wp2_with fail
    refine (HIX.out _ _ _ _ _ hrl5 (Nat.le_refl _) (by omega) ?_).mono ?_
    · intro w' s hb' _
      have := atClosure2_any w.heap.size x s w' (by have := hb'.size; have := B5.lt; omega) ((B5.below hb' B5.lt).cell 0)
      rw [← HPx.out]
      exact this
    rintro e w6 ⟨rfl, hb6⟩
    have hb06 := below_step hb05 hb6
    have hO6 := (hO5.below hb6).reads
    have hown6 := Reads.of_own (own_below hown5 hb6)
    have B7 := B6.below hb6 B6.lt
    have hOR6 := hOR.keep hb6 hb6.size
    obtain ⟨ad, v, rfl, had, hv, c0, c1, c2, c3⟩ := hown6.ob (j := i) hil
    have hOv := hO6.2 i (obOf a l s) v (by rw [List.getElem?_map, HS.out]; rfl) hv
    have hv1 : v.n1 = s.r.toNat := by rw [hOv.2.2.2.2.1]; exact HOL.out.1
    have hv2 : v.n2 = s.b.toNat := by rw [hOv.2.2.2.2.2.1]; exact HOL.out.2
    have HSO := (sameOb_any (obOf a l s) (obOf a l s) ⟨s.t, B1, s.r.toNat, d1, B2', s.b.toNat, d2, s.f⟩ v w6.drew hOR6 hOv ⟨by dsimp only; omega, by dsimp only; omega⟩ ⟨by omega, by omega⟩)
    rw [decide_eq_true rfl] at HSO
    have HSO := Lib.hid HSO
    have hil' : (i : Int) < m := by omega
    have m0 := B7.cell 0
    have m1 := B7.cell 1
    have m2 := B7.cell 2
    have m3 := B7.cell 3
    simp only [List.getElem?_toArray, List.getElem?_cons_zero, List.getElem?_cons_succ] at m0 m1 m2 m3
    clear B5 B6 B7 hb05 hb6 hO5 hO6 hown5 hown6 hOR hOR6 hOv hv hv1 hv2 hrl5
    go_wp2
    go_still_tail 18, (by kernel_rfl)
    change wpList _ _ _ _ _ w6.drew
    go_wp2_with fail
    refine HSO.out.mono ?_
    rintro e w7 ⟨rfl, hb7⟩
    go_wp2
    go_ret
    exact ⟨rfl, below_step (w1 := w6.drew) hb06.drew hb7⟩

theorem walkAt_any (A : Option Addr) (n c : Nat) (a : List Int) (x : Int) (w : World) (hr : Reads w w.heap.size 1 A n (a.map (.int .u64))) (hnc : n ≤ c) (_ : c ≤ maxLen) (ha : ∀ x ∈ a, (Lit.int .u64 x).wf = true) (_ : (Lit.int .i64 x).wf = true) :
    Calls Try.prog 4 #[.slice A n c, .int .i64 x] w fun e w' => e = .returned (.bool true) ∧ Below w.heap.size w w' := by
  by_cases hE : checkE a = 0
  · exact walkAt_ok A n c a x w hr hnc ha hE
  · exact walkAt_bad A n c a x w hr hnc ha hE

namespace WalkAt
open Go.ChangeShapes Go.WideShapes Go.ChangeAt Go.RowKit
theorem own : ownKnob Try.prog.godebug = none := by kernel_rfl
theorem laidOut : laidOutB Try.prog = true := by kernel_rfl

set_option maxRecDepth 100000 in
theorem lifted (os : Os) (started : os.Started) (H : Type) (enc : TypeId × Value → H) :
    ReturnsInHanded {} Try.checked os 4 .any (Rows.walkAtSpec.pre6 enc Try.prog Try.f4 Rows.walkAtRow.domain false) (Rows.walkAtSpec.post enc Try.prog Try.f4 false true false false) := by
  refine returnsInHanded_of_change (C := Try.checked) own started (by as_aux_lemma => kernel_rfl) Try.func4
    (ChangeSpec.witness6 (enc := enc) (C := Try.checked) false ⟨#[], #[.slice none 0 0, .int .i64 0], []⟩ 8 (by as_aux_lemma => kernel_rfl) (by as_aux_lemma => kernel_rfl) (by as_aux_lemma => kernel_rfl) (by as_aux_lemma => kernel_rfl)) ?_
  intro W base args ds gs before hval0 hW hcnd _
  have hval : ∀ (j : Nat) t v, Try.f4.params[j]? = some t → args[j]? = some v → Value.okWide Try.prog W .any base t v := hval0
  have hW' := hW
  obtain ⟨p, q, hA0, hV, rfl, hfz, hnd⟩ := hW
  have hA : DataW.TrodAll enc Try.prog W 0 (fun _ => true) true Try.f4.params.toList args.toList ds p := hA0
  rw [Try.params4] at hA hval
  obtain ⟨v0, vs0, d0, ds0, p0, q0, hargs, rfl, rfl, h0, hA⟩ := trodAll_cons hA
  obtain ⟨v1, vs1, d1, ds1, p1, q1, rfl, rfl, rfl, h1, hA⟩ := trodAll_cons hA
  obtain ⟨rfl, rfl, rfl⟩ := trodAll_nil hA
  obtain rfl : args = #[v0, v1] := by cases args; simp_all
  obtain ⟨A0, n0, c0, xs0, rfl, hnc0, hc0, hr0, hx0⟩ := open_nums Try.underlying25 Try.underlying29 (by as_aux_lemma => kernel_rfl) (hval 0 _ v0 rfl rfl) (fun x hx => hW'.lt x (by simp [hx])) h0
  obtain ⟨i1, rfl, rfl, rfl, w1⟩ := open_int Try.underlying3 (hval 1 _ v1 rfl rfl) h1
  refine (walkAt_any A0 n0 c0 xs0 i1 W hr0 hnc0 hc0 hx0 w1).mono fun e W' ⟨he, hb⟩ => ?_
  subst he
  exact ⟨_, rfl, law_post laidOut Try.underlying4 rfl (by as_aux_lemma => kernel_rfl) rfl rfl hW' hb⟩

set_option maxHeartbeats 10000000 in
theorem closed : joinedFacts Try.prog 4 Try.f4 Rows.walkAtSpec Rows.walkAtRow = true := by
  unfold joinedFacts
  simp only [Bool.and_eq_true]
  repeat' apply And.intro
  all_goals as_aux_lemma => kernel_rfl

set_option maxHeartbeats 1000000 in
theorem proved : Rows.WalkAtSaid :=
  OpenClaim.holds_of_wide 4 Try.f4 rfl rfl rfl rfl rfl rfl rfl ⟨rfl, rfl, rfl, rfl, rfl⟩ rfl rfl rfl rfl rfl (by as_aux_lemma => kernel_rfl) Try.func4 closed
    (of_decide_eq_true (by as_aux_lemma => kernel_rfl)) (by unfold Func.isWrapper; first | (rw [if_pos (by decide +kernel)]; kernel_rfl) | (rw [if_neg (by decide +kernel)]; exact ⟨rfl, rfl⟩))
    (fun os started H enc _ => lifted os started H enc)
end WalkAt
end Go.Proofs.Ytdlmnnibgpfdbaa
