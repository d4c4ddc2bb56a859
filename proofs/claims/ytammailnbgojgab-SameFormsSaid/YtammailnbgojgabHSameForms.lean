/-
  SameForms answers true for all arenas, lists and sizes, and changes no argument: a heap that is built from a form has this form.
-/
import Derived.Test.YtammailnbgojgabG7
import Derived.Test.YtammailnbgojgabG9
import Derived.Test.YtammailnbgojgabG10
namespace Go.Proofs.Ytammailnbgojgab
open Go.RowKit

theorem idxL_bd {O : List Int} (y : Int) : -1 ≤ idxL O y ∧ idxL O y < O.length := by
  unfold idxL
  rcases ixOf_cases (fun x => y == x) O with ⟨h, -⟩ | ⟨i, s, h1, h2, -⟩
  · rw [h]; omega
  · rw [h1]
    have := (List.getElem?_eq_some_iff.1 h2).1
    omega
/-- What the law asks of a form. -/
structure FormOk (a f : List Int) (os : List Ob) (fr : List Int) (O : List Int) : Prop where
  ord : Ordered a (spotsL a) f O
  os_ : os = O.map (formO a (spotsL a) O)
  fr_ : fr = f.map (idxL O)
  len : os.length ≤ 256
  wf : ∀ o ∈ os, (∀ x ∈ o.refs, (Lit.int .i64 x).wf = true) ∧ ∀ x ∈ o.body, (Lit.int .u64 x).wf = true
  at_ : ∀ k ∈ fr, 0 ≤ k ∧ ∃ o, os[k.toNat]? = some o ∧ o.f = false
theorem form_good {a f : List Int} {os : List Ob} {fr : List Int} (h0 : checkE a = 0) (ha : ∀ x ∈ a, (Lit.int .u64 x).wf = true) (h : FormIs a f os fr) : ∃ O, FormOk a f os fr O := by
  obtain ⟨O, h1, h2, h3⟩ := h
  have hC := ordered_closed h0 h1
  have hl : O.length ≤ 256 := nodup_bound 256 O h1.search.once (fun x hx => begsL_bounds (checkE_ok.1 h0).1 x (hC.begs x hx))
  have hat : ∀ x ∈ O, ∃ s, spotAt (spotsL a) x = some s ∧ s.f = false ∧ formO a (spotsL a) O x = ⟨s.t, (refsOf a s).map (fun v => idxL O (v - 1)), bodyOf a s, s.f⟩ := by
    intro x hx
    obtain ⟨s, hs⟩ := begsL_iff.1 (hC.begs x hx)
    refine ⟨s, hs, (spotAt_some hs).2.1, ?_⟩
    unfold formO
    rw [hs]
  refine ⟨O, h1, h2, h3, by rw [h2, List.length_map]; exact hl, fun o ho => ?_, fun k hk => ?_⟩
  · rw [h2] at ho
    obtain ⟨x, hx, rfl⟩ := List.mem_map.1 ho
    obtain ⟨s, hs, hf, e⟩ := hat x hx
    rw [e]
    constructor
    · intro y hy
      obtain ⟨v, hv, rfl⟩ := List.mem_map.1 hy
      have := idxL_bd (O := O) (v - 1)
      simp [Lit.wf, IntKind.min, IntKind.max, IntKind.signed, IntKind.bits]
      omega
    · intro y hy
      have hy' : y ∈ bodyOf a s := hy
      unfold bodyOf at hy'
      exact ha y (List.mem_of_mem_drop (List.mem_of_mem_take hy'))
  · rw [h3] at hk
    obtain ⟨x, hx, rfl⟩ := List.mem_map.1 hk
    obtain ⟨j, hj⟩ := List.mem_iff_getElem?.1 (h1.roots x hx)
    rw [idxL_at h1.search.once hj, Int.toNat_natCast]
    refine ⟨by omega, formO a (spotsL a) O x, by rw [h2, List.getElem?_map, hj]; rfl, ?_⟩
    obtain ⟨s, hs, hf, e⟩ := hat x (h1.roots x hx)
    rw [e]
    exact hf
/-- What is built of a form has it. -/
theorem built_form {a f : List Int} {os : List Ob} {fr O : List Int} {M : Nat} (h0 : checkE a = 0) (h : FormOk a f os fr O) (hL : LayOk os M) :
    CopyIs a f M O (sumsY (spotsL a) 0 O) (layW os M) ∧ (fr.map fun k => ((begO os k.toNat : Nat) : Int)) = f.map (posL O (sumsY (spotsL a) 0 O)) ∧
      AliveF (layW os M) (f.map (posL O (sumsY (spotsL a) 0 O))) ∧ ∀ os' fr', FormIs (layW os M) (f.map (posL O (sumsY (spotsL a) 0 O))) os' fr' → os = os' ∧ fr = fr' := by
  obtain ⟨h1, h2⟩ := form_copy h0 h.ord h.os_ hL
  have hD := copied_of h1
  refine ⟨h1, ?_, ⟨hD.laid.check, hD.alive h.ord.roots⟩, fun os' fr' hF => hD.form h.ord.roots ⟨O, h.ord, h.os_, h.fr_⟩ hF⟩
  rw [h.fr_, List.map_map]
  exact List.map_congr_left (fun x hx => h2 x (h.ord.roots x hx))

set_option maxRecDepth 100000 in
set_option maxHeartbeats 4000000 in
theorem sameForms_any (A : Option Addr) (n c : Nat) (a : List Int) (A2 : Option Addr) (n2 c2 : Nat) (f : List Int) (N : Int) (w : World) (hr : Reads w w.heap.size 1 A n (a.map (.int .u64))) (hnc : n ≤ c) (hc : c ≤ maxLen) (ha : ∀ x ∈ a, (Lit.int .u64 x).wf = true)
    (hr2 : Reads w w.heap.size 1 A2 n2 (f.map (.int .i64))) (hnc2 : n2 ≤ c2) (hc2 : c2 ≤ maxLen) (hx2 : ∀ z ∈ f, (Lit.int .i64 z).wf = true) (hn2 : n2 * 8 ≤ 140737488351232) (hNw : (Lit.int .i64 N).wf = true) :
    Calls Try.prog 3 #[.slice A n c, .slice A2 n2 c2, .int .i64 N] w fun e w' => e = .returned (.bool true) ∧ Below w.heap.size w w' := by
  clear hnc2 hc2 hNw hc
  have HF := Lib.hid (fun w hr hr2 => form_any A n c a A2 n2 c2 f w hr hnc ha hr2 (by omega) hx2)
  have HF2 := Lib.hid (fun A1 M c1 (b : List Int) (h1 : M ≤ c1) (hb : ∀ x ∈ b, (Lit.int .u64 x).wf = true) A5 c5 (g : List Int) (hg : ∀ x ∈ g, (Lit.int .i64 x).wf = true) w hr hr2 => form_any A1 M c1 b A5 n2 c5 g w hr h1 hb hr2 (by omega) hg)
  have HA := Lib.hid (fun A1 M c1 (b : List Int) (h1 : M ≤ c1) (hb : ∀ x ∈ b, (Lit.int .u64 x).wf = true) A5 c5 (g : List Int) (hg : ∀ x ∈ g, (Lit.int .i64 x).wf = true) w hr hr4 hrb hr5 => alike_any A n c a A2 n2 c2 f A1 M c1 b A5 n2 c5 g w hr hnc ha hr4 (by omega) hx2 hrb h1 hb hr5 (by omega) hg)
  have HAW := Lib.hid ha
  have hn2b : n2 * 8 ≤ 140737488355328 := by omega
  have hn2c : n2 ≤ 1000000000000000000 := by omega
  clear ha hx2
  go_enter Try.func3, Try.ntmps3
  go_wp2_with fail
  refine (forms_true _).mono ?_
  rintro e w1 ⟨rfl, hb1⟩
  go_wp2_with fail
  refine (HF.out _ ((hr.below hb1).more hb1.size) ((hr2.below hb1).more hb1.size)).mono ?_
  rintro e w2 ⟨hb2, ⟨hAl, os, fr, vs, Ao, co, Af, cf, hFI, hol, hfl, rfl, hownO, hObs, hownF⟩ | ⟨hno, er, her, rfl⟩⟩
  · have hb02 := below_step hb1 hb2
    obtain ⟨O, hFO⟩ := form_good hAl.1 HAW.out hFI
    obtain ⟨k, hk⟩ : ∃ k, k = os.length := ⟨_, rfl⟩
    rw [← hk] at hownO ⊢
    have hk256 : k ≤ 256 := by omega
    have hbn := below_new w2 (.cells #[.slice Ao k co, .slice Af n2 cf] 27)
    have G2 := Blk.new w2 27 #[.slice Ao k co, .slice Af n2 cf]
    have hb03 := below_step hb02 hbn
    have hrO := Reads.of_own hownO
    have hrF := Reads.of_own hownF
    have hoR := hObs.reads
    have HB := Lib.hid (build_any Ao k co os vs Af n2 cf fr N (w2.alloc (.cells #[.slice Ao k co, .slice Af n2 cf] 27)) ((hrO.below hbn).more hbn.size) (hoR.keep hbn hbn.size) hk.symm (by omega) hFO.wf (fun M hL => (built_form hAl.1 hFO hL).1.wf HAW.out) ((hrF.below hbn).more hbn.size) hn2b hFO.at_)
    have HBF := Lib.hid (fun (M : Nat) (hL : LayOk os (M : Int)) => built_form hAl.1 hFO hL)
    have HBO : Hid (∀ M : Nat, LayOk os (M : Int) → ∀ o ∈ os, o.refs.length ≤ 1000000 ∧ o.body.length ≤ 1000000) := fun M hL o ho => by
      have := headE_ok.1 (hL.heads o ho)
      omega
    have HK := Lib.hid hk
    have HAL := Lib.hid hAl
    have g0 := G2.cell 0
    have g1 := G2.cell 1
    simp only [List.getElem?_toArray, List.getElem?_cons_zero, List.getElem?_cons_succ] at g0 g1
    have HG2 := Lib.hid G2
    have HFI := Lib.hid hFI
    clear hFI hol hfl hownO hownF hObs hFO hk hAl G2 HF
    go_wp2_with fail
    refine HB.out.mono ?_
    rintro e w4 ⟨hb4, ⟨M, A1, c1, A4, c4, rfl, hL, rfl, hown1, hown4⟩ | ⟨-, er, her, rfl⟩⟩
    · obtain ⟨hI, hnow, hAl2, hEq⟩ := HBF.out M hL
      rw [hnow] at hown4
      have hbw := hI.wf HAW.out
      have hnw := hI.nowf
      have hbo := HBO.out M hL
      generalize posL O (sumsY (spotsL a) 0 O) = φ at *
      generalize layW os M = b at *
      have hb24 := below_step hbn hb4
      have hb04 := below_step hb02 hb24
      have hrb := Reads.of_own hown1
      have hrn := Reads.of_own hown4
      have hcc := own_cap hown1
      have hM256 := hI.le
      have HAA := Lib.hid (HA.out A1 M c1 b hcc hbw A4 c4 (f.map φ) hnw w4 ((hr.below hb04).more hb04.size) ((hr2.below hb04).more hb04.size) hrb hrn)
      have HFF := Lib.hid (HF2.out A1 M c1 b hcc hbw A4 c4 (f.map φ) hnw)
      have HEq := Lib.hid hEq
      have HALL := Lib.hid (And.intro HAL.out hAl2)
      have HBo := Lib.hid hbo
      have HBEq : Hid (∀ os1 fr1 os2 fr2, FormIs a f os1 fr1 → FormIs b (f.map φ) os2 fr2 → os1 = os2 ∧ fr1 = fr2) := fun os1 fr1 os2 fr2 h1 h2 => by
        obtain ⟨e1, e2⟩ := FormIs.unique h1 HFI.out
        obtain ⟨e3, e4⟩ := hEq os2 fr2 h2
        exact ⟨e1.trans e3, e2.trans e4⟩
      clear hI hnow hAl2 hEq hbw hnw hbo hL hown1 hown4 HA HF2 HBF HBO hcc
      go_wp2_with fail
      refine HAA.out.mono ?_
      rintro e w5 ⟨hb5, ⟨-, -, os1, fr1, os2, fr2, h1, h2, rfl⟩ | ⟨hno, -⟩⟩
      · obtain ⟨rfl, rfl⟩ := HBEq.out _ _ _ _ h1 h2
        have hb05 := below_step hb04 hb5
        clear h1 h2
        simp only [decide_true, Bool.and_self]
        go_wp2_with fail
        refine (HFF.out _ ((hrb.below hb5).more hb5.size) ((hrn.below hb5).more hb5.size)).mono ?_
        rintro e w6 ⟨hb6, ⟨-, os', fr', vs', Ao2, co2, Af2, cf2, hF2, hol2, hfl2, rfl, hownO2, hObs2, hownF2⟩ | ⟨hno2, -⟩⟩
        · obtain ⟨rfl, rfl⟩ := HEq.out _ _ hF2
          rw [← HK.out] at hownO2 ⊢
          have hb06 := below_step hb05 hb6
          have hb26 := below_step (below_step hb24 hb5) hb6
          have hbn6 := below_new w6 (.cells #[.slice Ao2 k co2, .slice Af2 n2 cf2] 27)
          have hb07 := below_step hb06 hbn6
          have hb27 := below_step hb26 hbn6
          have hx0 := reads_new (w6.alloc (.cells #[.slice Ao2 k co2, .slice Af2 n2 cf2] 27)) [.int .i64 0, .int .i64 0] 28 2 1 rfl
          have hbn7 := below_new (w6.alloc (.cells #[.slice Ao2 k co2, .slice Af2 n2 cf2] 27)) (.cells #[.int .i64 0, .int .i64 0] 28)
          have hb08 := below_step hb07 hbn7
          have hb28 := below_step hb27 hbn7
          have hb68 := below_step hbn6 hbn7
          have G6 := (Blk.new w6 27 #[.slice Ao2 k co2, .slice Af2 n2 cf2]).alloc (.cells #[.int .i64 0, .int .i64 0] 28)
          have G2b := HG2.out.below ((hb4.trans (hb5.mono hb4.size)).trans (hb6.mono (Nat.le_trans hb4.size hb5.size))) HG2.out.lt
          have G2c := (G2b.alloc (.cells #[.slice Ao2 k co2, .slice Af2 n2 cf2] 27)).alloc (.cells #[.int .i64 0, .int .i64 0] 28)
          have a0 := G6.cell 0
          have a1 := G6.cell 1
          have b0 := G2c.cell 0
          have b1 := G2c.cell 1
          simp only [List.getElem?_toArray, List.getElem?_cons_zero, List.getElem?_cons_succ] at a0 a1 b0 b1
          have HGo := Lib.hid (good_of (some ⟨(w6.alloc (.cells #[.slice Ao2 k co2, .slice Af2 n2 cf2] 27)).heap.size, 0, none⟩) 2 2 _ [0, 0] true _ (by decide) (by simpa using hx0) (by decide))
          have hb78 := below_step (below_step hb6 hbn6) hbn7
          have hb2z := (hbn.trans ((hb4.trans (hb5.mono hb4.size)).mono hbn.size)).trans (hb78.mono (Nat.le_trans hbn.size (Nat.le_trans hb4.size hb5.size)))
          have HEO := Lib.hid (equalObsF_any 15 (plain_of (fn := Try.f15) Try.func15 (by kernel_rfl) (by kernel_rfl)) sameOb_any Ao2 Ao k co2 k co os os vs' vs _ (((Reads.of_own hownO2).below hb68).more hb68.size) ((hrO.below hb2z).more hb2z.size) (hObs2.reads.keep hb68 hb68.size) (hoR.keep hb2z hb2z.size) HK.out.symm HK.out.symm (by omega) (by omega) HBo.out HBo.out)
          rw [decide_eq_true rfl] at HEO
          have HFE := Lib.hid (fun W (hb9 : Below ((w6.alloc (.cells #[.slice Ao2 k co2, .slice Af2 n2 cf2] 27)).alloc (.cells #[.int .i64 0, .int .i64 0] 28)).heap.size ((w6.alloc (.cells #[.slice Ao2 k co2, .slice Af2 n2 cf2] 27)).alloc (.cells #[.int .i64 0, .int .i64 0] 28)) W) =>
            equal_int Af2 Af n2 cf2 n2 cf _ _ fr fr W (((Reads.of_own hownF2).below hb68).more hb68.size |>.below hb9) (((hrF.below hb2z).more hb2z.size).below hb9) hn2c hn2c)
          simp only [decide_true] at HFE
          have HG6 := Lib.hid G6
          have HG2c := Lib.hid G2c
          have HG8 := Lib.hid hb08
          clear G6 G2b G2c hx0 hownO2 hownF2 hObs2 hF2 hol2 hfl2 hbn6 hbn7 hb68 hb78 hb2z hb28 hb27 hb26 hb07
          simp only [World.size_alloc] at HGo
          go_wp2_with fail
          refine HGo.out.mono ?_
          rintro e w7 ⟨rfl, hw7⟩
          subst hw7
          go_wp2_with fail
          refine HEO.out.mono ?_
          rintro e w8 ⟨rfl, hb8⟩
          have G8 := HG6.out.below hb8 HG6.out.lt
          have G9 := HG2c.out.below hb8 HG2c.out.lt
          have p1 := G8.cell 1
          have q1 := G9.cell 1
          simp only [List.getElem?_toArray, List.getElem?_cons_zero, List.getElem?_cons_succ] at p1 q1
          have hfin := HG8.out.trans (hb8.mono HG8.out.size)
          have hfe := HFE.out w8 hb8
          clear G8 G9 a0 a1 b0 b1
          go_wp2_with fail
          refine hfe.mono ?_
          rintro e w9 ⟨rfl, q, rfl⟩
          clear hfe
          go_wp2
          go_ret
          exact ⟨by first | rfl | simp, below_drewN hfin _⟩
        · exact absurd HALL.out.2 hno2
      · exact absurd HALL.out hno
    · have hb04 := below_step hb03 hb4
      go_wp2
      go_ret
      exact ⟨by first | rfl | simp, hb04⟩
  · have hb02 := below_step hb1 hb2
    have G2 := Blk.new w2 27 #[.slice none 0 0, .slice none 0 0]
    have g0 := G2.cell 0
    have g1 := G2.cell 1
    simp only [List.getElem?_toArray, List.getElem?_cons_zero, List.getElem?_cons_succ] at g0 g1
    have hb03 := hb02.alloc hb02.size (.cells #[.slice none 0 0, .slice none 0 0] 27)
    go_wp2
    go_ret
    exact ⟨by first | rfl | simp, hb03⟩

namespace SameForms
open Go.ChangeShapes Go.WideShapes Go.ChangeAt Go.RowKit
theorem own : ownKnob Try.prog.godebug = none := by kernel_rfl
theorem laidOut : laidOutB Try.prog = true := by kernel_rfl

set_option maxRecDepth 100000 in
theorem lifted (os : Os) (started : os.Started) (H : Type) (enc : TypeId × Value → H) :
    ReturnsInHanded {} Try.checked os 3 .any (Rows.sameFormsSpec.pre6 enc Try.prog Try.f3 Rows.sameFormsRow.domain false) (Rows.sameFormsSpec.post enc Try.prog Try.f3 false true false false) := by
  refine returnsInHanded_of_change_sized (C := Try.checked) own started (by as_aux_lemma => kernel_rfl) Try.func3
    (ChangeSpec.witness6 (enc := enc) (C := Try.checked) false ⟨#[], #[.slice none 0 0, .slice none 0 0, .int .i64 0], []⟩ 8 (by as_aux_lemma => kernel_rfl) (by as_aux_lemma => kernel_rfl) (by as_aux_lemma => kernel_rfl) (by as_aux_lemma => kernel_rfl)) ?_
  intro W base args ds gs before hval0 hW hcnd hsz _
  have hval : ∀ (j : Nat) t v, Try.f3.params[j]? = some t → args[j]? = some v → Value.okWide Try.prog W .any base t v := hval0
  have hW' := hW
  obtain ⟨p, q, hA0, hV, rfl, hfz, hnd⟩ := hW
  have hA : DataW.TrodAll enc Try.prog W 0 (fun _ => true) true Try.f3.params.toList args.toList ds p := hA0
  rw [Try.params3] at hA hval
  obtain ⟨v0, vs0, d0, ds0, p0, q0, hargs, rfl, rfl, h0, hA⟩ := trodAll_cons hA
  obtain ⟨v1, vs1, d1, ds1, p1, q1, rfl, rfl, rfl, h1, hA⟩ := trodAll_cons hA
  obtain ⟨v2, vs2, d2, ds2, p2, q2, rfl, rfl, rfl, h2, hA⟩ := trodAll_cons hA
  obtain ⟨rfl, rfl, rfl⟩ := trodAll_nil hA
  obtain rfl : args = #[v0, v1, v2] := by cases args; simp_all
  obtain ⟨A0, n0, c0, xs0, rfl, hnc0, hc0, hr0, hx0⟩ := open_nums Try.underlying22 Try.underlying47 (by as_aux_lemma => kernel_rfl) (hval 0 _ v0 rfl rfl) (fun x hx => hW'.lt x (by simp [hx])) h0
  obtain ⟨A1, n1, c1, xs1, rfl, hnc1, hc1, hr1, hx1, hd1⟩ := open_nums2 Try.underlying23 Try.underlying3 (by as_aux_lemma => kernel_rfl) (hval 1 _ v1 rfl rfl) (fun x hx => hW'.lt x (by simp [hx])) h1
  have hm1 : n1 * 8 ≤ 140737488351232 := by
    rcases hd1 with h0 | ⟨D, E, rfl, hD⟩
    · omega
    · have h5 : (D.length + E.length) * Try.prog.bytesOf 3 ≤ reachBytes := sized_slice hsz (j := 1) (t := 23) (e := 3) rfl rfl Try.underlying23
      rw [k_int_bytes, hD] at h5
      simp only [reachBytes] at h5
      omega
  obtain ⟨i2, rfl, rfl, rfl, w2⟩ := open_int Try.underlying3 (hval 2 _ v2 rfl rfl) h2
  refine (sameForms_any A0 n0 c0 xs0 A1 n1 c1 xs1 i2 W hr0 hnc0 hc0 hx0 hr1 hnc1 hc1 hx1 hm1 w2).mono fun e W' ⟨he, hb⟩ => ?_
  subst he
  exact ⟨_, rfl, law_post laidOut Try.underlying4 rfl (by as_aux_lemma => kernel_rfl) rfl rfl hW' hb⟩

set_option maxHeartbeats 10000000 in
theorem closed : joinedFacts Try.prog 3 Try.f3 Rows.sameFormsSpec Rows.sameFormsRow = true := by
  unfold joinedFacts
  simp only [Bool.and_eq_true]
  repeat' apply And.intro
  all_goals as_aux_lemma => kernel_rfl

set_option maxHeartbeats 1000000 in
theorem proved : Rows.SameFormsSaid :=
  OpenClaim.holds_of_wide 3 Try.f3 rfl rfl rfl rfl rfl rfl rfl ⟨rfl, rfl, rfl, rfl, rfl⟩ rfl rfl rfl rfl rfl (by as_aux_lemma => kernel_rfl) Try.func3 closed
    (of_decide_eq_true (by as_aux_lemma => kernel_rfl)) (by unfold Func.isWrapper; first | (rw [if_pos (by decide +kernel)]; kernel_rfl) | (rw [if_neg (by decide +kernel)]; exact ⟨rfl, rfl⟩))
    (fun os started H enc _ => lifted os started H enc)
end SameForms
end Go.Proofs.Ytammailnbgojgab
