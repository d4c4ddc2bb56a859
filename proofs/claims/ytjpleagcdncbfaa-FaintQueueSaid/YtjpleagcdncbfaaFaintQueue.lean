/-
  FaintQueue answers true for all arenas and lists, and changes no argument: finalized objects are unreachable, and the objects kept for finalizers are exactly those reachable after resurrection.
-/
import Derived.Test.YtjpleagcdncbfaaFaintFns
import Derived.Test.YtjpleagcdncbfaaIntF
import Derived.Test.YtjpleagcdncbfaaSlicesInt
import Derived.Test.YtjpleagcdncbfaaGood
import Derived.Test.YtjpleagcdncbfaaLaw
import Derived.Test.YtjpleagcdncbfaaLawNums
namespace Go.Proofs.Ytjpleagcdncbfaa
open Go.RowKit

set_option maxHeartbeats 400000 in
theorem live_queue (y : Int) (g9 : Nat) (AM : Option Addr) (nM cM : Nat) (M : List Int) (BM : Nat) (w : World) (B9 : Blk w g9 23 #[.slice AM nM cM]) (hM : Reads w BM 1 AM nM (M.map (.int .i64))) (hnM : nM ≤ 1000000000000000000) :
    Calls Try.prog 25 #[.int .i64 y, .pointer (some ⟨g9, 0, none⟩)] w fun e w' => e = .returned (.bool (decide (y ∈ M))) ∧ Below w.heap.size w w' := by
  have k9 := B9.cell 0
  simp only [List.getElem?_toArray, List.getElem?_cons_zero, List.getElem?_cons_succ] at k9
  obtain ⟨b, hb⟩ : ∃ b, b = decide (y ∈ M) := ⟨_, rfl⟩
  have HC := Lib.hid (contains_int AM nM cM _ M y b w hM hnM hb.symm)
  rw [← hb]
  clear hb hM
  go_enter Try.func25, Try.ntmps25
  go_wp2_with fail
  refine HC.out.mono ?_
  rintro e w' ⟨rfl, rfl⟩
  go_wp2
  go_ret
  exact ⟨by first | rfl | simp, Below.refl _ _⟩

theorem toldL_mem {M q : List Int} {x : Int} : x ∈ toldL M q ↔ x ∈ q ∧ x ∉ M := by
  unfold toldL
  simp [List.mem_filter]
theorem toldL_again {a : List Int} {S : List Spot} {f q M R : List Int} (hM : Reached a S f M) (hR : Reached a S (f ++ toldL M q) R) : toldL R q = [] := by
  unfold toldL
  rw [List.filter_eq_nil_iff]
  intro x hx
  have : x ∈ R := by
    by_cases hxM : x ∈ M
    · exact hM.least (· ∈ R) (fun z hz => hR.roots z (List.mem_append_left _ hz)) hR.closed x hxM
    · exact hR.roots x (List.mem_append_right _ (toldL_mem.2 ⟨hx, hxM⟩))
  simp [this]

set_option maxRecDepth 100000 in
set_option maxHeartbeats 2000000 in
theorem faintQueue_any (A : Option Addr) (n c : Nat) (a : List Int) (A2 : Option Addr) (n2 c2 : Nat) (f : List Int) (A3 : Option Addr) (n3 c3 : Nat) (q : List Int) (w : World) (hr : Reads w w.heap.size 1 A n (a.map (.int .u64))) (hnc : n ≤ c) (hc : c ≤ maxLen) (ha : ∀ x ∈ a, (Lit.int .u64 x).wf = true)
    (hr2 : Reads w w.heap.size 1 A2 n2 (f.map (.int .i64))) (hnc2 : n2 ≤ c2) (hc2 : c2 ≤ maxLen) (hx2 : ∀ x ∈ f, (Lit.int .i64 x).wf = true) (hm2 : n2 * 8 ≤ 140737488351232)
    (hr3 : Reads w w.heap.size 1 A3 n3 (q.map (.int .i64))) (hnc3 : n3 ≤ c3) (hc3 : c3 ≤ maxLen) (hx3 : ∀ x ∈ q, (Lit.int .i64 x).wf = true) (hm3 : n3 * 8 ≤ 140737488351232) :
    Calls Try.prog 5 #[.slice A n c, .slice A2 n2 c2, .slice A3 n3 c3] w fun e w' => e = .returned (.bool true) ∧ Below w.heap.size w w' := by
  clear hc hnc2 hc2 hnc3 hc3
  have hql : q.length = n3 := by have := hr3.1; simpa using this
  have HQL := Lib.hid hql
  have H1 := Lib.hid (fun A2 n2 c2 f w hr hr2 hn2 hx2 hr3 => last_any A n c a A2 n2 c2 f A3 n3 c3 q w hr hnc ha hr2 hn2 hx2 hr3 (by omega) hx3)
  have H2 := Lib.hid (fun A2 n2 c2 f w hr hr2 hn2 hx2 hE => reach_ok A n c a A2 n2 c2 f w hr hnc ha hr2 hn2 hx2 hE)
  have HX := Lib.hid hx2
  have HX3 := Lib.hid hx3
  have HBb : Hid (checkE a = 0 → ∀ x ∈ begsL (spotsL a), 0 ≤ x ∧ x < 256) := fun h => begsL_bounds (checkE_ok.1 h).1
  clear ha hx2 hx3 hql
  go_enter Try.func5, Try.ntmps5
  go_wp2_with fail
  refine (faints_true _).mono ?_
  rintro e w1 ⟨rfl, hb1⟩
  have H1' := Lib.hid (H1.out A2 n2 c2 f w1 ((hr.below hb1).more hb1.size) ((hr2.below hb1).more hb1.size) (by omega) HX.out ((hr3.below hb1).more hb1.size))
  go_wp2_with fail
  refine H1'.out.mono ?_
  rintro e w2 ⟨hb2, ⟨hok, M, T, R, A4, c4, A5, c5, hM, hT, hR, rfl, hown4, hown5⟩ | ⟨hno, er, her, rfl⟩⟩
  · have hb02 := below_step hb1 hb2
    have h32 : n3 ≤ 32 := by have := hok.2.2.1; omega
    have HOK := Lib.hid hok
    have HBB := Lib.hid (HBb.out hok.1)
    have hM256 : M.length ≤ 256 := nodup_bound 256 M hM.once (fun x hx => HBB.out x (hM.begs x hx))
    have hR256 : R.length ≤ 256 := nodup_bound 256 R hR.once (fun x hx => HBB.out x (hR.begs x hx))
    have hT32 : T.length ≤ 32 := by
      have h2 := List.length_filter_le (fun x => !decide (x ∈ M)) q
      have h3 := HQL.out
      rw [hT]
      unfold toldL
      omega
    have hTq : ∀ x ∈ T, x ∈ q := fun x hx => by rw [hT] at hx; exact (toldL_mem.1 hx).1
    have hTM : T.any (fun x => decide (x ∈ M)) = false := by
      rw [List.any_eq_false]
      intro x hx
      rw [hT] at hx
      have := (toldL_mem.1 hx).2
      simp [this]
    have hqT : ∀ x ∈ q, x ∈ T ++ M := fun x hx => by
      by_cases hxM : x ∈ M
      · exact List.mem_append_right _ hxM
      · exact List.mem_append_left _ (by rw [hT]; exact toldL_mem.2 ⟨hx, hxM⟩)
    have hag : toldL R q = [] := toldL_again hM (by rw [hT] at hR; exact hR)
    have HAg := Lib.hid hag
    have HQT := Lib.hid hqT
    have HTM := Lib.hid hTM
    have HTQ := Lib.hid hTq
    have HM := Lib.hid hM
    have HR := Lib.hid hR
    obtain ⟨t, ht⟩ : ∃ t, t = T.length := ⟨_, rfl⟩
    rw [← ht] at hown4 hT32 ⊢
    obtain ⟨r, hr'⟩ : ∃ r, r = R.length := ⟨_, rfl⟩
    rw [← hr'] at hown5 hR256 ⊢
    have HRl := Lib.hid hr'
    have hrT := Reads.of_own hown4
    have hrR := Reads.of_own hown5
    have H2' := Lib.hid (H2.out A2 n2 c2 f w2 ((hr.below hb02).more hb02.size) ((hr2.below hb02).more hb02.size) (by omega) HX.out hok.1)
    clear hok hM hT hR hTq hTM hqT hag ht hr' hown4 hown5 H1' hb1
    go_wp2_with fail
    refine H2'.out.mono ?_
    rintro e w3 ⟨hb3, ⟨L, A6, c6, hL, rfl, hown6⟩ | ⟨⟨x, hx, hx2⟩, -⟩⟩
    · have hLM := hL.unique HM.out
      subst hLM
      obtain ⟨m, hm⟩ : ∃ m, m = L.length := ⟨_, rfl⟩
      rw [← hm] at hown6 hM256 ⊢
      have D3 := Blk.new w3 23 #[.slice A6 m c6]
      have hbn3 := below_new w3 (.cells #[.slice A6 m c6] 23)
      have hb23 := below_step hb3 hbn3
      have hb03 := below_step hb02 hb23
      have hrL := ((Reads.of_own hown6).below hbn3).more hbn3.size
      have hrT3 := (hrT.below hb23).more hb23.size
      have hrR3 := (hrR.below hb23).more hb23.size
      have hv := reads_new (w3.alloc (.cells #[.slice A6 m c6] 23)) [.slice A2 n2 c2, .slice A4 t c4] 23 2 1 rfl
      have hbv := below_new (w3.alloc (.cells #[.slice A6 m c6] 23)) (.cells #[.slice A2 n2 c2, .slice A4 t c4] 23)
      have hb04 := below_step hb03 hbv
      have HCo := Lib.hid (concat2_int A2 n2 c2 (f.map (.int .i64)) A4 t c4 (T.map (.int .i64)) (some ⟨w3.heap.size + 1, 0, none⟩) 2 _ (by simpa using hv) ((hr2.below hb04).more hb04.size) ((hrT3.below hbv).more hbv.size) (ints_one f) (ints_one T) (by omega))
      clear hown6 hL hm hb3 hb23 hbn3 hrT hrR hv
      go_wp2_with fail
      refine HCo.out.mono ?_
      rintro e w5 ⟨A7, c7, rfl, hown7, hb5⟩
      rw [← List.map_append] at hown7
      have hb05 := below_step hb04 hb5
      have hb35 := below_step hbv hb5
      have hxw : ∀ x ∈ f ++ T, (Lit.int .i64 x).wf = true := fun x hx => by
        rcases List.mem_append.1 hx with h | h
        · exact HX.out x h
        · exact HX3.out x (HTQ.out x h)
      have hok2 : FaintOk a (f ++ T) n3 q := ⟨HOK.out.1, fun x hx => by
        rcases List.mem_append.1 hx with h | h
        · exact HOK.out.2.1 x h
        · exact HOK.out.2.2.2 x (HTQ.out x h), HOK.out.2.2⟩
      have HOK2 := Lib.hid hok2
      have H1'' := Lib.hid (H1.out A7 (n2 + t) c7 (f ++ T) w5 ((hr.below hb05).more hb05.size) (Reads.of_own hown7) (by omega) hxw ((hr3.below hb05).more hb05.size))
      clear hxw hok2 hown7 hb5 hbv hb04
      go_wp2_with fail
      refine H1''.out.mono ?_
      rintro e w6 ⟨hb6, ⟨-, M2, T2, R2, A8, c8, A9, c9, hM2, hT2, hR2, rfl, -, hown9⟩ | ⟨hno, -⟩⟩
      · have e1 := hM2.unique HR.out
        subst e1
        rw [HAg.out] at hT2
        subst hT2
        rw [List.append_nil] at hR2
        have e2 := hR2.unique HR.out
        subst e2
        have hb06 := below_step hb05 hb6
        have hb36 := below_step hb35 hb6
        have hx0 := reads_new w6 [.int .i64 0, .int .i64 0] 25 2 1 rfl
        have hbn6 := below_new w6 (.cells #[.int .i64 0, .int .i64 0] 25)
        have HG := Lib.hid (good_of (some ⟨w6.heap.size, 0, none⟩) 2 2 _ [0, 0] true _ (by decide) (by simpa using hx0) (by decide))
        have hb37 := below_step hb36 hbn6
        have hb07 := below_step hb06 hbn6
        have hrL7 := (hrL.below hb37).more hb37.size
        have hrT7 := (hrT3.below hb37).more hb37.size
        have hrR7 := (hrR3.below hb37).more hb37.size
        have hrR9 := ((Reads.of_own hown9).below hbn6).more hbn6.size
        have D7 := D3.below hb37 D3.lt
        have HW1 := Lib.hid (within_two A4 A3 t c4 n3 c3 T q true _ hrT7 (by omega) ((hr3.below hb07).more hb07.size) (by omega) (decide_eq_true HTQ.out))
        have hrr : R2.length = r := HRl.out.symm
        rw [hrr] at hrR9 ⊢
        clear hx0 hrr hown9 hM2 hR2 hrL hrT3 hrR3 hb36 hb06
        go_wp2_with fail
        refine HG.out.mono ?_
        rintro e w8 ⟨rfl, rfl⟩
        go_wp2_with fail
        refine HW1.out.mono ?_
        rintro e w9 ⟨rfl, hb9⟩
        have hb39 := below_step hb37 hb9
        have hb09 := below_step hb07 hb9
        have D9 := D7.below hb9 D7.lt
        have hrL9 := (hrL7.below hb9).more hb9.size
        have hCF := containsIntF_any 25 (.pointer (some ⟨w3.heap.size, 0, none⟩)) A4 t c4 _ T (fun y => decide (y ∈ L)) w9 ((hrT7.below hb9).more hb9.size) (Nat.le_refl _) (by omega) (plain_of (fn := Try.f25) Try.func25 (by kernel_rfl) (by kernel_rfl)) (fun w' y hb' _ =>
          live_queue y w3.heap.size A6 m c6 L _ w' (D9.below hb' D9.lt) (hrL9.below hb') (by omega))
        rw [HTM.out] at hCF
        have HCF := Lib.hid hCF
        clear hCF
        go_wp2_with fail
        refine HCF.out.mono ?_
        rintro e w10 ⟨rfl, hb10⟩
        have hb010 := below_step hb09 hb10
        have hb710 := below_step hb9 hb10
        have D10 := D9.below hb10 D9.lt
        have d10 := D10.cell 0
        simp only [List.getElem?_toArray, List.getElem?_cons_zero, List.getElem?_cons_succ] at d10
        have hv := reads_new w10 [.slice A4 t c4, .slice A6 m c6] 23 2 1 rfl
        have hbv := below_new w10 (.cells #[.slice A4 t c4, .slice A6 m c6] 23)
        have hb711 := below_step hb710 hbv
        have hb011 := below_step hb010 hbv
        have HCo2 := Lib.hid (concat2_int A4 t c4 (T.map (.int .i64)) A6 m c6 (L.map (.int .i64)) (some ⟨w10.heap.size, 0, none⟩) 2 _ (hv.more (by simp)) ((hrT7.below hb711).more hb711.size) ((hrL7.below hb711).more hb711.size) (ints_one T) (ints_one L) (by omega))
        clear hv
        go_wp2_with fail
        refine HCo2.out.mono ?_
        rintro e w12 ⟨A12, c12, rfl, hown12, hb12⟩
        rw [← List.map_append] at hown12
        have hb012 := below_step hb011 hb12
        have hb712 := below_step hb711 hb12
        have HW2 := Lib.hid (within_two A3 A12 n3 c3 (t + m) c12 q (T ++ L) true _ ((hr3.below hb012).more hb012.size) (by omega) (Reads.of_own hown12) (by omega) (decide_eq_true HQT.out))
        clear hown12
        go_wp2_with fail
        refine HW2.out.mono ?_
        rintro e w13 ⟨rfl, hb13⟩
        have hb013 := below_step hb012 hb13
        have hb713 := below_step hb712 hb13
        have HEq := equal_int A5 A9 r c5 r c9 _ _ R2 R2 w13 (hrR7.below hb713) (hrR9.below hb713) (by omega) (by omega)
        rw [decide_eq_true rfl] at HEq
        have HEq := Lib.hid HEq
        go_wp2_with fail
        refine HEq.out.mono ?_
        rintro e w14 ⟨rfl, q14, rfl⟩
        go_wp2
        go_ret
        exact ⟨by first | rfl | simp, below_drewN hb013 _⟩
      · exact absurd HOK2.out hno
    · exact absurd (HOK.out.2.1 x hx) hx2
  · have her2 := her
    clear hno her
    go_wp2
    go_ret
    exact ⟨by first | rfl | simp, below_step hb1 hb2⟩

namespace FaintQueue
open Go.ChangeShapes Go.WideShapes Go.ChangeAt Go.RowKit
theorem own : ownKnob Try.prog.godebug = none := by kernel_rfl
theorem laidOut : laidOutB Try.prog = true := by kernel_rfl

set_option maxRecDepth 100000 in
theorem lifted (os : Os) (started : os.Started) (H : Type) (enc : TypeId × Value → H) :
    ReturnsInHanded {} Try.checked os 5 .any (Rows.faintQueueSpec.pre6 enc Try.prog Try.f5 Rows.faintQueueRow.domain false) (Rows.faintQueueSpec.post enc Try.prog Try.f5 false true false false) := by
  refine returnsInHanded_of_change_sized (C := Try.checked) own started (by as_aux_lemma => kernel_rfl) Try.func5
    (ChangeSpec.witness6 (enc := enc) (C := Try.checked) false ⟨#[], #[.slice none 0 0, .slice none 0 0, .slice none 0 0], []⟩ 8 (by as_aux_lemma => kernel_rfl) (by as_aux_lemma => kernel_rfl) (by as_aux_lemma => kernel_rfl) (by as_aux_lemma => kernel_rfl)) ?_
  intro W base args ds gs before hval0 hW hcnd hsz _
  have hval : ∀ (j : Nat) t v, Try.f5.params[j]? = some t → args[j]? = some v → Value.okWide Try.prog W .any base t v := hval0
  have hW' := hW
  obtain ⟨p, q, hA0, hV, rfl, hfz, hnd⟩ := hW
  have hA : DataW.TrodAll enc Try.prog W 0 (fun _ => true) true Try.f5.params.toList args.toList ds p := hA0
  rw [Try.params5] at hA hval
  obtain ⟨v0, vs0, d0, ds0, p0, q0, hargs, rfl, rfl, h0, hA⟩ := trodAll_cons hA
  obtain ⟨v1, vs1, d1, ds1, p1, q1, rfl, rfl, rfl, h1, hA⟩ := trodAll_cons hA
  obtain ⟨v2, vs2, d2, ds2, p2, q2, rfl, rfl, rfl, h2, hA⟩ := trodAll_cons hA
  obtain ⟨rfl, rfl, rfl⟩ := trodAll_nil hA
  obtain rfl : args = #[v0, v1, v2] := by cases args; simp_all
  obtain ⟨A0, n0, c0, xs0, rfl, hnc0, hc0, hr0, hx0⟩ := open_nums Try.underlying22 Try.underlying72 (by as_aux_lemma => kernel_rfl) (hval 0 _ v0 rfl rfl) (fun x hx => hW'.lt x (by simp [hx])) h0
  obtain ⟨A1, n1, c1, xs1, rfl, hnc1, hc1, hr1, hx1, hd1⟩ := open_nums2 Try.underlying23 Try.underlying3 (by as_aux_lemma => kernel_rfl) (hval 1 _ v1 rfl rfl) (fun x hx => hW'.lt x (by simp [hx])) h1
  have hm1 : n1 * 8 ≤ 140737488351232 := by
    rcases hd1 with h0 | ⟨D, E, rfl, hD⟩
    · omega
    · have h5 : (D.length + E.length) * Try.prog.bytesOf 3 ≤ reachBytes := sized_slice hsz (j := 1) (t := 23) (e := 3) rfl rfl Try.underlying23
      rw [k_int_bytes, hD] at h5
      simp only [reachBytes] at h5
      omega
  obtain ⟨A2, n2, c2, xs2, rfl, hnc2, hc2, hr2, hx2, hd2⟩ := open_nums2 Try.underlying23 Try.underlying3 (by as_aux_lemma => kernel_rfl) (hval 2 _ v2 rfl rfl) (fun x hx => hW'.lt x (by simp [hx])) h2
  have hm2 : n2 * 8 ≤ 140737488351232 := by
    rcases hd2 with h0 | ⟨D, E, rfl, hD⟩
    · omega
    · have h5 : (D.length + E.length) * Try.prog.bytesOf 3 ≤ reachBytes := sized_slice hsz (j := 2) (t := 23) (e := 3) rfl rfl Try.underlying23
      rw [k_int_bytes, hD] at h5
      simp only [reachBytes] at h5
      omega
  refine (faintQueue_any A0 n0 c0 xs0 A1 n1 c1 xs1 A2 n2 c2 xs2 W hr0 hnc0 hc0 hx0 hr1 hnc1 hc1 hx1 hm1 hr2 hnc2 hc2 hx2 hm2).mono fun e W' ⟨he, hb⟩ => ?_
  subst he
  exact ⟨_, rfl, law_post laidOut Try.underlying4 rfl (by as_aux_lemma => kernel_rfl) rfl rfl hW' hb⟩

set_option maxHeartbeats 10000000 in
theorem closed : joinedFacts Try.prog 5 Try.f5 Rows.faintQueueSpec Rows.faintQueueRow = true := by
  unfold joinedFacts
  simp only [Bool.and_eq_true]
  repeat' apply And.intro
  all_goals as_aux_lemma => kernel_rfl

set_option maxHeartbeats 1000000 in
theorem proved : Rows.FaintQueueSaid :=
  OpenClaim.holds_of_wide 5 Try.f5 rfl rfl rfl rfl rfl rfl rfl ⟨rfl, rfl, rfl, rfl, rfl⟩ rfl rfl rfl rfl rfl (by as_aux_lemma => kernel_rfl) Try.func5 closed
    (of_decide_eq_true (by as_aux_lemma => kernel_rfl)) (by unfold Func.isWrapper; first | (rw [if_pos (by decide +kernel)]; kernel_rfl) | (rw [if_neg (by decide +kernel)]; exact ⟨rfl, rfl⟩))
    (fun os started H enc _ => lifted os started H enc)
end FaintQueue
end Go.Proofs.Ytjpleagcdncbfaa
