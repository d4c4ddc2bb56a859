/-
  PlanDown answers true for every arena and lists, and changes no argument: no object moves up, the order of objects is preserved, pinned objects do not move, and no objects overlap. No condition.
-/
import Derived.Test.YtdlmnnibgpfdbabPlanGapsFn
import Derived.Test.YtdlmnnibgpfdbabPlanLaw
import Derived.Test.YtdlmnnibgpfdbabLawNums
import Derived.Test.YtdlmnnibgpfdbabAt
namespace Go.Proofs.Ytdlmnnibgpfdbab
open Go.RowKit

set_option maxHeartbeats 400000 in
theorem planDown_bad (A A2 A3 : Option Addr) (n c n2 c2 m c3 : Nat) (a keep pinned : List Int) (w : World) (hr : Reads w w.heap.size 1 A n (a.map (.int .u64))) (hnc : n ≤ c) (ha : ∀ x ∈ a, (Lit.int .u64 x).wf = true)
    (hr2 : Reads w w.heap.size 1 A2 n2 (keep.map (.int .i64))) (hr3 : Reads w w.heap.size 1 A3 m (pinned.map (.int .i64))) (hn2 : n2 * 8 ≤ 140737488351232) (hm : m ≤ 1000000000000000000) (hE : longsE a keep pinned ≠ 0) :
    Calls Try.prog 8 #[.slice A n c, .slice A2 n2 c2, .slice A3 m c3] w fun e w' => e = .returned (.bool true) ∧ Below w.heap.size w w' := by
  have H1 := Lib.hid (fun w hr hr2 hr3 => planTo_bad A A2 A3 n c n2 c2 m c3 a keep pinned w hr hnc ha hr2 hr3 hn2 hm hE)
  generalize longsE a keep pinned = E at *
  have hE1 : (E != 0) = true := by simpa using hE
  clear hE
  go_enter Try.func8, Try.ntmps8
  go_wp2_with (go_at_call 24; refine (plans_true _).mono ?_; rintro e w1 ⟨rfl, hb1⟩)
  go_wp2_with fail
  refine (H1.out _ ((hr.below hb1).more hb1.size) ((hr2.below hb1).more hb1.size) ((hr3.below hb1).more hb1.size)).mono ?_
  rintro e w2 ⟨rfl, hb2⟩
  go_wp2
  go_ret
  exact ⟨rfl, below_step hb1 hb2⟩

set_option maxRecDepth 100000 in
set_option maxHeartbeats 2000000 in
theorem planDown_ok (A A2 A3 : Option Addr) (n c n2 c2 m c3 : Nat) (a keep pinned : List Int) (w : World) (hr : Reads w w.heap.size 1 A n (a.map (.int .u64))) (hnc : n ≤ c) (ha : ∀ x ∈ a, (Lit.int .u64 x).wf = true)
    (hr2 : Reads w w.heap.size 1 A2 n2 (keep.map (.int .i64))) (hr3 : Reads w w.heap.size 1 A3 m (pinned.map (.int .i64))) (hn2 : n2 * 8 ≤ 140737488351232) (hm : m ≤ 1000000000000000000) (hE : longsE a keep pinned = 0) :
    Calls Try.prog 8 #[.slice A n c, .slice A2 n2 c2, .slice A3 m c3] w fun e w' => e = .returned (.bool true) ∧ Below w.heap.size w w' := by
  have H1 := Lib.hid (fun w hr hr2 hr3 => planTo_any A A2 A3 n c n2 c2 m c3 a keep pinned w hr hnc ha hr2 hr3 hn2 hm hE)
  obtain ⟨hK, hN⟩ := kept_of hE
  obtain ⟨hC, hri, -, hfound, -⟩ := longsE_ok.1 hE
  have hE0 := (checkE_ok.1 hC).1
  have hal : a.length = n := by have := hr.1; simpa using this
  have hV : longsV a keep pinned = keep.map (longAt (spotsL a)) := by unfold longsV; rw [if_pos hE]
  have hS := slid_of a.length pinned keep _ 0 hK (fun x hx => by have := (kept_len hK 0 x hx).1; omega)
  have HF := Lib.hid (fun x (hx : x ∈ keep) => spots_of_ix hE0 (hfound x hx))
  have HAt := Lib.hid (fun x i s hix hs w hr => at_ok A n c a x i s w hr hnc ha hC hix hs)
  have HLG : Hid (∀ (j : Nat) (x : Int), keep[j]? = some x → (longsV a keep pinned)[j]? = some (longAt (spotsL a) x)) := fun j x h => by rw [hV, List.getElem?_map, h]; rfl
  rw [hal] at hK hS hN
  generalize longsV a keep pinned = L at *
  generalize slidGo pinned 0 keep L = Y at *
  obtain ⟨s1, s2, s3⟩ := hS
  have S2 := Lib.hid s2
  have S3 := Lib.hid s3
  have HK := Lib.hid hK
  clear s1 s2 s3 hK hE hC hE0 hfound hV hri hal
  go_enter Try.func8, Try.ntmps8
  go_wp2_with (go_at_call 24; refine (plans_true _).mono ?_; rintro e w1 ⟨rfl, hb1⟩)
  go_wp2_with fail
  refine (H1.out _ ((hr.below hb1).more hb1.size) ((hr2.below hb1).more hb1.size) ((hr3.below hb1).more hb1.size)).mono ?_
  rintro e w2 ⟨hb2, AY, cY, rfl, hownY⟩
  have hrY := Reads.of_own hownY
  have hb02 := below_step hb1 hb2
  have hra := (hr.below hb02).more hb02.size
  have hrk := (hr2.below hb02).more hb02.size
  have hrp := (hr3.below hb02).more hb02.size
  clear hownY hb1 hb2
  go_wp2
  go_loopw [9, 10, 11, 12, 13, 35] (fun en _ _ _ _ i wr => ∃ (j : Nat) (e : Int), j ≤ n2 ∧ i = .int .i64 j ∧ en = .int .i64 e ∧ 0 ≤ e ∧ e ≤ n ∧ Hid (∀ y, Y[j]? = some y → e ≤ y) ∧ Below w2.heap.size w2 wr) (fun _ _ _ _ _ i _ => n2 - (intOf i).toNat)
  case atStart => exact ⟨0, 0, Nat.zero_le _, rfl, rfl, by omega, by omega, (fun y hy => S2.out 0 y hy), Below.refl _ _⟩
  case round =>
    obtain ⟨j, e, hj, rfl, rfl, he0, he1, hle, hb⟩ := hrel
    by_cases hlt : j < n2
    · obtain ⟨ad, x, rfl, had, hx, cx⟩ := (hrk.below hb).num hlt
      obtain ⟨i, s, -, hs, hl1, hl2, hok, hlg, hix⟩ := HF.out x (List.mem_of_getElem? hx)
      have hLj := HLG.out j x hx
      rw [hlg] at hLj
      obtain ⟨adY, y, rfl, hadY, hy, cy⟩ := (hrY.below hb).num hlt
      obtain ⟨y1, y2, y3, y4⟩ := S3.out j x y s.long hx hLj hy
      have hyl := hle.out y hy
      have HNX : Hid (∀ y', Y[j + 1]? = some y' → y + s.long ≤ y') := y4
      have HPN : Hid (x ∈ pinned → y = x) := y2
      have HA := Lib.hid (HAt.out x i s hix hs)
      have hr0 := hok.r0
      have hb0 := hok.b0
      have hf := hok.fit256
      clear hok hs hl1 hl2 hlg hix hLj y2 y4 hx hy hle
      obtain ⟨loc, r, b, t, f⟩ := s
      unfold Spot.long at *
      dsimp only at *
      obtain ⟨rn, rfl⟩ : ∃ rn : Nat, r = rn := ⟨r.toNat, by omega⟩
      obtain ⟨bn, rfl⟩ : ∃ bn : Nat, b = bn := ⟨b.toNat, by omega⟩
      simp only [Int.toNat_natCast] at HA
      have w1' : IntKind.i64.wrap (y + 1) = y + 1 := IntWalk.i64_in _ (by omega)
      have w2' : IntKind.i64.wrap (y + 1 + rn) = y + 1 + rn := IntWalk.i64_in _ (by omega)
      have w3' : IntKind.i64.wrap (y + 1 + rn + bn) = y + 1 + rn + bn := IntWalk.i64_in _ (by omega)
      have q1 : ¬ x < y := by omega
      have q2 : ¬ y < e := by omega
      have hlt2 : (j : Int) < n2 := by omega
      go_wp2_with fail
      refine (HA.out _ ((hra.below hb).more hb.size)).mono ?_
      rintro ex w3 ⟨hb3, B1, d1, B2, d2, rfl, -, -⟩
      have hb03 := hb.trans (hb3.mono hb.size)
      have hbx := hb03.alloc hb03.size (.cells #[.int .i64 t, .slice B1 rn d1, .slice B2 bn d2, .bool f] 57)
      have BO := Blk.new w3 57 #[.int .i64 t, .slice B1 rn d1, .slice B2 bn d2, .bool f]
      have o1 := BO.cell 1
      have o2 := BO.cell 2
      simp only [List.getElem?_toArray, List.getElem?_cons_zero, List.getElem?_cons_succ] at o1 o2
      have cy2 := ((hb3.cell (p := adY.add j) (by rw [block_of_add]; have := hb.size; omega))).trans cy
      have cy3 := (World.cell?_alloc_lt w3 (.cells #[.int .i64 t, .slice B1 rn d1, .slice B2 bn d2, .bool f] 57) (adY.add j) (by rw [block_of_add]; have := hb03.size; omega)).trans cy2
      have hrpx := hrp.below hbx
      clear BO cy cy2 hb3 hb03
      by_cases hp : x ∈ pinned
      · obtain rfl := HPN.out hp
        have HC := Lib.hid (contains_int A3 m c3 _ pinned y true _ hrpx hm (decide_eq_true hp))
        clear hp hrpx
        go_wp2_with fail
        refine HC.out.mono ?_
        rintro ex w4 ⟨rfl, rfl⟩
        go_wp2
        go_quiet (fail)
        go_wp2
        go_roundw
        case rel => exact ⟨j + 1, y + 1 + rn + bn, by omega, by go_num, rfl, by omega, by omega, (fun y' h => by have := HNX.out y' h; omega), below_drewN hbx _⟩
        case measure => simp [intOf]; omega
      · have HC := Lib.hid (contains_int A3 m c3 _ pinned x false _ hrpx hm (decide_eq_false hp))
        clear hp hrpx
        go_wp2_with fail
        refine HC.out.mono ?_
        rintro ex w4 ⟨rfl, rfl⟩
        go_wp2
        go_quiet (fail)
        go_wp2
        go_roundw
        case rel => exact ⟨j + 1, y + 1 + rn + bn, by omega, by go_num, rfl, by omega, by omega, (fun y' h => by have := HNX.out y' h; omega), below_drewN hbx _⟩
        case measure => simp [intOf]; omega
    · go_wp2
      go_ret
      exact ⟨by first | rfl | simp [he1], below_step hb02 hb⟩

theorem planDown_any (A0 : Option Addr) (n0 c0 : Nat) (xs0 : List Int) (A1 : Option Addr) (n1 c1 : Nat) (xs1 : List Int) (A2 : Option Addr) (n2 c2 : Nat) (xs2 : List Int) (w : World)
    (hr0 : Reads w w.heap.size 1 A0 n0 (xs0.map (.int .u64))) (hnc0 : n0 ≤ c0) (_ : c0 ≤ maxLen) (hx0 : ∀ x ∈ xs0, (Lit.int .u64 x).wf = true)
    (hr1 : Reads w w.heap.size 1 A1 n1 (xs1.map (.int .i64))) (_ : n1 ≤ c1) (_ : c1 ≤ maxLen) (_ : ∀ x ∈ xs1, (Lit.int .i64 x).wf = true) (hm1 : n1 * 8 ≤ 140737488351232)
    (hr2 : Reads w w.heap.size 1 A2 n2 (xs2.map (.int .i64))) (_ : n2 ≤ c2) (_ : c2 ≤ maxLen) (_ : ∀ x ∈ xs2, (Lit.int .i64 x).wf = true) (hm2 : n2 * 8 ≤ 140737488351232) :
    Calls Try.prog 8 #[.slice A0 n0 c0, .slice A1 n1 c1, .slice A2 n2 c2] w fun e w' => e = .returned (.bool true) ∧ Below w.heap.size w w' := by
  by_cases hE : longsE xs0 xs1 xs2 = 0
  · exact planDown_ok A0 A1 A2 n0 c0 n1 c1 n2 c2 xs0 xs1 xs2 w hr0 hnc0 hx0 hr1 hr2 hm1 (by omega) hE
  · exact planDown_bad A0 A1 A2 n0 c0 n1 c1 n2 c2 xs0 xs1 xs2 w hr0 hnc0 hx0 hr1 hr2 hm1 (by omega) hE

namespace PlanDown
open Go.ChangeShapes Go.WideShapes Go.ChangeAt Go.RowKit
theorem own : ownKnob Try.prog.godebug = none := by kernel_rfl
theorem laidOut : laidOutB Try.prog = true := by kernel_rfl

set_option maxRecDepth 100000 in
theorem lifted (os : Os) (started : os.Started) (H : Type) (enc : TypeId × Value → H) :
    ReturnsInHanded {} Try.checked os 8 .any (Rows.planDownSpec.pre6 enc Try.prog Try.f8 Rows.planDownRow.domain false) (Rows.planDownSpec.post enc Try.prog Try.f8 false true false false) := by
  refine returnsInHanded_of_change_sized (C := Try.checked) own started (by as_aux_lemma => kernel_rfl) Try.func8
    (ChangeSpec.witness6 (enc := enc) (C := Try.checked) false ⟨#[], #[.slice none 0 0, .slice none 0 0, .slice none 0 0], []⟩ 8 (by as_aux_lemma => kernel_rfl) (by as_aux_lemma => kernel_rfl) (by as_aux_lemma => kernel_rfl) (by as_aux_lemma => kernel_rfl)) ?_
  intro W base args ds gs before hval0 hW hcnd hsz _
  have hval : ∀ (j : Nat) t v, Try.f8.params[j]? = some t → args[j]? = some v → Value.okWide Try.prog W .any base t v := hval0
  have hW' := hW
  obtain ⟨p, q, hA0, hV, rfl, hfz, hnd⟩ := hW
  have hA : DataW.TrodAll enc Try.prog W 0 (fun _ => true) true Try.f8.params.toList args.toList ds p := hA0
  rw [Try.params8] at hA hval
  obtain ⟨v0, vs0, d0, ds0, p0, q0, hargs, rfl, rfl, h0, hA⟩ := trodAll_cons hA
  obtain ⟨v1, vs1, d1, ds1, p1, q1, rfl, rfl, rfl, h1, hA⟩ := trodAll_cons hA
  obtain ⟨v2, vs2, d2, ds2, p2, q2, rfl, rfl, rfl, h2, hA⟩ := trodAll_cons hA
  obtain ⟨rfl, rfl, rfl⟩ := trodAll_nil hA
  obtain rfl : args = #[v0, v1, v2] := by cases args; simp_all
  obtain ⟨A0, n0, c0, xs0, rfl, hnc0, hc0, hr0, hx0⟩ := open_nums Try.underlying48 Try.underlying88 (by as_aux_lemma => kernel_rfl) (hval 0 _ v0 rfl rfl) (fun x hx => hW'.lt x (by simp [hx])) h0
  obtain ⟨A1, n1, c1, xs1, rfl, hnc1, hc1, hr1, hx1, hd1⟩ := open_nums2 Try.underlying49 Try.underlying3 (by as_aux_lemma => kernel_rfl) (hval 1 _ v1 rfl rfl) (fun x hx => hW'.lt x (by simp [hx])) h1
  have hm1 : n1 * 8 ≤ 140737488351232 := by
    rcases hd1 with h0 | ⟨D, E, rfl, hD⟩
    · omega
    · have h5 : (D.length + E.length) * Try.prog.bytesOf 3 ≤ reachBytes := sized_slice hsz (j := 1) (t := 49) (e := 3) rfl rfl Try.underlying49
      rw [k_int_bytes, hD] at h5
      simp only [reachBytes] at h5
      omega
  obtain ⟨A2, n2, c2, xs2, rfl, hnc2, hc2, hr2, hx2, hd2⟩ := open_nums2 Try.underlying49 Try.underlying3 (by as_aux_lemma => kernel_rfl) (hval 2 _ v2 rfl rfl) (fun x hx => hW'.lt x (by simp [hx])) h2
  have hm2 : n2 * 8 ≤ 140737488351232 := by
    rcases hd2 with h0 | ⟨D, E, rfl, hD⟩
    · omega
    · have h5 : (D.length + E.length) * Try.prog.bytesOf 3 ≤ reachBytes := sized_slice hsz (j := 2) (t := 49) (e := 3) rfl rfl Try.underlying49
      rw [k_int_bytes, hD] at h5
      simp only [reachBytes] at h5
      omega
  refine (planDown_any A0 n0 c0 xs0 A1 n1 c1 xs1 A2 n2 c2 xs2 W hr0 hnc0 hc0 hx0 hr1 hnc1 hc1 hx1 hm1 hr2 hnc2 hc2 hx2 hm2).mono fun e W' ⟨he, hb⟩ => ?_
  subst he
  exact ⟨_, rfl, law_post laidOut Try.underlying4 rfl (by as_aux_lemma => kernel_rfl) rfl rfl hW' hb⟩

set_option maxHeartbeats 10000000 in
theorem closed : joinedFacts Try.prog 8 Try.f8 Rows.planDownSpec Rows.planDownRow = true := by
  unfold joinedFacts
  simp only [Bool.and_eq_true]
  repeat' apply And.intro
  all_goals as_aux_lemma => kernel_rfl

set_option maxHeartbeats 1000000 in
theorem proved : Rows.PlanDownSaid :=
  OpenClaim.holds_of_wide 8 Try.f8 rfl rfl rfl rfl rfl rfl rfl ⟨rfl, rfl, rfl, rfl, rfl⟩ rfl rfl rfl rfl rfl (by as_aux_lemma => kernel_rfl) Try.func8 closed
    (of_decide_eq_true (by as_aux_lemma => kernel_rfl)) (by unfold Func.isWrapper; first | (rw [if_pos (by decide +kernel)]; kernel_rfl) | (rw [if_neg (by decide +kernel)]; exact ⟨rfl, rfl⟩))
    (fun os started H enc _ => lifted os started H enc)
end PlanDown
end Go.Proofs.Ytdlmnnibgpfdbab
