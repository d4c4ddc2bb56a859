/-
  PlanGaps answers true for every arena and lists, and changes no argument: after compaction there are at most as many gaps as pinned objects plus one. No condition.
-/
import Derived.Test.YtdlmnnibgpfdbabPlanGapsFn
import Derived.Test.YtdlmnnibgpfdbabPlanLaw
import Derived.Test.YtdlmnnibgpfdbabLawNums
import Derived.Test.YtdlmnnibgpfdbabAt
namespace Go.Proofs.Ytdlmnnibgpfdbab
open Go.RowKit

set_option maxHeartbeats 400000 in
theorem planGapsLaw_bad (A A2 A3 : Option Addr) (n c n2 c2 m c3 : Nat) (a keep pinned : List Int) (w : World) (hr : Reads w w.heap.size 1 A n (a.map (.int .u64))) (hnc : n ≤ c) (ha : ∀ x ∈ a, (Lit.int .u64 x).wf = true)
    (hr2 : Reads w w.heap.size 1 A2 n2 (keep.map (.int .i64))) (hr3 : Reads w w.heap.size 1 A3 m (pinned.map (.int .i64))) (hn2 : n2 * 8 ≤ 140737488351232) (hm : m ≤ 1000000000000000000) (hE : longsE a keep pinned ≠ 0) :
    Calls Try.prog 7 #[.slice A n c, .slice A2 n2 c2, .slice A3 m c3] w fun e w' => e = .returned (.bool true) ∧ Below w.heap.size w w' := by
  have H1 := Lib.hid (fun w hr hr2 hr3 => planGapsFn_bad A A2 A3 n c n2 c2 m c3 a keep pinned w hr hnc ha hr2 hr3 hn2 hm hE)
  generalize longsE a keep pinned = E at *
  have hE1 : (E != 0) = true := by simpa using hE
  clear hE
  go_enter Try.func7, Try.ntmps7
  go_wp2_with (go_at_call 24; refine (plans_true _).mono ?_; rintro e w1 ⟨rfl, hb1⟩)
  go_wp2_with fail
  refine (H1.out _ ((hr.below hb1).more hb1.size) ((hr2.below hb1).more hb1.size) ((hr3.below hb1).more hb1.size)).mono ?_
  rintro e w2 ⟨rfl, hb2⟩
  go_wp2
  go_ret
  exact ⟨rfl, below_step hb1 hb2⟩

theorem isum_take {L : List Int} (h : ∀ (j : Nat) (k : Int), L[j]? = some k → 0 ≤ k ∧ k ≤ 256) : ∀ j, j ≤ L.length → 0 ≤ isum (L.take j) ∧ isum (L.take j) ≤ 256 * j := by
  intro j
  induction j with
  | zero => intro _; simp [isum]
  | succ j ih =>
    intro hj
    have hlt : j < L.length := by omega
    rw [List.take_succ_eq_append_getElem hlt, isum_append]
    have := h j _ (List.getElem?_eq_getElem hlt)
    have := ih (by omega)
    simp only [isum]
    omega
theorem rsum_take {L : List Rn} (h : ∀ r ∈ L, 0 ≤ r.len ∧ r.len ≤ 256) : ∀ j, j ≤ L.length → 0 ≤ rsum (L.take j) ∧ rsum (L.take j) ≤ 256 * j := by
  intro j
  induction j with
  | zero => intro _; simp [rsum]
  | succ j ih =>
    intro hj
    have hlt : j < L.length := by omega
    rw [List.take_succ_eq_append_getElem hlt, rsum_append]
    have := h _ (List.getElem_mem hlt)
    have := ih (by omega)
    simp only [rsum]
    omega

set_option maxRecDepth 100000 in
set_option maxHeartbeats 2000000 in
theorem planGapsLaw_ok (A A2 A3 : Option Addr) (n c n2 c2 m c3 : Nat) (a keep pinned : List Int) (w : World) (hr : Reads w w.heap.size 1 A n (a.map (.int .u64))) (hnc : n ≤ c) (ha : ∀ x ∈ a, (Lit.int .u64 x).wf = true)
    (hr2 : Reads w w.heap.size 1 A2 n2 (keep.map (.int .i64))) (hr3 : Reads w w.heap.size 1 A3 m (pinned.map (.int .i64))) (hn2 : n2 * 8 ≤ 140737488351232) (hm : m ≤ 1000000000000000000) (hE : longsE a keep pinned = 0) :
    Calls Try.prog 7 #[.slice A n c, .slice A2 n2 c2, .slice A3 m c3] w fun e w' => e = .returned (.bool true) ∧ Below w.heap.size w w' := by
  obtain ⟨hK, hN⟩ := kept_of hE
  obtain ⟨hC, hri, -, hfound, -⟩ := longsE_ok.1 hE
  have hE0 := (checkE_ok.1 hC).1
  have hal : a.length = n := by have := hr.1; simpa using this
  have hk2 : keep.length = n2 := by have := hr2.1; simpa using this
  have hpl : pinned.length = m := by have := hr3.1; simpa using this
  have hst : ∀ x, keep[0]? = some x → 0 ≤ x := fun x hx => by have := (kept_len hK 0 x hx).1; omega
  have hS := slid_of a.length pinned keep _ 0 hK hst
  have hn256 : n2 ≤ 256 := by have := kept_len2 hK (by omega); omega
  have hV : longsV a keep pinned = keep.map (longAt (spotsL a)) := by unfold longsV; rw [if_pos hE]
  have hLL : ∀ (j : Nat) (k : Int), (longsV a keep pinned)[j]? = some k → 0 ≤ k ∧ k ≤ 256 := fun j k hj => by
    obtain ⟨x, hx⟩ : ∃ x, keep[j]? = some x := ⟨_, List.getElem?_eq_getElem (by rw [← hK.same]; exact (List.getElem?_eq_some_iff.1 hj).1)⟩
    have := hK.at_ j x k hx hj
    omega
  have H1 := Lib.hid (fun w hr hr2 hr3 => planGapsFn_any A A2 A3 n c n2 c2 m c3 a keep pinned w hr hnc ha hr2 hr3 hn2 hm hE (fun j y k hy hk => by
    obtain ⟨x, hx⟩ : ∃ x, keep[j]? = some x := ⟨_, List.getElem?_eq_getElem (by rw [← hK.same]; exact (List.getElem?_eq_some_iff.1 hk).1)⟩
    have := hK.at_ j x k hx hk
    have := hS.low j y hy
    have := (hS.at_ j x y k hx hk hy).2.2.1
    omega) (by rw [hS.len, hk2]) hn256)
  obtain ⟨p1, p2⟩ := pgaps_sum a.length pinned keep _ 0 hK hst (by omega)
  have p4 : (pgaps a.length 0 (slidGo pinned 0 keep (longsV a keep pinned)) (longsV a keep pinned)).length ≤ 257 := by
    have h1 := pgaps_count a.length pinned keep (longsV a keep pinned) 0
    have h2 := List.length_filter_le (fun x => decide (x ∈ pinned)) keep
    omega
  have p3 := pgaps_few (N := a.length) (pinned := pinned) (L := longsV a keep pinned) hri
  have HF := Lib.hid (fun x (hx : x ∈ keep) => spots_of_ix hE0 (hfound x hx))
  have HAt := Lib.hid (fun x i s hix hs w hr => at_ok A n c a x i s w hr hnc ha hC hix hs)
  have HLG : Hid (∀ (j : Nat) (x : Int), keep[j]? = some x → (longsV a keep pinned)[j]? = some (longAt (spotsL a) x)) := fun j x h => by rw [hV, List.getElem?_map, h]; rfl
  have hLn : (longsV a keep pinned).length = n2 := by rw [hK.same, hk2]
  rw [hal] at p1 p2 p3 p4 hN
  rw [hpl] at p3
  generalize longsV a keep pinned = L at *
  generalize slidGo pinned 0 keep L = Y at *
  generalize pgaps (n : Int) 0 Y L = G at *
  have hIT := isum_take hLL
  have hRT := rsum_take (L := G) (fun r hr => by have := p2 r hr; omega)
  rw [hLn] at hIT
  obtain ⟨g, hg⟩ : ∃ g, g = G.length := ⟨_, rfl⟩
  rw [← hg] at hRT p3 p4 H1
  have HIT := Lib.hid hIT
  have HRT := Lib.hid hRT
  have P1 := Lib.hid p1
  have HG := Lib.hid hg
  have HLN := Lib.hid hLn
  clear hK hS hE hC hE0 hfound hV hri hal hIT hRT hLL p1 p2 hst hg hLn hk2 hpl
  go_enter Try.func7, Try.ntmps7
  go_wp2_with (go_at_call 24; refine (plans_true _).mono ?_; rintro e w1 ⟨rfl, hb1⟩)
  go_wp2_with fail
  refine (H1.out _ ((hr.below hb1).more hb1.size) ((hr2.below hb1).more hb1.size) ((hr3.below hb1).more hb1.size)).mono ?_
  rintro e w2 ⟨hb2, AG, cG, rfl, hownG⟩
  have hrG := Reads.of_own hownG
  have hb02 := below_step hb1 hb2
  have hra := (hr.below hb02).more hb02.size
  have hrk := (hr2.below hb02).more hb02.size
  clear hownG hb1 hb2
  go_wp2
  go_loopw [9, 11, 12, 13, 34] (fun fr _ _ _ i wr => ∃ (j : Nat) (v : Int), j ≤ n2 ∧ i = .int .i64 j ∧ fr = .int .i64 v ∧ -65536 ≤ v ∧ v ≤ 256 ∧ Hid (v = n - isum (L.take j)) ∧ Below w2.heap.size w2 wr) (fun _ _ _ _ i _ => n2 - (intOf i).toNat)
  case atStart => exact ⟨0, n, Nat.zero_le _, rfl, rfl, by omega, by omega, by show _ = _; simp [isum], Below.refl _ _⟩
  case round =>
    obtain ⟨j, v, hj, rfl, rfl, hv0, hv1, hv, hb⟩ := hrel
    by_cases hlt : j < n2
    · obtain ⟨ad, x, rfl, had, hx, cx⟩ := (hrk.below hb).num hlt
      obtain ⟨i, s, -, hs, hl1, hl2, hok, hlg, hix⟩ := HF.out x (List.mem_of_getElem? hx)
      have hLj := HLG.out j x hx
      rw [hlg] at hLj
      have HT : Hid (L.take (j + 1) = L.take j ++ [s.long]) := by
        show _ = _
        obtain ⟨h1, h2⟩ := List.getElem?_eq_some_iff.1 hLj
        rw [← h2]
        exact List.take_succ_eq_append_getElem h1
      have HA := Lib.hid (HAt.out x i s hix hs)
      have hr0 := hok.r0
      have hb0 := hok.b0
      have hf := hok.fit256
      clear hok hs hl1 hl2 hlg hix hLj hx
      obtain ⟨loc, r, b, t, f⟩ := s
      unfold Spot.long at *
      dsimp only at *
      obtain ⟨rn, rfl⟩ : ∃ rn : Nat, r = rn := ⟨r.toNat, by omega⟩
      obtain ⟨bn, rfl⟩ : ∃ bn : Nat, b = bn := ⟨b.toNat, by omega⟩
      simp only [Int.toNat_natCast] at HA
      have HV2 : Hid (v - (1 + (rn : Int) + bn) = n - isum (L.take (j + 1))) := by
        show _ = _
        rw [HT.out, isum_append, hv.out]
        simp only [isum]
        omega
      have hbd := HIT.out (j + 1) (by omega)
      have hv2 := HV2.out
      have w1' : IntKind.i64.wrap (1 + (rn : Int)) = 1 + rn := IntWalk.i64_in _ (by omega)
      have w2' : IntKind.i64.wrap (1 + (rn : Int) + bn) = 1 + rn + bn := IntWalk.i64_in _ (by omega)
      have w3' : IntKind.i64.wrap (v - (1 + (rn : Int) + bn)) = v - (1 + rn + bn) := IntWalk.i64_in _ (by omega)
      have hv3 : -65536 ≤ v - (1 + (rn : Int) + bn) := by omega
      clear hbd hv2
      go_wp2_with fail
      refine (HA.out _ ((hra.below hb).more hb.size)).mono ?_
      rintro ex w3 ⟨hb3, B1, d1, B2, d2, rfl, -, -⟩
      have hb03 := hb.trans (hb3.mono hb.size)
      have hbx := hb03.alloc hb03.size (.cells #[.int .i64 t, .slice B1 rn d1, .slice B2 bn d2, .bool f] 57)
      clear hb3 hb03
      go_wp2
      go_roundw
      case rel => exact ⟨j + 1, v - (1 + rn + bn), by omega, by go_num, rfl, hv3, by omega, HV2, hbx⟩
      case measure => simp [intOf]; omega
    · have hjn : j = n2 := by omega
      subst hjn
      rw [List.take_of_length_le (by rw [HLN.out]; exact Nat.le_refl _)] at hv
      have hbW := below_step hb02 hb
      have hrG2 := (hrG.below hb).more hb.size
      obtain ⟨wo, hwo⟩ : ∃ x, x = wr := ⟨wr, rfl⟩
      subst hwo
      clear hb hb02 hrG
      go_wp2
      go_loopw [9, 15, 59] (fun fr _ i wr => ∃ (j : Nat) (u : Int), j ≤ g ∧ i = .int .i64 j ∧ fr = .int .i64 u ∧ -262144 ≤ u ∧ u ≤ 256 ∧ Hid (u = v - rsum (G.take j)) ∧ Below wo.heap.size wo wr) (fun _ _ i _ => g - (intOf i).toNat)
      case atStart => exact ⟨0, v, Nat.zero_le _, rfl, rfl, by omega, by omega, by show _ = _; simp [rsum], Below.refl _ _⟩
      case round =>
        obtain ⟨i, u, hi, rfl, rfl, hu0, hu1, hu, hb⟩ := hrel
        by_cases hlt : i < g
        · obtain ⟨ad, r, rfl, had, hs, c0, c1⟩ := (hrG2.below hb).run hlt
          have HT : Hid (G.take (i + 1) = G.take i ++ [r]) := by
            show _ = _
            obtain ⟨h1, rfl⟩ := List.getElem?_eq_some_iff.1 hs
            exact List.take_succ_eq_append_getElem h1
          have HU2 : Hid (u - r.len = v - rsum (G.take (i + 1))) := by
            show _ = _
            rw [HT.out, rsum_append, hu.out]
            simp only [rsum]
            omega
          have hbd := HRT.out (i + 1) (by omega)
          have hbd0 := HRT.out i (by omega)
          have hu2 := HU2.out
          have hu3 := hu.out
          have hbd2 : -262144 ≤ u - r.len ∧ u - r.len ≤ 256 := by
            omega
          obtain ⟨l, k⟩ := r
          dsimp only at *
          have hw : IntKind.i64.wrap (u - k) = u - k := IntWalk.i64_in _ (by omega)
          have hbx := hb.alloc hb.size (.cells #[.int .i64 l, .int .i64 k] 35)
          clear hs hbd hbd0 hu2 hu3
          go_wp2
          go_roundw
          case rel => exact ⟨i + 1, u - k, by omega, by go_num, rfl, hbd2.1, hbd2.2, HU2, hbx⟩
          case measure => simp [intOf]; omega
        · have hig : i = g := by omega
          subst hig
          rw [List.take_of_length_le (by rw [← HG.out]; exact Nat.le_refl _)] at hu
          have hu0 : u = 0 := by have h1 := hu.out; have h2 := hv.out; have h3 := P1.out; omega
          subst hu0
          have hfew : (i : Int) ≤ (m : Int) + 1 := by omega
          have hw : IntKind.i64.wrap ((m : Int) + 1) = (m : Int) + 1 := IntWalk.i64_in _ (by omega)
          go_wp2
          go_ret
          exact ⟨by first | rfl | simp [hfew], below_step hbW hb⟩

theorem planGaps_any (A0 : Option Addr) (n0 c0 : Nat) (xs0 : List Int) (A1 : Option Addr) (n1 c1 : Nat) (xs1 : List Int) (A2 : Option Addr) (n2 c2 : Nat) (xs2 : List Int) (w : World)
    (hr0 : Reads w w.heap.size 1 A0 n0 (xs0.map (.int .u64))) (hnc0 : n0 ≤ c0) (_ : c0 ≤ maxLen) (hx0 : ∀ x ∈ xs0, (Lit.int .u64 x).wf = true)
    (hr1 : Reads w w.heap.size 1 A1 n1 (xs1.map (.int .i64))) (_ : n1 ≤ c1) (_ : c1 ≤ maxLen) (_ : ∀ x ∈ xs1, (Lit.int .i64 x).wf = true) (hm1 : n1 * 8 ≤ 140737488351232)
    (hr2 : Reads w w.heap.size 1 A2 n2 (xs2.map (.int .i64))) (_ : n2 ≤ c2) (_ : c2 ≤ maxLen) (_ : ∀ x ∈ xs2, (Lit.int .i64 x).wf = true) (hm2 : n2 * 8 ≤ 140737488351232) :
    Calls Try.prog 7 #[.slice A0 n0 c0, .slice A1 n1 c1, .slice A2 n2 c2] w fun e w' => e = .returned (.bool true) ∧ Below w.heap.size w w' := by
  by_cases hE : longsE xs0 xs1 xs2 = 0
  · exact planGapsLaw_ok A0 A1 A2 n0 c0 n1 c1 n2 c2 xs0 xs1 xs2 w hr0 hnc0 hx0 hr1 hr2 hm1 (by omega) hE
  · exact planGapsLaw_bad A0 A1 A2 n0 c0 n1 c1 n2 c2 xs0 xs1 xs2 w hr0 hnc0 hx0 hr1 hr2 hm1 (by omega) hE

namespace PlanGaps
open Go.ChangeShapes Go.WideShapes Go.ChangeAt Go.RowKit
theorem own : ownKnob Try.prog.godebug = none := by kernel_rfl
theorem laidOut : laidOutB Try.prog = true := by kernel_rfl

set_option maxRecDepth 100000 in
theorem lifted (os : Os) (started : os.Started) (H : Type) (enc : TypeId × Value → H) :
    ReturnsInHanded {} Try.checked os 7 .any (Rows.planGapsSpec.pre6 enc Try.prog Try.f7 Rows.planGapsRow.domain false) (Rows.planGapsSpec.post enc Try.prog Try.f7 false true false false) := by
  refine returnsInHanded_of_change_sized (C := Try.checked) own started (by as_aux_lemma => kernel_rfl) Try.func7
    (ChangeSpec.witness6 (enc := enc) (C := Try.checked) false ⟨#[], #[.slice none 0 0, .slice none 0 0, .slice none 0 0], []⟩ 8 (by as_aux_lemma => kernel_rfl) (by as_aux_lemma => kernel_rfl) (by as_aux_lemma => kernel_rfl) (by as_aux_lemma => kernel_rfl)) ?_
  intro W base args ds gs before hval0 hW hcnd hsz _
  have hval : ∀ (j : Nat) t v, Try.f7.params[j]? = some t → args[j]? = some v → Value.okWide Try.prog W .any base t v := hval0
  have hW' := hW
  obtain ⟨p, q, hA0, hV, rfl, hfz, hnd⟩ := hW
  have hA : DataW.TrodAll enc Try.prog W 0 (fun _ => true) true Try.f7.params.toList args.toList ds p := hA0
  rw [Try.params7] at hA hval
  obtain ⟨v0, vs0, d0, ds0, p0, q0, hargs, rfl, rfl, h0, hA⟩ := trodAll_cons hA
  obtain ⟨v1, vs1, d1, ds1, p1, q1, rfl, rfl, rfl, h1, hA⟩ := trodAll_cons hA
  obtain ⟨v2, vs2, d2, ds2, p2, q2, rfl, rfl, rfl, h2, hA⟩ := trodAll_cons hA
  obtain ⟨rfl, rfl, rfl⟩ := trodAll_nil hA
  obtain rfl : args = #[v0, v1, v2] := by cases args; simp_all
  obtain ⟨A0, n0, c0, xs0, rfl, hnc0, hc0, hr0, hx0⟩ := open_nums Try.underlying48 Try.underlying88 (by as_aux_lemma => kernel_rfl) (hval 0 _ v0 rfl rfl) (fun x hx => hW'.lt x (by simp [hx])) h0
  obtain ⟨A1, n1, c1, xs1, rfl, hnc1, hc1, hr1, hx1, hd1⟩ := open_nums2 Try.underlying49 Try.underlying3 (by as_aux_lemma => kernel_rfl) (hval 1 _ v1 rfl rfl) (fun x hx => hW'.lt x (by simp [hx])) h1
  have hm1 : n1 * 8 ≤ 140737488351232 := by
    rcases hd1 with h0 | ⟨D, E, rfl, hD⟩
    · omega
    · have h5 : (D.length + E.length) * Try.prog.bytesOf 3 ≤ reachBytes := sized_slice hsz (j := 1) (t := 49) (e := 3) rfl rfl Try.underlying49
      rw [k_int_bytes, hD] at h5
      simp only [reachBytes] at h5
      omega
  obtain ⟨A2, n2, c2, xs2, rfl, hnc2, hc2, hr2, hx2, hd2⟩ := open_nums2 Try.underlying49 Try.underlying3 (by as_aux_lemma => kernel_rfl) (hval 2 _ v2 rfl rfl) (fun x hx => hW'.lt x (by simp [hx])) h2
  have hm2 : n2 * 8 ≤ 140737488351232 := by
    rcases hd2 with h0 | ⟨D, E, rfl, hD⟩
    · omega
    · have h5 : (D.length + E.length) * Try.prog.bytesOf 3 ≤ reachBytes := sized_slice hsz (j := 2) (t := 49) (e := 3) rfl rfl Try.underlying49
      rw [k_int_bytes, hD] at h5
      simp only [reachBytes] at h5
      omega
  refine (planGaps_any A0 n0 c0 xs0 A1 n1 c1 xs1 A2 n2 c2 xs2 W hr0 hnc0 hc0 hx0 hr1 hnc1 hc1 hx1 hm1 hr2 hnc2 hc2 hx2 hm2).mono fun e W' ⟨he, hb⟩ => ?_
  subst he
  exact ⟨_, rfl, law_post laidOut Try.underlying4 rfl (by as_aux_lemma => kernel_rfl) rfl rfl hW' hb⟩

set_option maxHeartbeats 10000000 in
theorem closed : joinedFacts Try.prog 7 Try.f7 Rows.planGapsSpec Rows.planGapsRow = true := by
  unfold joinedFacts
  simp only [Bool.and_eq_true]
  repeat' apply And.intro
  all_goals as_aux_lemma => kernel_rfl

set_option maxHeartbeats 1000000 in
theorem proved : Rows.PlanGapsSaid :=
  OpenClaim.holds_of_wide 7 Try.f7 rfl rfl rfl rfl rfl rfl rfl ⟨rfl, rfl, rfl, rfl, rfl⟩ rfl rfl rfl rfl rfl (by as_aux_lemma => kernel_rfl) Try.func7 closed
    (of_decide_eq_true (by as_aux_lemma => kernel_rfl)) (by unfold Func.isWrapper; first | (rw [if_pos (by decide +kernel)]; kernel_rfl) | (rw [if_neg (by decide +kernel)]; exact ⟨rfl, rfl⟩))
    (fun os started H enc _ => lifted os started H enc)
end PlanGaps
end Go.Proofs.Ytdlmnnibgpfdbab
