/-
  TallyCounts answers true for all arenas and lists, and changes no argument: the sum of all counts is the number of references that are not null plus the number of start words.
-/
import Derived.Test.YtdlmnnibgpfdbabTallyCounter
import Derived.Test.YtdlmnnibgpfdbabTintFns
import Derived.Test.YtdlmnnibgpfdbabLaw
import Derived.Test.YtdlmnnibgpfdbabLawNums
namespace Go.Proofs.Ytdlmnnibgpfdbab
open Go.RowKit

set_option maxHeartbeats 400000 in
theorem counts_bad (A : Option Addr) (n c : Nat) (a : List Int) (A2 : Option Addr) (n2 c2 : Nat) (w : World) (hr : Reads w w.heap.size 1 A n (a.map (.int .u64))) (hnc : n ≤ c) (ha : ∀ x ∈ a, (Lit.int .u64 x).wf = true) (hE : checkE a ≠ 0) :
    Calls Try.prog 21 #[.slice A n c, .slice A2 n2 c2] w fun e w' => e = .returned (.tuple #[.slice none 0 0, .int .i64 (checkE a)]) ∧ Below w.heap.size w w' := by
  have H := Lib.hid (fun w hr => counter_bad A n c a A2 n2 c2 w hr hnc ha hE)
  have hE1 : (checkE a != 0) = true := by simpa using hE
  generalize checkE a = E at *
  clear hE
  go_enter Try.func21, Try.ntmps21
  go_wp2_with fail
  refine (H.out _ hr).mono ?_
  rintro e w1 ⟨rfl, hb1⟩
  go_wp2
  go_ret2
  exact ⟨rfl, hb1⟩

def countsL (l xs : List Int) : List Int := xs.map fun x => (l.count x : Int)

set_option maxRecDepth 100000 in
set_option maxHeartbeats 2000000 in
theorem counts_ok (A : Option Addr) (n c : Nat) (a : List Int) (A2 : Option Addr) (n2 c2 : Nat) (f : List Int) (w : World) (hr : Reads w w.heap.size 1 A n (a.map (.int .u64))) (hnc : n ≤ c) (ha : ∀ x ∈ a, (Lit.int .u64 x).wf = true)
    (hr2 : Reads w w.heap.size 1 A2 n2 (f.map (.int .i64))) (hn2 : n2 ≤ 1000000000000000000) (hx2 : ∀ x ∈ f, (Lit.int .i64 x).wf = true) (hE : checkE a = 0) :
    Calls Try.prog 21 #[.slice A n c, .slice A2 n2 c2] w fun e w' => Below w.heap.size w w' ∧
      (((∀ x ∈ f, x ∈ begsL (spotsL a)) ∧ ∃ A' c', e = .returned (.tuple #[.slice A' (begsL (spotsL a)).length c', .int .i64 0]) ∧ w'.ownsRow w.heap.size 3 1 (.slice A' (begsL (spotsL a)).length c') (begsL (spotsL a)).length ((countsL (allLinks a (spotsL a) ++ f) (begsL (spotsL a))).map (.int .i64))) ∨
       ((∃ x ∈ f, x ∉ begsL (spotsL a)) ∧ e = .returned (.tuple #[.slice none 0 0, .int .i64 5]))) := by
  have h0 := (checkE_ok.1 hE).1
  have H := Lib.hid (fun w hr hr2 => counter_ok A n c a A2 n2 c2 f w hr hnc ha hr2 hn2 hx2 hE)
  have HBb := Lib.hid (begsL_bounds h0)
  have hkb : (begsL (spotsL a)).length ≤ 256 := by
    unfold begsL
    rw [List.length_map]
    have := List.length_filter_le (fun s : Spot => !s.f) (spotsL a)
    have := spotsL_length a
    omega
  generalize spotsL a = S at *
  generalize allLinks a S ++ f = l at *
  obtain ⟨i0, hi, hz0, hz1, hz2⟩ := info_parts info_int
  clear hE h0 ha hx2
  go_enter Try.func21, Try.ntmps21
  go_wp2_with fail
  refine (H.out _ hr hr2).mono ?_
  rintro e w1 ⟨hb1, ⟨hall, gh, rfl, hC⟩ | ⟨hex, rfl⟩⟩
  · have HALL := Lib.hid hall
    obtain ⟨b1, b2, R0, N1, N2, Ao, k, co, f1, gB, g1, g2, g3, g4, g5, g6, g7, g8, gM1, gM2, g9, g10, g11, gO, gK, gF⟩ := hC
    have hrO := Reads.of_own gO
    have k0 := gB.cell 0
    have k2 := gB.cell 2
    simp only [List.getElem?_toArray, List.getElem?_cons_zero, List.getElem?_cons_succ] at k0 k2
    have HK := Lib.hid g11
    rw [← g11] at hkb
    have hM2l := gM2.lt
    have hBl := gB.lt
    clear hall gM1 gO gK gF g9 g10 g11 g1 g2 g3 g4 g5 g6 g7 g8
    go_wp2
    go_loopw [8, 10, 25] (fun o _ i wr => ∃ (j c' : Nat) (A' : Option Addr), j ≤ k ∧ i = .int .i64 j ∧ o = .slice A' j c' ∧ Hid (wr.ownsRow w1.heap.size 3 1 (.slice A' j c') j ((countsL l ((begsL S).take j)).map (.int .i64))) ∧ Below w1.heap.size w1 wr) (fun _ _ i _ => k - (intOf i).toNat)
    case atStart => exact ⟨0, 0, none, Nat.zero_le _, rfl, rfl, World.ownsRow_nil _ _ _ _, Below.refl _ _⟩
    case round =>
      obtain ⟨j, c', A', hj, rfl, rfl, HO, hb⟩ := hrel
      by_cases hlt : j < k
      · obtain ⟨ad, x, rfl, had, hx, cx⟩ := (hrO.below hb).num hlt
        have hxb := HBb.out x (List.mem_of_getElem? hx)
        have hwx : (Lit.int .i64 x).wf = true := by simp [Lit.wf, IntKind.min, IntKind.max, IntKind.signed, IntKind.bits]; omega
        have gBr := gB.below hb hBl
        have k2r := gBr.cell 2
        simp only [List.getElem?_toArray, List.getElem?_cons_zero, List.getElem?_cons_succ] at k2r
        have hlC := (gM2.below hb hM2l).look (k := 3) (t := 78) Try.underlying3 Try.underlying78 (zero_intv _) hwx
        rw [manyF_get] at hlC
        have HT : Hid (countsL l ((begsL S).take (j + 1)) = countsL l ((begsL S).take j) ++ [(l.count x : Int)]) := by
          show _ = _
          obtain ⟨q1, q2⟩ := List.getElem?_eq_some_iff.1 hx
          unfold countsL
          rw [List.take_succ_eq_append_getElem q1, List.map_append, q2]
          rfl
        generalize (l.count x : Int) = C at *
        have hrn := reads_new wr [.int .i64 C] 3 1 1 rfl
        have hOy := HO.out.alloc (.cells #[.int .i64 C] 3)
        have hby := hb.alloc hb.size (.cells #[.int .i64 C] 3)
        have hws := hb.size
        have hj1 : j + 1 ≤ k := hlt
        clear hx hxb gBr HO
        go_wp2_with (at_builtin; refine wpList_append_any _ rfl (.tmp 29) (.tmp 36) 49 rfl w1.heap.size 3 i0 (.int .i64 0) 1 8 Try.underlying49 hi hz0 hz1 hz2 rfl (by decide) (.slice A' j c') j _ rfl hOy _ (some ⟨wr.heap.size, 0, none⟩) 1 1 [.int .i64 C] rfl hrn (by simp [Value.oneCell']) (by unfold maxLen; omega) (by omega) (by simp; omega) ?_; rintro v' w3 hown3 hgr - -; obtain ⟨A5, c5, rfl⟩ := own_slice hown3)
        go_roundw
        case rel =>
          refine ⟨j + 1, c5, A5, hj1, by go_num, rfl, ?_, hby.grown hgr hby.size (fun g hg => by have := (hOy.lt g hg).1; omega)⟩
          show World.ownsRow _ _ _ _ _ _ _
          rw [HT.out, List.map_append]
          exact hown3
        case measure => simp [intOf]; omega
      · have hjk : j = k := by omega
        have HO2 : Hid (wr.ownsRow w.heap.size 3 1 (.slice A' k c') k ((countsL l (begsL S)).map (.int .i64))) := by
          have := HO.out
          rw [hjk, List.take_of_length_le (by rw [← HK.out]; exact Nat.le_refl _)] at this
          exact own_mono this hb1.size
        have HJ := Lib.hid hjk
        have g0 : decide (j < k) = false := decide_eq_false hlt
        clear hjk HO
        go_wp2
        go_ret2
        refine ⟨below_step hb1 hb, .inl ⟨HALL.out, A', c', ?_, ?_⟩⟩
        · rw [← HK.out, HJ.out]; rfl
        · rw [← HK.out]; exact HO2.out
  · have HEX := Lib.hid hex
    clear hex
    go_wp2
    go_ret2
    exact ⟨hb1, .inr ⟨HEX.out, rfl⟩⟩

theorem tallies_facts : checkE [1, 1] = 0 ∧ spotsL [1, 1] = [⟨0, 1, 0, 0, false⟩] ∧ begsL (spotsL [1, 1]) = [0] ∧ countsL (allLinks [1, 1] (spotsL [1, 1]) ++ [0]) (begsL (spotsL [1, 1])) = [2] := by decide

set_option maxHeartbeats 400000 in
theorem tallies_true (w : World) : Calls Try.prog 20 #[] w fun e w' => e = .returned (.bool true) ∧ Below w.heap.size w w' := by
  have H := Lib.hid (fun A A2 w hr hr2 => counts_ok A 2 2 [1, 1] A2 1 1 [0] w hr (by decide) (by decide) hr2 (by decide) (by decide) tallies_facts.1)
  rw [tallies_facts.2.2.2, tallies_facts.2.2.1] at H
  have hn1 := reads_new w [.int .u64 1, .int .u64 1] 88 2 1 rfl
  have hb1 := below_new w (.cells #[.int .u64 1, .int .u64 1] 88)
  have hn2 := reads_new (w.alloc (.cells #[.int .u64 1, .int .u64 1] 88)) [.int .i64 0] 3 1 1 rfl
  have hb2 := below_new (w.alloc (.cells #[.int .u64 1, .int .u64 1] 88)) (.cells #[.int .i64 0] 3)
  have hn3 := (hn1.below (hb2.mono (by simp))).more (show w.heap.size + 1 ≤ ((w.alloc (.cells #[.int .u64 1, .int .u64 1] 88)).alloc (.cells #[.int .i64 0] 3)).heap.size by simp)
  simp only [World.size_alloc] at hn2
  have HS := fun w : World => (show Calls Try.prog 39 #[] w fun e w' => e = .returned (.slice (some ⟨w.heap.size, 0, none⟩) 2 2) ∧ w' = w.alloc (.cells #[.int .u64 1, .int .u64 1] 88) by
    go_enter Try.func39, Try.ntmps39
    go_wp2
    go_ret
    exact ⟨rfl, rfl⟩)
  have HS := Lib.hid HS
  go_enter Try.func20, Try.ntmps20
  go_wp2_with fail
  refine (HS.out _).mono ?_
  rintro e w1 ⟨rfl, rfl⟩
  go_wp2_with fail
  refine (H.out _ _ _ (by simpa using hn3) (by simpa using hn2)).mono ?_
  rintro e w2 ⟨hb3, ⟨-, A', c', rfl, hown⟩ | ⟨⟨x, hx, hx2⟩, -⟩⟩
  · obtain ⟨g, cap, hv, hg, -⟩ := hown.form (by decide)
    obtain ⟨rfl, rfl⟩ : A' = some ⟨g, 0, none⟩ ∧ c' = cap := by simpa using hv
    have hc := hown.cellAt 0 (by decide)
    simp at hc
    clear hown hv
    go_wp2
    go_ret
    exact ⟨by first | rfl | simp, below_step (below_step hb1 hb2) hb3⟩
  · exact absurd hx hx2
set_option maxRecDepth 100000 in
set_option maxHeartbeats 2000000 in
theorem tallyCounts_any (A : Option Addr) (n c : Nat) (a : List Int) (A2 : Option Addr) (n2 c2 : Nat) (f : List Int) (w : World) (hr : Reads w w.heap.size 1 A n (a.map (.int .u64))) (hnc : n ≤ c) (hc : c ≤ maxLen) (ha : ∀ x ∈ a, (Lit.int .u64 x).wf = true)
    (hr2 : Reads w w.heap.size 1 A2 n2 (f.map (.int .i64))) (hnc2 : n2 ≤ c2) (hc2 : c2 ≤ maxLen) (hx2 : ∀ x ∈ f, (Lit.int .i64 x).wf = true) (hm1 : n2 * 8 ≤ 140737488351232) :
    Calls Try.prog 6 #[.slice A n c, .slice A2 n2 c2] w fun e w' => e = .returned (.bool true) ∧ Below w.heap.size w w' := by
  have hn2 : n2 ≤ 1000000000000000000 := by omega
  have hn2' : n2 ≤ 20000000000000 := by omega
  have hfl : f.length = n2 := by have := hr2.1; simpa using this
  clear hc hnc2 hc2 hm1
  by_cases hE : checkE a = 0
  · have h0 := (checkE_ok.1 hE).1
    have H1 := Lib.hid (fun w hr hr2 => counts_ok A n c a A2 n2 c2 f w hr hnc ha hr2 hn2 hx2 hE)
    have HRf := Lib.hid (fun x s w hr hs => refsAt_ok A n c a x s w hr hnc ha hE hs)
    have HBg := Lib.hid (fun w hr => begins_any A n c a w hr ha)
    have hal := (parse_ok h0).1
    have hkb : (begsL (spotsL a)).length ≤ 256 := by
      unfold begsL
      rw [List.length_map]
      have := List.length_filter_le (fun s : Spot => !s.f) (spotsL a)
      have := spotsL_length a
      omega
    have hlinks : ∀ y ∈ allLinks a (spotsL a), y ∈ begsL (spotsL a) := fun y hy => by
      obtain ⟨s, hs, h⟩ := allLinks_mem hy
      exact links_begs hE hs y h
    have hlen := allLinks_length h0 (spotsL a) (fun s hs => hs)
    have hlsb : ∀ s, (linksL a s).length ≤ 256 := fun s => by
      have h1 : (linksL a s).length ≤ (refsOf a s).length := by
        unfold linksL
        rw [List.length_map]
        exact List.length_filter_le _ _
      have h2 : (refsOf a s).length ≤ a.length := by unfold refsOf; rw [List.length_take, List.length_drop]; omega
      omega
    have hLS := Lib.hid hlsb
    have hnd := begsL_nodup h0
    have hSum : Hid ((∀ x ∈ f, x ∈ begsL (spotsL a)) → sumC (allLinks a (spotsL a) ++ f) (begsL (spotsL a)) = (linkSum a (spotsL a) (begsL (spotsL a)) : Int) + n2) := fun hf => by
      rw [sumC_all hnd (fun y hy => ?_)]
      · rw [List.length_append, hlen, hfl]; omega
      · rcases List.mem_append.1 hy with h | h
        · exact hlinks y h
        · exact hf y h
    have hCnt : Hid (∀ x, (allLinks a (spotsL a) ++ f).count x ≤ linkSum a (spotsL a) (begsL (spotsL a)) + n2) := fun x => by
      have := List.count_le_length (a := x) (l := allLinks a (spotsL a) ++ f)
      rw [List.length_append, hlen, hfl] at this
      exact this
    generalize allLinks a (spotsL a) ++ f = l at *
    have hBs := Lib.hid (fun x => @begsL_iff (spotsL a) x)
    generalize spotsL a = S at *
    obtain ⟨k, hk⟩ : ∃ k, k = (begsL S).length := ⟨_, rfl⟩
    rw [← hk] at hkb
    simp only [← hk] at H1 HBg
    have HK := Lib.hid hk
    have hng : IntKind.i64.wrap (-(n2 : Int)) = -(n2 : Int) := IntWalk.i64_in _ (by omega)
    clear hE h0 ha hx2 hlinks hlen hlsb hnd hfl hk hal
    go_enter Try.func6, Try.ntmps6
    go_wp2_with fail
    refine (tallies_true _).mono ?_
    rintro e w1 ⟨rfl, hb1⟩
    go_wp2_with fail
    refine (H1.out _ ((hr.below hb1).more hb1.size) ((hr2.below hb1).more hb1.size)).mono ?_
    rintro e w2 ⟨hb2, ⟨hall, A3, c3, rfl, hown⟩ | ⟨-, rfl⟩⟩
    · have hb02 := below_step hb1 hb2
      have HSum := Lib.hid (hSum.out hall)
      have hrC := Reads.of_own hown
      have HCL : Hid ((countsL l (begsL S)).length = k) := by show _ = _; unfold countsL; rw [List.length_map, HK.out]
      clear hown hall hb1 hb2 hSum
      go_wp2_with fail
      refine (HBg.out _ ((hr.below hb02).more hb02.size)).mono ?_
      rintro e w3 ⟨hb3, A5, c5, rfl, hown5⟩
      have hrB := Reads.of_own hown5
      have hb03 := below_step hb02 hb3
      have hrC3 := (hrC.below hb3).more hb3.size
      clear hown5 hrC hb02 hb3
      go_wp2
      go_loopw [7, 9, 31] (fun s _ i wr => ∃ (j T : Nat), j ≤ k ∧ i = .int .i64 j ∧ s = .int .i64 (-(n2 : Int) - T) ∧ T ≤ 256 * j ∧ Hid (T = linkSum a S ((begsL S).take j)) ∧ Below w3.heap.size w3 wr) (fun _ _ i _ => k - (intOf i).toNat)
      case atStart => exact ⟨0, 0, Nat.zero_le _, rfl, by simp, Nat.zero_le _, rfl, Below.refl _ _⟩
      case round =>
        obtain ⟨j, T, hj, rfl, rfl, hT1, HT, hb⟩ := hrel
        have hbw := below_step hb03 hb
        by_cases hlt : j < k
        · obtain ⟨ad, x, rfl, had, hx, cx⟩ := (hrB.below hb).num hlt
          have hxL := List.mem_of_getElem? hx
          obtain ⟨s, hs⟩ := (hBs.out x).1 hxL
          have HR := Lib.hid (HRf.out x s wr ((hr.below hbw).more hbw.size) hs)
          have hls := hLS.out s
          have HT2 : Hid (T + (linksL a s).length = linkSum a S ((begsL S).take (j + 1))) := by
            show _ = _
            obtain ⟨q1, q2⟩ := List.getElem?_eq_some_iff.1 hx
            rw [List.take_succ_eq_append_getElem q1, linkSum_snoc, q2, ← HT.out]
            unfold linksAt
            rw [hs]
          generalize linksL a s = M at *
          generalize M.length = z at *
          have q1 : T + z ≤ 256 * (j + 1) := by omega
          have w4 : IntKind.i64.wrap (-(n2 : Int) - T - z) = -(n2 : Int) - T - z := IntWalk.i64_in _ (by omega)
          have HQ : Hid (-(n2 : Int) - T - z = -(n2 : Int) - ((T + z : Nat) : Int)) := by show _ = _; omega
          have hj1 : j + 1 ≤ k := hlt
          clear hx hxL hs HT
          go_wp2_with fail
          refine HR.out.mono ?_
          rintro e w5 ⟨hb5, A6, c6, rfl, -⟩
          have hbx := hb.trans (hb5.mono hb.size)
          go_wp2
          go_roundw
          case rel => exact ⟨j + 1, T + z, hj1, by go_num, by rw [HQ.out], q1, HT2, hbx⟩
          case measure => simp [intOf]; omega
        · have hjk : j = k := by omega
          have HT2 : Hid (T = linkSum a S (begsL S)) := by
            have := HT.out
            rw [hjk, List.take_of_length_le (by rw [HK.out]; exact Nat.le_refl _)] at this
            exact this
          rw [← HT2.out] at HSum hCnt
          have g0 : decide (j < k) = false := decide_eq_false hlt
          have hrC4 := (hrC3.below hb).more hb.size
          have hT3 : T ≤ 65536 := by omega
          clear hjk HT HT2 hT1
          obtain ⟨wo, hwo⟩ : ∃ x, x = wr := ⟨wr, rfl⟩
          subst hwo
          go_wp2
          go_loopw [7, 11, 44] (fun s _ i wr => ∃ (j : Nat) (C : Nat), j ≤ k ∧ i = .int .i64 j ∧ s = .int .i64 ((C : Int) - n2 - T) ∧ C ≤ j * 20000000100000 ∧ Hid ((C : Int) = sumC l ((begsL S).take j)) ∧ Below wo.heap.size wo wr) (fun _ _ i _ => k - (intOf i).toNat)
          case atStart => exact ⟨0, 0, Nat.zero_le _, rfl, by congr 1; omega, Nat.zero_le _, rfl, Below.refl _ _⟩
          case round =>
            obtain ⟨j2, C, hj2, rfl, rfl, hC1, HC, hb6⟩ := hrel
            by_cases hlt2 : j2 < k
            · obtain ⟨ad, v, rfl, had, hv, cv⟩ := (hrC4.below hb6).num hlt2
              obtain ⟨x, hx, hxv⟩ : ∃ x, (begsL S)[j2]? = some x ∧ v = ((l.count x : Nat) : Int) := by
                unfold countsL at hv
                rw [List.getElem?_map] at hv
                cases h : (begsL S)[j2]? with
                | none => rw [h] at hv; cases hv
                | some x => rw [h] at hv; exact ⟨x, rfl, by simpa using hv.symm⟩
              subst hxv
              have hcx := hCnt.out x
              have HC2 : Hid (((C + l.count x : Nat) : Int) = sumC l ((begsL S).take (j2 + 1))) := by
                show _ = _
                obtain ⟨q1, q2⟩ := List.getElem?_eq_some_iff.1 hx
                rw [List.take_succ_eq_append_getElem q1, sumC_snoc, q2, ← HC.out]
                omega
              generalize l.count x = z at *
              have q1 : C + z ≤ (j2 + 1) * 20000000100000 := by omega
              have w4 : IntKind.i64.wrap ((C : Int) - n2 - T + z) = (C : Int) - n2 - T + z := IntWalk.i64_in _ (by omega)
              have HQ : Hid ((C : Int) - n2 - T + z = ((C + z : Nat) : Int) - n2 - T) := by show _ = _; omega
              have hj1 : j2 + 1 ≤ k := hlt2
              have g1 : decide ((z : Int) < 0) = false := decide_eq_false (by omega)
              clear hx hv HC hcx
              go_wp2
              go_roundw
              case rel => exact ⟨j2 + 1, C + z, hj1, by go_num, by rw [HQ.out], q1, HC2, hb6⟩
              case measure => simp [intOf]; omega
            · have hjk2 : j2 = k := by omega
              have hz : (C : Int) - n2 - T = 0 := by
                have := HC.out
                rw [hjk2, List.take_of_length_le (by rw [HK.out]; exact Nat.le_refl _), HSum.out] at this
                omega
              have g2 : decide (j2 < k) = false := decide_eq_false hlt2
              have hb06 := below_step hbw hb6
              clear hC1 HC HSum hjk2
              rw [hz]
              clear hz
              go_wp2_with fail
              refine (HBg.out _ ((hr.below hb06).more hb06.size)).mono ?_
              rintro e w7 ⟨hb7, A7, c7, rfl, -⟩
              go_wp2
              go_ret
              exact ⟨by first | rfl | simp, below_step hb06 hb7⟩
    · go_wp2
      go_ret
      exact ⟨by first | rfl | simp, below_step hb1 hb2⟩
  · have H1 := Lib.hid (fun w hr => counts_bad A n c a A2 n2 c2 w hr hnc ha hE)
    have hE1 : (checkE a != 0) = true := by simpa using hE
    generalize checkE a = E at *
    clear hE
    go_enter Try.func6, Try.ntmps6
    go_wp2_with fail
    refine (tallies_true _).mono ?_
    rintro e w1 ⟨rfl, hb1⟩
    go_wp2_with fail
    refine (H1.out _ ((hr.below hb1).more hb1.size)).mono ?_
    rintro e w2 ⟨rfl, hb2⟩
    go_wp2
    go_ret
    exact ⟨by first | rfl | simp, below_step hb1 hb2⟩

namespace TallyCounts
open Go.ChangeShapes Go.WideShapes Go.ChangeAt Go.RowKit
theorem own : ownKnob Try.prog.godebug = none := by kernel_rfl
theorem laidOut : laidOutB Try.prog = true := by kernel_rfl

set_option maxRecDepth 100000 in
theorem lifted (os : Os) (started : os.Started) (H : Type) (enc : TypeId × Value → H) :
    ReturnsInHanded {} Try.checked os 6 .any (Rows.tallyCountsSpec.pre6 enc Try.prog Try.f6 Rows.tallyCountsRow.domain false) (Rows.tallyCountsSpec.post enc Try.prog Try.f6 false true false false) := by
  refine returnsInHanded_of_change_sized (C := Try.checked) own started (by as_aux_lemma => kernel_rfl) Try.func6
    (ChangeSpec.witness6 (enc := enc) (C := Try.checked) false ⟨#[], #[.slice none 0 0, .slice none 0 0], []⟩ 8 (by as_aux_lemma => kernel_rfl) (by as_aux_lemma => kernel_rfl) (by as_aux_lemma => kernel_rfl) (by as_aux_lemma => kernel_rfl)) ?_
  intro W base args ds gs before hval0 hW hcnd hsz _
  have hval : ∀ (j : Nat) t v, Try.f6.params[j]? = some t → args[j]? = some v → Value.okWide Try.prog W .any base t v := hval0
  have hW' := hW
  obtain ⟨p, q, hA0, hV, rfl, hfz, hnd⟩ := hW
  have hA : DataW.TrodAll enc Try.prog W 0 (fun _ => true) true Try.f6.params.toList args.toList ds p := hA0
  rw [Try.params6] at hA hval
  obtain ⟨v0, vs0, d0, ds0, p0, q0, hargs, rfl, rfl, h0, hA⟩ := trodAll_cons hA
  obtain ⟨v1, vs1, d1, ds1, p1, q1, rfl, rfl, rfl, h1, hA⟩ := trodAll_cons hA
  obtain ⟨rfl, rfl, rfl⟩ := trodAll_nil hA
  obtain rfl : args = #[v0, v1] := by cases args; simp_all
  obtain ⟨A0, n0, c0, xs0, rfl, hnc0, hc0, hr0, hx0⟩ := open_nums Try.underlying48 Try.underlying88 (by as_aux_lemma => kernel_rfl) (hval 0 _ v0 rfl rfl) (fun x hx => hW'.lt x (by simp [hx])) h0
  obtain ⟨A1, n1, c1, xs1, rfl, hnc1, hc1, hr1, hx1, hd1⟩ := open_nums2 Try.underlying49 Try.underlying3 (by as_aux_lemma => kernel_rfl) (hval 1 _ v1 rfl rfl) (fun x hx => hW'.lt x (by simp [hx])) h1
  have hm1 : n1 * 8 ≤ 140737488351232 := by
    rcases hd1 with h0 | ⟨D, E, rfl, hD⟩
    · omega
    · have h5 : (D.length + E.length) * Try.prog.bytesOf 3 ≤ reachBytes := sized_slice hsz (j := 1) (t := 49) (e := 3) rfl rfl Try.underlying49
      rw [k_int_bytes, hD] at h5
      simp only [reachBytes] at h5
      omega
  refine (tallyCounts_any A0 n0 c0 xs0 A1 n1 c1 xs1 W hr0 hnc0 hc0 hx0 hr1 hnc1 hc1 hx1 hm1).mono fun e W' ⟨he, hb⟩ => ?_
  subst he
  exact ⟨_, rfl, law_post laidOut Try.underlying4 rfl (by as_aux_lemma => kernel_rfl) rfl rfl hW' hb⟩

set_option maxHeartbeats 10000000 in
theorem closed : joinedFacts Try.prog 6 Try.f6 Rows.tallyCountsSpec Rows.tallyCountsRow = true := by
  unfold joinedFacts
  simp only [Bool.and_eq_true]
  repeat' apply And.intro
  all_goals as_aux_lemma => kernel_rfl

set_option maxHeartbeats 1000000 in
theorem proved : Rows.TallyCountsSaid :=
  OpenClaim.holds_of_wide 6 Try.f6 rfl rfl rfl rfl rfl rfl rfl ⟨rfl, rfl, rfl, rfl, rfl⟩ rfl rfl rfl rfl rfl (by as_aux_lemma => kernel_rfl) Try.func6 closed
    (of_decide_eq_true (by as_aux_lemma => kernel_rfl)) (by unfold Func.isWrapper; first | (rw [if_pos (by decide +kernel)]; kernel_rfl) | (rw [if_neg (by decide +kernel)]; exact ⟨rfl, rfl⟩))
    (fun os started H enc _ => lifted os started H enc)
end TallyCounts
end Go.Proofs.Ytdlmnnibgpfdbab
