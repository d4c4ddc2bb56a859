/-
  CarrySame answers true for all arenas, lists and sizes, and changes no argument: a copied heap is isomorphic to the original one, contains no gaps, and contains exactly the reachable objects.
-/
import Derived.Test.YtammailnbgojgaaG7
import Derived.Test.YtammailnbgojgaaG9
namespace Go.Proofs.Ytammailnbgojgaa
open Go.RowKit

set_option maxRecDepth 100000 in
set_option maxHeartbeats 4000000 in
theorem carrySame_any (A : Option Addr) (n c : Nat) (a : List Int) (A2 : Option Addr) (n2 c2 : Nat) (f : List Int) (N : Int) (w : World) (hr : Reads w w.heap.size 1 A n (a.map (.int .u64))) (hnc : n ≤ c) (hc : c ≤ maxLen) (ha : ∀ x ∈ a, (Lit.int .u64 x).wf = true)
    (hr2 : Reads w w.heap.size 1 A2 n2 (f.map (.int .i64))) (hnc2 : n2 ≤ c2) (hc2 : c2 ≤ maxLen) (hx2 : ∀ z ∈ f, (Lit.int .i64 z).wf = true) (hn2 : n2 * 8 ≤ 140737488351232) (hNw : (Lit.int .i64 N).wf = true) :
    Calls Try.prog 6 #[.slice A n c, .slice A2 n2 c2, .int .i64 N] w fun e w' => e = .returned (.bool true) ∧ Below w.heap.size w w' := by
  clear hnc2 hc2 hNw
  have hfl : f.length = n2 := by have := hr2.1; simpa using this
  have HC := Lib.hid (fun w hr hr2 => copy_any A n c a A2 n2 c2 f N w hr hnc hc ha hr2 (by omega) hx2)
  have HA := Lib.hid (fun A1 M c1 (b : List Int) (h1 : M ≤ c1) (hb : ∀ x ∈ b, (Lit.int .u64 x).wf = true) A5 c5 (g : List Int) (hg : ∀ x ∈ g, (Lit.int .i64 x).wf = true) w hr hr4 hrb hr5 => alike_any A n c a A2 n2 c2 f A1 M c1 b A5 n2 c5 g w hr hnc ha hr4 (by omega) hx2 hrb h1 hb hr5 (by omega) hg)
  have HW := Lib.hid (fun w hr hr2 (hE : checkE a = 0) O (hO : Ordered a (spotsL a) f O) => by
    have := twords_ok A n c a A2 n2 c2 f (sortL O) w hr hnc ha hr2 (by omega) hx2 hE (hO.search.done hO.roots)
    rw [longsL_perm (spotsL a) (sortL_perm O)] at this
    exact this)
  have HAW := Lib.hid ha
  have HFL := Lib.hid hfl
  obtain ⟨i0, hi, hz0, hz1, hz2⟩ := info_parts info_int
  have hn2b : n2 ≤ 100000000000000 := by omega
  clear ha hx2 hfl
  go_enter Try.func6, Try.ntmps6
  go_wp2_with fail
  refine (carries_true _).mono ?_
  rintro e w1 ⟨rfl, hb1⟩
  go_wp2_with fail
  refine (HC.out _ ((hr.below hb1).more hb1.size) ((hr2.below hb1).more hb1.size)).mono ?_
  rintro e w2 ⟨hb2, ⟨M, O, rfl, hAl, Y, b, k, A1, c1, AO, cO, AY, cY, hI, hk, rfl, hown1, hownO, hownY⟩ | ⟨-, er, her, rfl⟩⟩
  · have hb02 := below_step hb1 hb2
    have hD := copied_of hI
    have hfO : ∀ x ∈ f, x ∈ O := hI.ordered.roots
    have hM := hI.le
    have hfit := hI.fit
    have hnn : 0 ≤ longsL (spotsL a) O := longsL_nn (fun x hx => by
      obtain ⟨j, hj⟩ := List.mem_iff_getElem?.1 hx
      obtain ⟨s, i, h⟩ := (copy_facts hI.check hD.closed id).2 j x hj
      unfold longW
      rw [h.spot]
      have := h.ok.r0
      have := h.ok.b0
      simp only [Spot.long]
      omega)
    obtain ⟨E, hE⟩ := Int.eq_ofNat_of_zero_le hnn
    have hYl : Y.length = k := by rw [hD.len, hk]
    have hYb : ∀ y ∈ Y, 0 ≤ y ∧ y ≤ 256 := fun y hy => by
      obtain ⟨j, hj⟩ := List.mem_iff_getElem?.1 hy
      have hjl : j < O.length := by rw [← hD.len]; exact (List.getElem?_eq_some_iff.1 hj).1
      rw [hI.y, sumsY_at _ _ _ _ hjl] at hj
      have h1 := (copy_facts hI.check hD.closed id).1 j
      have h2 := (copy_facts hI.check hD.closed id).1 O.length
      rw [List.take_length] at h2
      have := Option.some.inj hj
      have := h1.2.2.1
      have := h1.2.2.2.1
      have := h2.2.2.1
      omega
    have hbw : ∀ x ∈ b, (Lit.int .u64 x).wf = true := by
      rw [hI.b]
      exact laid_wf HAW.out hD.rows hM (fun y hy => (hYb y hy).2) hD.nodup hD.len hD.closed hD.nn
    obtain ⟨φ, hφ⟩ : ∃ φ, φ = posL O Y := ⟨_, rfl⟩
    have hix : ∀ x ∈ O, ∃ (q : Nat) (y : Int), q < k ∧ ixOf (fun z => x == z) O = q ∧ Y[q]? = some y ∧ φ x = y := fun x hx => by
      obtain ⟨q, y, h1, h2, h3⟩ := posL_ex (keep := O) (Y := Y) hD.nodup hD.len hx
      exact ⟨q, y, by rw [hk]; exact (List.getElem?_eq_some_iff.1 h1).1, idxL_at hD.nodup h1, h2, by rw [hφ]; exact h3⟩
    have hnw : ∀ x ∈ f.map φ, (Lit.int .i64 x).wf = true := fun x hx => by
      obtain ⟨z, hz, rfl⟩ := List.mem_map.1 hx
      obtain ⟨q, y, -, -, h1, h2⟩ := hix z (hfO z hz)
      have := hYb y (List.mem_of_getElem? h1)
      rw [h2]
      simp [Lit.wf, IntKind.min, IntKind.max, IntKind.signed, IntKind.bits]
      omega
    have hEq : ∀ os os' fr fr', FormIs a f os fr → FormIs b (f.map φ) os' fr' → os = os' ∧ fr = fr' := fun os os' fr fr' h1 h2 => hD.form hfO h1 (by rw [← hφ]; exact h2)
    have hAl2 : AliveF b (f.map φ) := ⟨hD.laid.check, by rw [hφ]; exact hD.alive hfO⟩
    have hgg : ggL b = if E < M then [⟨(E : Int), (M : Int) - E⟩] else [] := by
      unfold ggL
      rw [if_pos hD.laid.check, hD.gaps, hE]
      by_cases h : E < M
      · rw [if_pos h, if_pos (by omega)]
      · rw [if_neg h, if_neg (by omega)]
    have hc1 := own_cap hown1
    have HEq := Lib.hid hEq
    have HAA := Lib.hid (HA.out A1 M c1 b hc1 hbw)
    have HALL := Lib.hid (And.intro hAl hAl2)
    have HNW := Lib.hid hnw
    have HIX := Lib.hid hix
    have HFO := Lib.hid hfO
    have HWW := Lib.hid (fun w hr hr2 => HW.out w hr hr2 hI.check O hI.ordered)
    rw [hE] at HWW hfit
    have HG := Lib.hid (fun w hrb => ggapsE_any A1 M c1 b w hrb hc1 hbw)
    rw [hD.laid.check, hgg] at HG
    have hk256 : k ≤ 256 := by rw [hk]; exact hD.lenO
    have hEM : E ≤ M := by omega
    have hrb := Reads.of_own hown1
    have hrO := Reads.of_own hownO
    have hrY := Reads.of_own hownY
    clear hI hD hAl hAl2 hEq hnw hix hfO hYl hYb hbw hφ hE hnn hgg hfit hown1 hownO hownY hk HA HW HC
    go_wp2
    go_loopw [11, 45] (fun v i wr => ∃ (j : Nat) (A6 : Option Addr) (c6 : Nat), j ≤ n2 ∧ v = .slice A6 j c6 ∧ i = .int .i64 j ∧ wr.ownsRow w2.heap.size 3 1 (.slice A6 j c6) j (((f.take j).map φ).map (.int .i64)) ∧ Below w2.heap.size w2 wr) (fun _ i _ => n2 - (intOf i).toNat)
    case atStart => exact ⟨0, none, 0, Nat.zero_le _, rfl, rfl, World.ownsRow_nil _ _ _ _, Below.refl _ _⟩
    case round =>
      obtain ⟨j, A6, c6, hj, rfl, rfl, hown, hb⟩ := hrel
      have hbw := below_step hb02 hb
      by_cases hlt : j < n2
      · obtain ⟨ad, x, rfl, had, hx, cx⟩ := (hr2.below hbw).num hlt
        obtain ⟨q, y, q1, q2, q3, q4⟩ := HIX.out x (HFO.out x (List.mem_of_getElem? hx))
        obtain ⟨adY, y', rfl, hadY, hy', cy⟩ := (hrY.below hb).num q1
        obtain rfl : y = y' := Option.some.inj (q3.symm.trans hy')
        have HX := index_int AO k cO w2.heap.size O x wr (hrO.below hb) (by omega)
        rw [q2] at HX
        have HX := Lib.hid HX
        have hown2 := hown.alloc (.cells #[.int .i64 y] 3)
        have hb2' := hb.alloc hb.size (.cells #[.int .i64 y] 3)
        have hnew := reads_new wr [.int .i64 y] 3 1 1 rfl
        have HT : Hid ((f.take (j + 1)).map φ = (f.take j).map φ ++ [y]) := by
          show _ = _
          obtain ⟨z1, z2⟩ := List.getElem?_eq_some_iff.1 hx
          rw [List.take_succ_eq_append_getElem z1, z2, List.map_append, ← q4]
          rfl
        have hj1 : j + 1 ≤ n2 := hlt
        have hsz := hb.size
        have g1 : decide (k ≤ q) = false := decide_eq_false (by omega)
        have g2 : decide ((q : Int) < 0) = false := decide_eq_false (by omega)
        clear q2 q3 q4 hx hy' hown hb
        go_wp2_with fail
        refine HX.out.mono ?_
        rintro e w5 ⟨rfl, rfl⟩
        go_wp2_with (at_builtin; refine wpList_append_any _ rfl (.tmp 60) (.tmp 65) 23 rfl w2.heap.size 3 i0 (.int .i64 0) 1 8 Try.underlying23 hi hz0 hz1 hz2 rfl (by decide) (.slice A6 j c6) j _ rfl hown2 (wr.heap.size + 1) (some ⟨wr.heap.size, 0, none⟩) 1 1 [.int .i64 y] rfl hnew (by simp [Value.oneCell']) (by unfold maxLen; omega) (by omega) (by simp; omega) ?_; rintro v' w5 hown5 hgr - -; obtain ⟨A7, c7, rfl⟩ := own_slice hown5)
        have hb5 := hb2'.grown hgr hb2'.size (fun g hg => (hown2.lt g hg).1)
        go_roundw
        case rel => exact ⟨j + 1, A7, c7, hj1, rfl, by go_num, by rw [HT.out, List.map_append]; exact hown5, hb5⟩
        case measure => simp [intOf]; omega
      · obtain rfl : n2 = j := by omega
        rw [List.take_of_length_le (by rw [HFL.out]; exact Nat.le_refl _)] at hown
        have hrn := Reads.of_own hown
        clear hown
        go_wp2_with fail
        refine (HAA.out A6 c6 (f.map φ) HNW.out _ ((hr.below hbw).more hbw.size) ((hr2.below hbw).more hbw.size) ((hrb.below hb).more hb.size) hrn).mono ?_
        rintro e w7 ⟨hb7, ⟨-, -, os, fr, os', fr', h1, h2, rfl⟩ | ⟨hno, -⟩⟩
        · obtain ⟨rfl, rfl⟩ := HEq.out _ _ _ _ h1 h2
          have hb07 := below_step hbw hb7
          have hb27 := below_step hb hb7
          clear h1 h2
          simp only [decide_true, Bool.and_self]
          go_wp2_with fail
          refine (HWW.out _ ((hr.below hb07).more hb07.size) ((hr2.below hb07).more hb07.size)).mono ?_
          rintro e w8 ⟨hb8, rfl⟩
          have hb08 := below_step hb07 hb8
          have hb28 := below_step hb27 hb8
          have hHG := HG.out _ ((hrb.below hb28).more hb28.size)
          go_wp2_with fail
          refine hHG.mono ?_
          clear hHG
          rintro e w9 ⟨hb9, AG, cG, rfl, hownG⟩
          have hb09 := below_step hb08 hb9
          have hx0 := reads_new w9 [.int .i64 0, .int .i64 0, .int .i64 0] 25 3 1 rfl
          have hbn := below_new w9 (.cells #[.int .i64 0, .int .i64 0, .int .i64 0] 25)
          have HGo := Lib.hid (good_of (some ⟨w9.heap.size, 0, none⟩) 3 3 _ [0, 0, 0] true _ (by decide) (by simpa using hx0) (by decide))
          have hb0n := below_step hb09 hbn
          have z1 : ((M : Int) != (M : Int)) = false := by simp
          have z2 : ((k : Int) != (k : Int)) = false := by simp
          clear hx0
          by_cases hEM2 : E < M
          · rw [if_pos hEM2] at hownG ⊢
            obtain ⟨adG, r, e1, hadG, hr1, cr0, cr1⟩ := (Reads.of_own hownG).run (j := 0) (by simp)
            simp only [List.getElem?_cons_zero, Option.some.injEq] at hr1
            subst hr1
            subst e1
            dsimp only at cr0 cr1
            have hwE : IntKind.i64.wrap ((M : Int) - E) = (M : Int) - E := IntWalk.i64_in _ (by omega)
            have z3 : ((E : Int) == (M : Int)) = false := by simp; omega
            have z4 : ((E : Int) == (E : Int)) = true := by simp
            have z5 : ((M : Int) - E == (M : Int) - E) = true := by simp
            have cr0' : (w9.alloc (.cells #[.int .i64 0, .int .i64 0, .int .i64 0] 25)).cell? (adG.add (0 * 2)) = some (.int .i64 E) := by rw [World.cell?_alloc_lt _ _ _ (by rw [block_of_add]; exact hadG)]; exact cr0
            have cr1' : (w9.alloc (.cells #[.int .i64 0, .int .i64 0, .int .i64 0] 25)).cell? ⟨(adG.add (0 * 2)).block, (adG.add (0 * 2)).off + 1, none⟩ = some (.int .i64 ((M : Int) - E)) := by rw [World.cell?_alloc_lt _ _ _ (by rw [block_of_add]; exact hadG)]; exact cr1
            have cA : (w9.alloc (.cells #[.int .i64 0, .int .i64 0, .int .i64 0] 25)).cell? adG = some (.int .i64 E) := by simpa [Addr.add] using cr0'
            have cB : (w9.alloc (.cells #[.int .i64 0, .int .i64 0, .int .i64 0] 25)).cell? ⟨adG.block, adG.off + 1, none⟩ = some (.int .i64 ((M : Int) - E)) := by simpa [Addr.add] using cr1'
            have cC : w9.cell? adG = some (.int .i64 E) := by simpa [Addr.add] using cr0
            have cD : w9.cell? ⟨adG.block, adG.off + 1, none⟩ = some (.int .i64 ((M : Int) - E)) := by simpa [Addr.add] using cr1
            clear hownG cr0 cr1 cr0' cr1'
            simp only [List.length_singleton]
            go_wp2_with fail
            refine HGo.out.mono ?_
            rintro e w10 ⟨rfl, rfl⟩
            go_wp2
            go_ret
            exact ⟨by first | rfl | simp, hb0n⟩
          · rw [if_neg hEM2]
            obtain rfl : E = M := by omega
            clear hownG
            simp only [List.length_nil]
            go_wp2_with fail
            refine HGo.out.mono ?_
            rintro e w10 ⟨rfl, rfl⟩
            go_wp2
            go_ret
            exact ⟨by first | rfl | simp, hb0n⟩
        · exact absurd HALL.out hno
  · have hb02 := below_step hb1 hb2
    go_wp2
    go_ret
    exact ⟨by first | rfl | simp, hb02⟩

namespace CarrySame
open Go.ChangeShapes Go.WideShapes Go.ChangeAt Go.RowKit
theorem own : ownKnob Try.prog.godebug = none := by kernel_rfl
theorem laidOut : laidOutB Try.prog = true := by kernel_rfl

set_option maxRecDepth 100000 in
theorem lifted (os : Os) (started : os.Started) (H : Type) (enc : TypeId × Value → H) :
    ReturnsInHanded {} Try.checked os 6 .any (Rows.carrySameSpec.pre6 enc Try.prog Try.f6 Rows.carrySameRow.domain false) (Rows.carrySameSpec.post enc Try.prog Try.f6 false true false false) := by
  refine returnsInHanded_of_change_sized (C := Try.checked) own started (by as_aux_lemma => kernel_rfl) Try.func6
    (ChangeSpec.witness6 (enc := enc) (C := Try.checked) false ⟨#[], #[.slice none 0 0, .slice none 0 0, .int .i64 0], []⟩ 8 (by as_aux_lemma => kernel_rfl) (by as_aux_lemma => kernel_rfl) (by as_aux_lemma => kernel_rfl) (by as_aux_lemma => kernel_rfl)) ?_
  intro W base args ds gs before hval0 hW hcnd hsz _
  have hval : ∀ (j : Nat) t v, Try.f6.params[j]? = some t → args[j]? = some v → Value.okWide Try.prog W .any base t v := hval0
  have hW' := hW
  obtain ⟨p, q, hA0, hV, rfl, hfz, hnd⟩ := hW
  have hA : DataW.TrodAll enc Try.prog W 0 (fun _ => true) true Try.f6.params.toList args.toList ds p := hA0
  rw [Try.params6] at hA hval
  obtain ⟨v0, vs0, d0, ds0, p0, q0, hargs, rfl, rfl, h0, hA⟩ := trodAll_cons hA
  obtain ⟨v1, vs1, d1, ds1, p1, q1, rfl, rfl, rfl, h1, hA⟩ := trodAll_cons hA
  obtain ⟨v2, vs2, d2, ds2, p2, q2, rfl, rfl, rfl, h2, hA⟩ := trodAll_cons hA
  obtain ⟨rfl, rfl, rfl⟩ := trodAll_nil hA
  obtain rfl : args = #[v0, v1, v2] := by cases args; simp_all
  obtain ⟨A0, n0, c0, xs0, rfl, hnc0, hc0, hr0, hx0⟩ := open_nums Try.underlying22 Try.underlying42 (by as_aux_lemma => kernel_rfl) (hval 0 _ v0 rfl rfl) (fun x hx => hW'.lt x (by simp [hx])) h0
  obtain ⟨A1, n1, c1, xs1, rfl, hnc1, hc1, hr1, hx1, hd1⟩ := open_nums2 Try.underlying23 Try.underlying3 (by as_aux_lemma => kernel_rfl) (hval 1 _ v1 rfl rfl) (fun x hx => hW'.lt x (by simp [hx])) h1
  have hm1 : n1 * 8 ≤ 140737488351232 := by
    rcases hd1 with h0 | ⟨D, E, rfl, hD⟩
    · omega
    · have h5 : (D.length + E.length) * Try.prog.bytesOf 3 ≤ reachBytes := sized_slice hsz (j := 1) (t := 23) (e := 3) rfl rfl Try.underlying23
      rw [k_int_bytes, hD] at h5
      simp only [reachBytes] at h5
      omega
  obtain ⟨i2, rfl, rfl, rfl, w2⟩ := open_int Try.underlying3 (hval 2 _ v2 rfl rfl) h2
  refine (carrySame_any A0 n0 c0 xs0 A1 n1 c1 xs1 i2 W hr0 hnc0 hc0 hx0 hr1 hnc1 hc1 hx1 hm1 w2).mono fun e W' ⟨he, hb⟩ => ?_
  subst he
  exact ⟨_, rfl, law_post laidOut Try.underlying4 rfl (by as_aux_lemma => kernel_rfl) rfl rfl hW' hb⟩

set_option maxHeartbeats 10000000 in
theorem closed : joinedFacts Try.prog 6 Try.f6 Rows.carrySameSpec Rows.carrySameRow = true := by
  unfold joinedFacts
  simp only [Bool.and_eq_true]
  repeat' apply And.intro
  all_goals as_aux_lemma => kernel_rfl

set_option maxHeartbeats 1000000 in
theorem proved : Rows.CarrySameSaid :=
  OpenClaim.holds_of_wide 6 Try.f6 rfl rfl rfl rfl rfl rfl rfl ⟨rfl, rfl, rfl, rfl, rfl⟩ rfl rfl rfl rfl rfl (by as_aux_lemma => kernel_rfl) Try.func6 closed
    (of_decide_eq_true (by as_aux_lemma => kernel_rfl)) (by unfold Func.isWrapper; first | (rw [if_pos (by decide +kernel)]; kernel_rfl) | (rw [if_neg (by decide +kernel)]; exact ⟨rfl, rfl⟩))
    (fun os started H enc _ => lifted os started H enc)
end CarrySame
end Go.Proofs.Ytammailnbgojgaa
