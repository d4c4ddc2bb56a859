/-
  CarryOrder answers true for all arenas and lists, and changes no argument: the copy order contains exactly the reachable objects, and every object that is not a start object is referred to by an earlier one.
-/
import Derived.Test.YthfjopnomkfegabCarryOrd
import Derived.Test.YthfjopnomkfegabTintWords
import Derived.Test.YthfjopnomkfegabIntF2
import Derived.Test.YthfjopnomkfegabLaw
import Derived.Test.YthfjopnomkfegabLawNums
import Derived.BigQuiet
namespace Go.Proofs.Ythfjopnomkfegab
open Go.RowKit

theorem Ordered.live {a : List Int} {S : List Spot} {f L R : List Int} (h : Ordered a S f L) (hR : Reached a S f R) : R = sortL L := hR.unique (h.search.done h.roots)

theorem carries_one {L : List Int} (h : Ordered [1, 1] (spotsL [1, 1]) [0] L) : L.length = 1 := by
  have hb := h.search.begs
  rw [tints_facts.2] at hb
  have h0 : (0 : Int) ∈ L := h.roots 0 (by simp)
  have hle : L.length ≤ 1 := nodup_bound 1 L h.search.once (fun x hx => by
    have := hb x hx
    simp only [begsL, List.filter_cons, List.map_cons] at this
    simp at this
    omega)
  have := List.length_pos_of_mem h0
  omega

set_option maxHeartbeats 400000 in
theorem carries_true (w : World) : Calls Try.prog 18 #[] w fun e w' => e = .returned (.bool true) ∧ Below w.heap.size w w' := by
  have H := Lib.hid (fun A A2 w hr hr2 => order_ok A 2 2 [1, 1] A2 1 1 [0] w hr (by decide) (by decide) hr2 (by decide) (by decide) tints_facts.1)
  have hn1 := reads_new w [.int .u64 1, .int .u64 1] 77 2 1 rfl
  have hb1 := below_new w (.cells #[.int .u64 1, .int .u64 1] 77)
  have hn2 := reads_new (w.alloc (.cells #[.int .u64 1, .int .u64 1] 77)) [.int .i64 0] 3 1 1 rfl
  have hb2 := below_new (w.alloc (.cells #[.int .u64 1, .int .u64 1] 77)) (.cells #[.int .i64 0] 3)
  have hn3 := (hn1.below (hb2.mono (by simp))).more (show w.heap.size + 1 ≤ ((w.alloc (.cells #[.int .u64 1, .int .u64 1] 77)).alloc (.cells #[.int .i64 0] 3)).heap.size by simp)
  simp only [World.size_alloc] at hn2
  have HS := fun w : World => (show Calls Try.prog 31 #[] w fun e w' => e = .returned (.slice (some ⟨w.heap.size, 0, none⟩) 2 2) ∧ w' = w.alloc (.cells #[.int .u64 1, .int .u64 1] 77) by
    go_enter Try.func31, Try.ntmps31
    go_wp2
    go_ret
    exact ⟨rfl, rfl⟩)
  have HS := Lib.hid HS
  go_enter Try.func18, Try.ntmps18
  go_wp2_with fail
  refine (HS.out _).mono ?_
  rintro e w1 ⟨rfl, rfl⟩
  go_wp2_with fail
  refine (H.out _ _ _ (by simpa using hn3) (by simpa using hn2)).mono ?_
  rintro e w2 ⟨hb3, ⟨L, A', c', hL, rfl, -⟩ | ⟨⟨x, hx, hx2⟩, -⟩⟩
  · have hl := carries_one hL
    clear hL
    generalize L.length = k at *
    subst hl
    go_wp2
    go_ret
    exact ⟨by first | rfl | simp, below_step (below_step hb1 hb2) hb3⟩
  · exfalso
    simp only [List.mem_cons, List.not_mem_nil, or_false] at hx
    subst hx
    rw [tints_facts.2] at hx2
    exact hx2 (by decide)

set_option maxRecDepth 100000 in
set_option maxHeartbeats 1000000 in
theorem named1_carry (A : Option Addr) (n c : Nat) (a : List Int) (y x : Int) (s : Spot) (g1 g2 : Nat) (w : World) (hr : Reads w w.heap.size 1 A n (a.map (.int .u64))) (hnc : n ≤ c) (ha : ∀ x ∈ a, (Lit.int .u64 x).wf = true) (hE : checkE a = 0) (hs : spotAt (spotsL a) y = some s)
    (B1 : Blk w g1 22 #[.slice A n c]) (B2 : Blk w g2 3 #[.int .i64 x]) :
    Calls Try.prog 21 #[.int .i64 y, .pointer (some ⟨g1, 0, none⟩), .pointer (some ⟨g2, 0, none⟩)] w fun e w' => e = .returned (.bool (decide (x ∈ linksL a s))) ∧ Below w.heap.size w w' := by
  have hLn : (linksL a s).length ≤ 256 := by
    have h1 : (linksL a s).length ≤ (refsOf a s).length := by
      unfold linksL
      rw [List.length_map]
      exact List.length_filter_le _ _
    have h2 : (refsOf a s).length ≤ a.length := by unfold refsOf; rw [List.length_take, List.length_drop]; omega
    have := (parse_ok (checkE_ok.1 hE).1).1
    omega
  have HR := Lib.hid (fun w hr => refsAt_ok A n c a y s w hr hnc ha hE hs)
  generalize linksL a s = M at *
  have k1 := B1.cell 0
  have k2 := B2.cell 0
  simp only [List.getElem?_toArray, List.getElem?_cons_zero, List.getElem?_cons_succ] at k1 k2
  have B1 := B1.drew
  have B2 := B2.drew
  have hbz := (Below.refl w.heap.size w).drew
  obtain ⟨b, hb⟩ : ∃ b, b = decide (x ∈ M) := ⟨_, rfl⟩
  rw [← hb]
  have HB := Lib.hid hb
  clear hE hs ha hb
  go_enter Try.func21, Try.ntmps21
  go_wp2
  go_region_held3 (fun w' => w'.cell? ⟨g1, 0, none⟩ = some (.slice A n c) ∧ w'.cell? ⟨g2, 0, none⟩ = some (.int .i64 x)) (go_keep)
    (first
      | (go_at_call 17; with_reducible refine (HR.out _ ((hr.below hbz).more hbz.size)).mono ?_; rintro e wA ⟨hbA, A1, c1, rfl, hownA⟩; have B1 := B1.below hbA B1.lt; have B2 := B2.below hbA B2.lt; have k1 := B1.cell 0; have k2 := B2.cell 0; simp only [List.getElem?_toArray, List.getElem?_cons_zero, List.getElem?_cons_succ] at k1 k2; have hbz := hbz.trans (hbA.mono hbz.size))
      | (go_at_call 16; refine (contains_int A1 M.length c1 _ M x b _ (Reads.of_own hownA) (by omega) HB.out.symm).mono ?_; rintro e wB ⟨rfl, rfl⟩))
  all_goals
    go_wp2
    go_ret
    exact ⟨by first | rfl | simp, hbz⟩

theorem Reads.front {w : World} {B : Nat} {A : Option Addr} {n i : Nat} {l : List Int} (h : Reads w B 1 A n (l.map (.int .i64))) (hi : i ≤ n) : Reads w B 1 A i ((l.take i).map (.int .i64)) := by
  have hl := h.1
  simp only [List.length_map] at hl
  refine ⟨by simp; omega, fun h0 => ?_⟩
  obtain ⟨ad, e, hb, hc⟩ := h.2 (by omega)
  refine ⟨ad, e, hb, fun j u hu => hc j u ?_⟩
  rw [List.getElem?_map, List.getElem?_take] at hu
  split at hu
  · rw [List.getElem?_map]; exact hu
  · cases hu

set_option maxRecDepth 100000 in
set_option maxHeartbeats 2000000 in
theorem carryOrder_any (A : Option Addr) (n c : Nat) (a : List Int) (A2 : Option Addr) (n2 c2 : Nat) (f : List Int) (w : World) (hr : Reads w w.heap.size 1 A n (a.map (.int .u64))) (hnc : n ≤ c) (hc : c ≤ maxLen) (ha : ∀ x ∈ a, (Lit.int .u64 x).wf = true)
    (hr2 : Reads w w.heap.size 1 A2 n2 (f.map (.int .i64))) (hnc2 : n2 ≤ c2) (hc2 : c2 ≤ maxLen) (hx2 : ∀ x ∈ f, (Lit.int .i64 x).wf = true) (hm1 : n2 * 8 ≤ 140737488351232) :
    Calls Try.prog 5 #[.slice A n c, .slice A2 n2 c2] w fun e w' => e = .returned (.bool true) ∧ Below w.heap.size w w' := by
  have hn2 : n2 ≤ 1000000000000000000 := by omega
  clear hc hnc2 hc2 hm1
  have hb0 := below_new w (.cells #[.slice A n c] 22)
  have B0 := Blk.new w 22 #[.slice A n c]
  by_cases hE : checkE a = 0
  · have h0 := (checkE_ok.1 hE).1
    have H1 := Lib.hid (fun w hr hr2 => order_ok A n c a A2 n2 c2 f w hr hnc ha hr2 hn2 hx2 hE)
    have H2 := Lib.hid (fun w hr hr2 => reach_ok A n c a A2 n2 c2 f w hr hnc ha hr2 hn2 hx2 hE)
    have HN := Lib.hid (fun y x s g1 g2 w hr hs B1 B2 => named1_carry A n c a y x s g1 g2 w hr hnc ha hE hs B1 B2)
    have HBb := Lib.hid (begsL_bounds h0)
    generalize spotsL a = S at *
    clear hE h0 ha hx2
    go_enter Try.func5, Try.ntmps5
    go_wp2_with fail
    refine (carries_true _).mono ?_
    rintro e w1 ⟨rfl, hb1⟩
    have hb01 := below_step hb0 hb1
    have B1 := B0.below hb1 B0.lt
    have k0 := B1.cell 0
    simp only [List.getElem?_toArray, List.getElem?_cons_zero, List.getElem?_cons_succ] at k0
    clear hb0 B0 hb1
    go_wp2_with fail
    refine (H1.out _ ((hr.below hb01).more hb01.size) ((hr2.below hb01).more hb01.size)).mono ?_
    rintro e w2 ⟨hb2, ⟨L, A3, c3, hL, rfl, hown⟩ | ⟨-, rfl⟩⟩
    · have hb02 := below_step hb01 hb2
      have B2 := B1.below hb2 B1.lt
      have hL256 : L.length ≤ 256 := nodup_bound 256 L hL.search.once (fun x hx => HBb.out x (hL.search.begs x hx))
      obtain ⟨k, hk⟩ : ∃ k, k = L.length := ⟨_, rfl⟩
      rw [← hk] at hown hL256 ⊢
      have hkc := own_cap hown
      have hrL := Reads.of_own hown
      have HL := Lib.hid hL
      have HK := Lib.hid hk
      clear k0 hown hk hL hb2 hb01 B1
      have k0 := B2.cell 0
      simp only [List.getElem?_toArray, List.getElem?_cons_zero, List.getElem?_cons_succ] at k0
      go_wp2_with fail
      refine (H2.out _ ((hr.below hb02).more hb02.size) ((hr2.below hb02).more hb02.size)).mono ?_
      rintro e w3 ⟨hb3, ⟨R, A4, c4, hR, rfl, hown⟩ | ⟨⟨x, hx, hx2⟩, -⟩⟩
      · have hRL := HL.out.live hR
        subst hRL
        have hb03 := below_step hb02 hb3
        have B3 := B2.below hb3 B2.lt
        have hrR := Reads.of_own hown
        have hrL3 := (hrL.below hb3).more hb3.size
        have hsl : (sortL L).length = k := by rw [sortL_length]; exact HK.out.symm
        rw [hsl] at hrR ⊢
        clear k0 hown hR hb3 hb02 B2 hrL hsl
        go_wp2
        go_loopw [33] (fun i wr => ∃ j : Nat, j ≤ k ∧ i = .int .i64 j ∧ Below w3.heap.size w3 wr) (fun i _ => k - (intOf i).toNat)
        case atStart => exact ⟨0, Nat.zero_le _, rfl, Below.refl _ _⟩
        case round =>
          obtain ⟨j, hj, rfl, hb⟩ := hrel
          have hbw := below_step hb03 hb
          by_cases hlt : j < k
          · obtain ⟨ad, x, rfl, had, hx, cx⟩ := (hrL3.below hb).num hlt
            have D0 := Blk.new wr 3 #[.int .i64 x]
            have d0 := D0.cell 0
            simp only [List.getElem?_toArray, List.getElem?_cons_zero, List.getElem?_cons_succ] at d0
            have hbn := below_new wr (.cells #[.int .i64 x] 3)
            have hbx := hb.trans (hbn.mono hb.size)
            have hb0x := below_step hb03 hbx
            have B4 := (B3.below hb B3.lt).alloc (.cells #[.int .i64 x] 3)
            have hj1 : j + 1 ≤ k := hlt
            have hjk : j ≤ k := hj
            have hjc : j ≤ c3 := by omega
            have hnd : decide (x ∈ L.take j) = false := by
              refine decide_eq_false (fun h => ?_)
              rw [List.mem_take_iff_getElem] at h
              obtain ⟨i, hi, hie⟩ := h
              obtain ⟨q1, q2⟩ := List.getElem?_eq_some_iff.1 hx
              have := List.pairwise_iff_getElem.1 HL.out.search.once i j (by omega) q1 (by omega)
              exact this (hie.trans q2.symm)
            have HND := Lib.hid hnd
            have hnm := HL.out.named j x hx
            have hrT := Reads.front (i := j) ((hrL3.below hbx).more hbx.size) hjk
            have HRT := Lib.hid hrT
            clear hx hnd hbn
            by_cases hm : x ∈ f
            · have HC1 := Lib.hid (contains_int A2 n2 c2 _ f x true _ (hr2.below hb0x) hn2 (decide_eq_true hm))
              have HC2 := Lib.hid (fun q => contains_int (some ad) j c3 _ (L.take j) x false ((wr.alloc (.cells #[.int .i64 x] 3)).drewN q) (hrT.below (below_drewN (Below.refl _ _) q)) (by omega) HND.out)
              clear hm hnm hrT
              go_wp2_with fail
              refine HC1.out.mono ?_
              rintro e w5 ⟨rfl, rfl⟩
              go_wp2
              go_quiet ((go_at_call 16; refine (HC2.out _).mono ?_; rintro e w' ⟨rfl, rfl⟩; exact ⟨rfl, _, rfl⟩))
              go_wp2
              go_roundw
              case rel => exact ⟨j + 1, hj1, by go_num, below_drewN hbx _⟩
              case measure => simp [intOf]; omega
            · have HC1 := Lib.hid (contains_int A2 n2 c2 _ f x false _ (hr2.below hb0x) hn2 (decide_eq_false hm))
              have hCF := containsIntF2_any 21 (.pointer (some ⟨w.heap.size, 0, none⟩)) (.pointer (some ⟨wr.heap.size, 0, none⟩)) (some ad) j c3 _ (L.take j) (fun y => decide (x ∈ linksAt a S y)) _ hrT (Nat.le_refl _) (by omega) (plain_of (fn := Try.f21) Try.func21 (by kernel_rfl) (by kernel_rfl)) (fun w' y hb' hy => by
                obtain ⟨s, hs⟩ := begsL_iff.1 (HL.out.search.begs y (List.mem_of_mem_take hy))
                have hlk : linksAt a S y = linksL a s := by unfold linksAt; rw [hs]
                have hbq := below_step hb0x hb'
                have := HN.out y x s w.heap.size wr.heap.size w' ((hr.below hbq).more hbq.size) hs (B4.below hb' B4.lt) (D0.below hb' D0.lt)
                simp only [hlk]
                exact this)
              have hany : (L.take j).any (fun y => decide (x ∈ linksAt a S y)) = true := by
                rcases hnm with h | ⟨i, y, h1, h2, h3⟩
                · exact absurd h hm
                · refine List.any_eq_true.2 ⟨y, ?_, decide_eq_true h3⟩
                  rw [List.mem_take_iff_getElem]
                  obtain ⟨q1, q2⟩ := List.getElem?_eq_some_iff.1 h2
                  exact ⟨i, by omega, q2⟩
              rw [hany] at hCF
              have HCF := Lib.hid hCF
              clear hm hnm hrT hCF hany
              go_wp2_with fail
              refine HC1.out.mono ?_
              rintro e w5 ⟨rfl, rfl⟩
              go_wp2_with fail
              refine HCF.out.mono ?_
              rintro e w6 ⟨rfl, hb6⟩
              have hby := hbx.trans (hb6.mono hbx.size)
              have D6 := D0.below hb6 D0.lt
              clear d0
              have d0 := D6.cell 0
              simp only [List.getElem?_toArray, List.getElem?_cons_zero, List.getElem?_cons_succ] at d0
              have HC2 := Lib.hid (fun q => contains_int (some ad) j c3 _ (L.take j) x false (w6.drewN q) ((HRT.out.below hb6).below (below_drewN (Below.refl _ _) q)) (by omega) HND.out)
              go_wp2
              go_quiet ((go_at_call 16; refine (HC2.out _).mono ?_; rintro e w' ⟨rfl, rfl⟩; exact ⟨rfl, _, rfl⟩))
              go_wp2
              go_roundw
              case rel => exact ⟨j + 1, hj1, by go_num, below_drewN hby _⟩
              case measure => simp [intOf]; omega
          · have g0 : decide (j < k) = false := decide_eq_false hlt
            have z1 : (k == k) = true := by simp
            have HW := Lib.hid (within_two A3 A4 k c3 k c4 L (sortL L) true wr ((hrL3.below hb).more hb.size) (by omega) ((hrR.below hb).more hb.size) (by omega) (decide_eq_true (fun z hz => sortL_mem.2 hz)))
            go_wp2_with fail
            refine HW.out.mono ?_
            rintro e w8 ⟨rfl, hb8⟩
            go_wp2
            go_ret
            exact ⟨by first | rfl | simp, below_step hbw hb8⟩
      · exfalso
        exact hx2 (HL.out.search.begs x (HL.out.roots x hx))
    · go_wp2
      go_ret
      exact ⟨by first | rfl | simp, below_step hb01 hb2⟩
  · have H1 := Lib.hid (fun w hr => order_bad A n c a A2 n2 c2 w hr hnc ha hE)
    have hE1 : (checkE a != 0) = true := by simpa using hE
    generalize checkE a = E at *
    clear hE
    go_enter Try.func5, Try.ntmps5
    go_wp2_with fail
    refine (carries_true _).mono ?_
    rintro e w1 ⟨rfl, hb1⟩
    have hb01 := below_step hb0 hb1
    have B1 := B0.below hb1 B0.lt
    have k0 := B1.cell 0
    simp only [List.getElem?_toArray, List.getElem?_cons_zero, List.getElem?_cons_succ] at k0
    go_wp2_with fail
    refine (H1.out _ ((hr.below hb01).more hb01.size)).mono ?_
    rintro e w2 ⟨rfl, hb2⟩
    go_wp2
    go_ret
    exact ⟨by first | rfl | simp, below_step hb01 hb2⟩

namespace CarryOrder
open Go.ChangeShapes Go.WideShapes Go.ChangeAt Go.RowKit
theorem own : ownKnob Try.prog.godebug = none := by kernel_rfl
theorem laidOut : laidOutB Try.prog = true := by kernel_rfl

set_option maxRecDepth 100000 in
theorem lifted (os : Os) (started : os.Started) (H : Type) (enc : TypeId × Value → H) :
    ReturnsInHanded {} Try.checked os 5 .any (Rows.carryOrderSpec.pre6 enc Try.prog Try.f5 Rows.carryOrderRow.domain false) (Rows.carryOrderSpec.post enc Try.prog Try.f5 false true false false) := by
  refine returnsInHanded_of_change_sized (C := Try.checked) own started (by as_aux_lemma => kernel_rfl) Try.func5
    (ChangeSpec.witness6 (enc := enc) (C := Try.checked) false ⟨#[], #[.slice none 0 0, .slice none 0 0], []⟩ 8 (by as_aux_lemma => kernel_rfl) (by as_aux_lemma => kernel_rfl) (by as_aux_lemma => kernel_rfl) (by as_aux_lemma => kernel_rfl)) ?_
  intro W base args ds gs before hval0 hW hcnd hsz _
  have hval : ∀ (j : Nat) t v, Try.f5.params[j]? = some t → args[j]? = some v → Value.okWide Try.prog W .any base t v := hval0
  have hW' := hW
  obtain ⟨p, q, hA0, hV, rfl, hfz, hnd⟩ := hW
  have hA : DataW.TrodAll enc Try.prog W 0 (fun _ => true) true Try.f5.params.toList args.toList ds p := hA0
  rw [Try.params5] at hA hval
  obtain ⟨v0, vs0, d0, ds0, p0, q0, hargs, rfl, rfl, h0, hA⟩ := trodAll_cons hA
  obtain ⟨v1, vs1, d1, ds1, p1, q1, rfl, rfl, rfl, h1, hA⟩ := trodAll_cons hA
  obtain ⟨rfl, rfl, rfl⟩ := trodAll_nil hA
  obtain rfl : args = #[v0, v1] := by cases args; simp_all
  obtain ⟨A0, n0, c0, xs0, rfl, hnc0, hc0, hr0, hx0⟩ := open_nums Try.underlying22 Try.underlying77 (by as_aux_lemma => kernel_rfl) (hval 0 _ v0 rfl rfl) (fun x hx => hW'.lt x (by simp [hx])) h0
  obtain ⟨A1, n1, c1, xs1, rfl, hnc1, hc1, hr1, hx1, hd1⟩ := open_nums2 Try.underlying23 Try.underlying3 (by as_aux_lemma => kernel_rfl) (hval 1 _ v1 rfl rfl) (fun x hx => hW'.lt x (by simp [hx])) h1
  have hm1 : n1 * 8 ≤ 140737488351232 := by
    rcases hd1 with h0 | ⟨D, E, rfl, hD⟩
    · omega
    · have h5 : (D.length + E.length) * Try.prog.bytesOf 3 ≤ reachBytes := sized_slice hsz (j := 1) (t := 23) (e := 3) rfl rfl Try.underlying23
      rw [k_int_bytes, hD] at h5
      simp only [reachBytes] at h5
      omega
  refine (carryOrder_any A0 n0 c0 xs0 A1 n1 c1 xs1 W hr0 hnc0 hc0 hx0 hr1 hnc1 hc1 hx1 hm1).mono fun e W' ⟨he, hb⟩ => ?_
  subst he
  exact ⟨_, rfl, law_post laidOut Try.underlying4 rfl (by as_aux_lemma => kernel_rfl) rfl rfl hW' hb⟩

set_option maxHeartbeats 10000000 in
theorem closed : joinedFacts Try.prog 5 Try.f5 Rows.carryOrderSpec Rows.carryOrderRow = true := by
  unfold joinedFacts
  simp only [Bool.and_eq_true]
  repeat' apply And.intro
  all_goals as_aux_lemma => kernel_rfl

set_option maxHeartbeats 1000000 in
theorem proved : Rows.CarryOrderSaid :=
  OpenClaim.holds_of_wide 5 Try.f5 rfl rfl rfl rfl rfl rfl rfl ⟨rfl, rfl, rfl, rfl, rfl⟩ rfl rfl rfl rfl rfl (by as_aux_lemma => kernel_rfl) Try.func5 closed
    (of_decide_eq_true (by as_aux_lemma => kernel_rfl)) (by unfold Func.isWrapper; first | (rw [if_pos (by decide +kernel)]; kernel_rfl) | (rw [if_neg (by decide +kernel)]; exact ⟨rfl, rfl⟩))
    (fun os started H enc _ => lifted os started H enc)
end CarryOrder
end Go.Proofs.Ythfjopnomkfegab
