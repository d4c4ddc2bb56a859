/-
  WalkBack answers true for all lists of objects, sizes and arenas, and changes no argument: Objects restores the descriptions that Lay stores, and Lay stores what Objects has returned.
-/
import Derived.Test.YtammailnbgojgabG7
import Derived.Test.YtammailnbgojgabG8
namespace Go.Proofs.Ytammailnbgojgab
open Go.RowKit

theorem Reads.front {w : World} {B k : Nat} {A : Option Addr} {n m : Nat} {xs : List Value} (h : Reads w B k A n xs) (hm : m ≤ n) : Reads w B k A m (xs.take (m * k)) := by
  have hmul : m * k ≤ n * k := Nat.mul_le_mul_right _ hm
  refine ⟨by rw [List.length_take, h.1]; omega, fun h0 => ?_⟩
  obtain ⟨ad, e, hb, hc⟩ := h.2 (by omega)
  refine ⟨ad, e, hb, fun j u hu => hc j u ?_⟩
  rw [List.getElem?_take] at hu
  split at hu
  · exact hu
  · cases hu
theorem flat_front {α : Type} (f : α → List Value) (k : Nat) (hf : ∀ a, (f a).length = k) (l : List α) (n : Nat) (hn : n ≤ l.length) : (l.take n).flatMap f = (l.flatMap f).take (n * k) := by
  have hl := flat_length f k hf (l.take n)
  rw [List.length_take, Nat.min_eq_left hn] at hl
  conv => rhs; rw [← List.take_append_drop n l, List.flatMap_append, List.take_append_of_le_length (by rw [hl]; exact Nat.le_refl _), List.take_of_length_le (by rw [hl]; exact Nat.le_refl _)]
theorem layW_wf {os : List Ob} {N : Nat} (h : LayOk os N) (hw : ∀ o ∈ os, (∀ x ∈ o.refs, (Lit.int .i64 x).wf = true) ∧ ∀ x ∈ o.body, (Lit.int .u64 x).wf = true) : ∀ x ∈ layW os N, (Lit.int .u64 x).wf = true := by
  have hwf : ∀ x : Int, 0 ≤ x → x < 18446744073709551616 → (Lit.int .u64 x).wf = true := fun x h1 h2 => by
    simp [Lit.wf, IntKind.min, IntKind.max, IntKind.signed, IntKind.bits]; omega
  have hhi := h.hi
  have hfit := h.fit
  intro x hx
  obtain ⟨c, hc, hxc⟩ := List.mem_flatMap.1 hx
  have hcok := layCs_ok h c hc
  obtain ⟨w1, w2, w3, w4, w5, w6, w7⟩ := rdw_word c.r c.b c.t c.f hcok.1
  rcases List.mem_cons.1 hxc with rfl | hxp
  · exact hwf _ w6 w7
  · rcases List.mem_append.1 hc with hc | hc
    · obtain ⟨o, ho, rfl⟩ := List.mem_map.1 hc
      rcases List.mem_append.1 hxp with h1 | h1
      · obtain ⟨k, hk, rfl⟩ := List.mem_map.1 h1
        unfold refP
        split
        · exact hwf 0 (by omega) (by omega)
        · have := begO_le os k.toNat
          exact hwf _ (by omega) (by omega)
      · exact (hw o ho).2 x h1
    · unfold flushC at hc
      split at hc
      · cases hc
      · obtain rfl := List.mem_singleton.1 hc
        have := List.eq_of_mem_replicate hxp
        exact hwf _ (by omega) (by omega)
theorem objs_wf {a : List Int} (h : checkE a = 0) (ha : ∀ x ∈ a, (Lit.int .u64 x).wf = true) : ∀ o ∈ (spotsL a).map (obOf a (spotsL a)), (∀ x ∈ o.refs, (Lit.int .i64 x).wf = true) ∧ ∀ x ∈ o.body, (Lit.int .u64 x).wf = true := by
  intro o ho
  obtain ⟨s, hs, rfl⟩ := List.mem_map.1 ho
  have hl := spotsL_length a
  constructor
  · intro x hx
    obtain ⟨v, hv, rfl⟩ := List.mem_map.1 hx
    cases hp : placeF (spotsL a) v with
    | none => decide
    | some k =>
      show (Lit.int .i64 k).wf = true
      have : k = -1 ∨ (0 ≤ k ∧ k < 256) := by
        unfold placeF at hp
        split at hp
        · exact .inl (Option.some.inj hp).symm
        · cases hf : (spotsL a).findIdx? (isPlace v) with
          | none => rw [hf] at hp; cases hp
          | some j =>
            rw [hf] at hp
            obtain ⟨h1, -⟩ := List.findIdx?_eq_some_iff_getElem.1 hf
            have := Option.some.inj hp
            right
            dsimp only at this
            omega
      simp [Lit.wf, IntKind.min, IntKind.max, IntKind.signed, IntKind.bits]
      omega
  · intro x hx
    have hx' : x ∈ bodyOf a s := hx
    unfold bodyOf at hx'
    exact ha x (List.mem_of_mem_drop (List.mem_of_mem_take hx'))

set_option maxRecDepth 100000 in
set_option maxHeartbeats 4000000 in
theorem walkBack_any (A : Option Addr) (n c : Nat) (os : List Ob) (vs : List ObV) (N : Int) (A2 : Option Addr) (n2 c2 : Nat) (a : List Int) (w : World) (hr : Reads w w.heap.size 4 A n (vs.flatMap obvC)) (hnc : n ≤ c) (hc : c ≤ maxLen) (ho : ObsR w w.heap.size os vs)
    (hw : ∀ o ∈ os, (∀ x ∈ o.refs, (Lit.int .i64 x).wf = true) ∧ ∀ x ∈ o.body, (Lit.int .u64 x).wf = true) (hln : os.length = n) (hm : n * 64 ≤ 140737488351232) (hNw : (Lit.int .i64 N).wf = true)
    (hrA : Reads w w.heap.size 1 A2 n2 (a.map (.int .u64))) (hnc2 : n2 ≤ c2) (hc2 : c2 ≤ maxLen) (ha : ∀ x ∈ a, (Lit.int .u64 x).wf = true) :
    Calls Try.prog 4 #[.slice A n c, .int .i64 N, .slice A2 n2 c2] w fun e w' => e = .returned (.bool true) ∧ Below w.heap.size w w' := by
  clear hnc hc hc2 hNw
  have hal : a.length = n2 := by have := hrA.1; simpa using this
  have HAL := Lib.hid hal
  have HLay := Lib.hid (fun w hr ho => lay_any A n c os vs N w hr ho hln (by omega) hw)
  have HLN := Lib.hid hln
  have HWf := Lib.hid hw
  have HOb := Lib.hid ho
  have hvl : vs.length = n := by have := ho.1; omega
  clear hal hln hw ho
  go_enter Try.func4, Try.ntmps4
  go_wp2_with fail
  refine (walks_true _).mono ?_
  rintro e w1 ⟨rfl, hb1⟩
  go_wp2_with fail
  refine (HLay.out _ ((hr.below hb1).more hb1.size) (HOb.out.keep hb1 hb1.size)).mono ?_
  rintro e w2 ⟨hb2, ⟨M, A1, c1, rfl, hok, rfl, hown1⟩ | ⟨-, er, her, rfl⟩⟩
  · have hb02 := below_step hb1 hb2
    obtain ⟨g1, g2, g3⟩ := lay_objects hok
    have hbw := layW_wf hok HWf.out
    have hM := hok.hi
    have htl := totO_len os
    have hft := hok.fit
    have hn256 : n ≤ 256 := by have := HLN.out; omega
    have HO1 := objects_ok A1 M c1 (layW os M) w2 (Reads.of_own hown1) (own_cap hown1) hbw g1
    have hsl : (spotsL (layW os M)).length = n + (restO os M).length := by
      have := congrArg List.length g3
      rw [List.length_map, List.length_append, HLN.out] at this
      exact this
    rw [g3, hsl] at HO1
    have hbo : ∀ o ∈ os, o.refs.length ≤ 1000000 ∧ o.body.length ≤ 1000000 := fun o ho => by
      have := headE_ok.1 (hok.heads o ho)
      omega
    have HBO := Lib.hid hbo
    clear g1 g2 g3 hbw htl hft hsl hbo hown1 hok HLay
    have hz1 : ((M : Int) != (M : Int)) = false := by simp
    have hrest : (restO os M = [] ∨ ∃ o, restO os M = [o] ∧ o.f = true) := by
      unfold restO
      split
      · exact .inr ⟨_, rfl, rfl⟩
      · exact .inl rfl
    generalize restO os M = rs at *
    have HO1 := Lib.hid HO1
    rcases hrest with rfl | ⟨ro, rfl, hrf⟩
    · go_wp2_with fail
      refine HO1.out.mono ?_
      rintro e w3 ⟨hb3, A4, c4, v4, rfl, hown4, hO4⟩
      rw [List.append_nil] at hO4
      have hb03 := below_step hb02 hb3
      have hrm := Reads.of_own hown4
      simp only [List.length_nil, Nat.add_zero] at hrm ⊢
      have HEq := Lib.hid (equalObsF_any 15 (plain_of (fn := Try.f15) Try.func15 (by kernel_rfl) (by kernel_rfl)) sameOb_any A4 A n c4 n c os os v4 vs w3 hrm ((hr.below hb03).more hb03.size) hO4.reads (HOb.out.keep hb03 hb03.size) HLN.out HLN.out (by omega) (by omega) HBO.out HBO.out)
      rw [decide_eq_true rfl] at HEq
      obtain ⟨n1, hn1⟩ : ∃ n1, n1 = n + 1 := ⟨_, rfl⟩
      have wn1 : IntKind.i64.wrap ((n : Int) + 1) = n1 := by rw [IntWalk.i64_in _ (by omega)]; omega
      have k1 : decide (n < n) = false := decide_eq_false (by omega)
      have k2 : decide (n1 < n) = false := decide_eq_false (by omega)
      have hcc := own_cap hown4
      have hni : (n : Int) ≤ c4 := by
        simp only [List.length_nil, Nat.add_zero] at hcc
        omega
      have hni0 : (0 : Int) ≤ n := by omega
      clear hown4 hO4 hrm hn1 hcc
      go_wp2_with fail
      refine HEq.out.mono ?_
      rintro e w4 ⟨rfl, hb4⟩
      have hb04 := below_step hb03 hb4
      by_cases hEa : checkE a = 0
      · have HO2 := Lib.hid (objects_ok A2 n2 c2 a w4 ((hrA.below hb04).more hb04.size) hnc2 ha hEa)
        obtain ⟨hl1, hl2⟩ := objects_lay hEa
        have hwo := objs_wf hEa ha
        have hol : ((spotsL a).map (obOf a (spotsL a))).length = (spotsL a).length := List.length_map _
        have hs256 := spotsL_length a
        generalize (spotsL a).map (obOf a (spotsL a)) = ob at *
        obtain ⟨K2, hK2⟩ : ∃ K2, K2 = (spotsL a).length := ⟨_, rfl⟩
        rw [← hK2] at HO2 hol hs256
        have hn2 : n2 ≤ 256 := by have := (parse_ok (checkE_ok.1 hEa).1).1; rw [HAL.out] at this; exact this
        have HL1 := Lib.hid hl1
        have HL2 := Lib.hid hl2
        have HWO := Lib.hid hwo
        have HOL := Lib.hid hol
        clear hl1 hl2 hwo hol hK2 hEa
        go_wp2_with fail
        refine HO2.out.mono ?_
        rintro e wX ⟨hbX, A8, c8, v8, rfl, hown8, hO8⟩
        have hbY := below_step hb04 hbX
        have HLy := Lib.hid (lay_any A8 K2 c8 ob v8 n2 wX (Reads.of_own hown8) hO8.reads HOL.out (by omega) HWO.out)
        clear hown8 hO8
        go_wp2_with fail
        refine HLy.out.mono ?_
        rintro e wZ ⟨hbZ, ⟨M2, A9, c9, hM2, hok2, rfl, hown9⟩ | ⟨hno2, -⟩⟩
        · obtain rfl : n2 = M2 := by omega
          have hb0Z := below_step hbY hbZ
          have e9 : layW ob n2 = a := by have := HL2.out; rwa [HAL.out] at this
          rw [e9] at hown9
          have HE9 := Lib.hid (equal_u64 A2 A9 n2 c2 n2 c9 wZ.heap.size wZ.heap.size a a wZ ((hrA.below hb0Z).more hb0Z.size) (Reads.of_own hown9) (by omega) (by omega))
          rw [decide_eq_true rfl] at HE9
          clear hown9 hok2 e9 hM2
          go_wp2_with fail
          refine HE9.out.mono ?_
          rintro e wQ ⟨rfl, qq, rfl⟩
          go_wp2
          go_ret
          exact ⟨by first | rfl | simp, below_drewN hb0Z _⟩
        · have := HL1.out
          rw [HAL.out] at this
          exact absurd this hno2
      · have HO2 := Lib.hid (objects_bad A2 n2 c2 a w4 ((hrA.below hb04).more hb04.size) hnc2 ha hEa)
        have hEb : (checkE a != 0) = true := by simpa using hEa
        generalize checkE a = Ea at *
        clear hEa
        go_wp2_with fail
        refine HO2.out.mono ?_
        rintro e wX ⟨rfl, hbX⟩
        go_wp2
        go_ret
        exact ⟨by first | rfl | simp, below_step hb04 hbX⟩
    · go_wp2_with fail
      refine HO1.out.mono ?_
      rintro e w3 ⟨hb3, A4, c4, v4, rfl, hown4, hO4⟩
      have hb03 := below_step hb02 hb3
      have hrm := Reads.of_own hown4
      have hor := hO4.reads
      simp only [List.length_singleton] at hrm hown4 ⊢
      have hcc := own_cap hown4
      have hvl4 : v4.length = n + 1 := by have := hO4.1; rw [List.length_append, HLN.out] at this; exact this.symm
      have hrm2 : Reads w3 w3.heap.size 4 A4 n ((v4.take n).flatMap obvC) := by
        have h := Reads.front hrm (m := n) (by omega)
        rw [flat_front obvC 4 (fun _ => rfl) v4 n (by omega)]
        exact h
      have hor2 : ObsR w3 w3.heap.size os (v4.take n) := by
        refine ⟨by rw [List.length_take, hvl4, HLN.out]; omega, fun i o v ho hv => ?_⟩
        have hi : i < n := by have := (List.getElem?_eq_some_iff.1 ho).1; have := HLN.out; omega
        rw [List.getElem?_take, if_pos hi] at hv
        exact hor.2 i o v (by rw [List.getElem?_append_left (by have := HLN.out; omega)]; exact ho) hv
      have HEq := Lib.hid (equalObsF_any 15 (plain_of (fn := Try.f15) Try.func15 (by kernel_rfl) (by kernel_rfl)) sameOb_any A4 A n c4 n c os os (v4.take n) vs w3 hrm2 ((hr.below hb03).more hb03.size) hor2 (HOb.out.keep hb03 hb03.size) HLN.out HLN.out (by omega) (by omega) HBO.out HBO.out)
      rw [decide_eq_true rfl] at HEq
      obtain ⟨ad, vr, rfl, had, hvr, m0, m1, m2, m3⟩ := hrm.obv (j := n) (by omega)
      have hrr := (hor.2 n ro vr (by rw [List.getElem?_append_right (by rw [HLN.out]; exact Nat.le_refl _), HLN.out, Nat.sub_self]; rfl) hvr).2.1
      rw [hrr, hrf] at m3
      obtain ⟨n1, hn1⟩ : ∃ n1, n1 = n + 1 := ⟨_, rfl⟩
      rw [← hn1] at hrm hown4 hcc ⊢
      have wn1 : IntKind.i64.wrap ((n : Int) + 1) = n1 := by rw [IntWalk.i64_in _ (by omega)]; omega
      have k1 : decide (n1 < n) = false := decide_eq_false (by omega)
      have k2 : decide (n1 < n1) = false := decide_eq_false (by omega)
      have k3 : decide (n < n1) = true := decide_eq_true (by omega)
      have hni : (n : Int) ≤ c4 := by omega
      have hni0 : (0 : Int) ≤ n := by omega
      have hni1 : (n : Int) < n1 := by omega
      have hbl : ad.block < w3.heap.size := had
      clear hown4 hO4 hrm hn1 hcc hor hrm2 hor2 hvl4 hrr hvr
      go_wp2_with fail
      refine HEq.out.mono ?_
      rintro e w4 ⟨rfl, hb4⟩
      have hb04 := below_step hb03 hb4
      have p3 : w4.cell? ⟨(ad.add (n * 4)).block, (ad.add (n * 4)).off + 3, none⟩ = some (.bool true) := by
        rw [hb4.cell (p := ⟨(ad.add (n * 4)).block, (ad.add (n * 4)).off + 3, none⟩) (by rw [block_of_add]; exact hbl)]
        exact m3
      clear m0 m1 m2 m3
      by_cases hEa : checkE a = 0
      · have HO2 := Lib.hid (objects_ok A2 n2 c2 a w4 ((hrA.below hb04).more hb04.size) hnc2 ha hEa)
        obtain ⟨hl1, hl2⟩ := objects_lay hEa
        have hwo := objs_wf hEa ha
        have hol : ((spotsL a).map (obOf a (spotsL a))).length = (spotsL a).length := List.length_map _
        have hs256 := spotsL_length a
        generalize (spotsL a).map (obOf a (spotsL a)) = ob at *
        obtain ⟨K2, hK2⟩ : ∃ K2, K2 = (spotsL a).length := ⟨_, rfl⟩
        rw [← hK2] at HO2 hol hs256
        have hn2 : n2 ≤ 256 := by have := (parse_ok (checkE_ok.1 hEa).1).1; rw [HAL.out] at this; exact this
        have HL1 := Lib.hid hl1
        have HL2 := Lib.hid hl2
        have HWO := Lib.hid hwo
        have HOL := Lib.hid hol
        clear hl1 hl2 hwo hol hK2 hEa
        go_wp2_with fail
        refine HO2.out.mono ?_
        rintro e wX ⟨hbX, A8, c8, v8, rfl, hown8, hO8⟩
        have hbY := below_step hb04 hbX
        have HLy := Lib.hid (lay_any A8 K2 c8 ob v8 n2 wX (Reads.of_own hown8) hO8.reads HOL.out (by omega) HWO.out)
        clear hown8 hO8
        go_wp2_with fail
        refine HLy.out.mono ?_
        rintro e wZ ⟨hbZ, ⟨M2, A9, c9, hM2, hok2, rfl, hown9⟩ | ⟨hno2, -⟩⟩
        · obtain rfl : n2 = M2 := by omega
          have hb0Z := below_step hbY hbZ
          have e9 : layW ob n2 = a := by have := HL2.out; rwa [HAL.out] at this
          rw [e9] at hown9
          have HE9 := Lib.hid (equal_u64 A2 A9 n2 c2 n2 c9 wZ.heap.size wZ.heap.size a a wZ ((hrA.below hb0Z).more hb0Z.size) (Reads.of_own hown9) (by omega) (by omega))
          rw [decide_eq_true rfl] at HE9
          clear hown9 hok2 e9 hM2
          go_wp2_with fail
          refine HE9.out.mono ?_
          rintro e wQ ⟨rfl, qq, rfl⟩
          go_wp2
          go_ret
          exact ⟨by first | rfl | simp, below_drewN hb0Z _⟩
        · have := HL1.out
          rw [HAL.out] at this
          exact absurd this hno2
      · have HO2 := Lib.hid (objects_bad A2 n2 c2 a w4 ((hrA.below hb04).more hb04.size) hnc2 ha hEa)
        have hEb : (checkE a != 0) = true := by simpa using hEa
        generalize checkE a = Ea at *
        clear hEa
        go_wp2_with fail
        refine HO2.out.mono ?_
        rintro e wX ⟨rfl, hbX⟩
        go_wp2
        go_ret
        exact ⟨by first | rfl | simp, below_step hb04 hbX⟩
  · have hb02 := below_step hb1 hb2
    by_cases hEa : checkE a = 0
    · have HO2 := Lib.hid (objects_ok A2 n2 c2 a w2 ((hrA.below hb02).more hb02.size) hnc2 ha hEa)
      obtain ⟨hl1, hl2⟩ := objects_lay hEa
      have hwo := objs_wf hEa ha
      have hol : ((spotsL a).map (obOf a (spotsL a))).length = (spotsL a).length := List.length_map _
      have hs256 := spotsL_length a
      generalize (spotsL a).map (obOf a (spotsL a)) = ob at *
      obtain ⟨K2, hK2⟩ : ∃ K2, K2 = (spotsL a).length := ⟨_, rfl⟩
      rw [← hK2] at HO2 hol hs256
      have hn2 : n2 ≤ 256 := by have := (parse_ok (checkE_ok.1 hEa).1).1; rw [HAL.out] at this; exact this
      have HL1 := Lib.hid hl1
      have HL2 := Lib.hid hl2
      have HWO := Lib.hid hwo
      have HOL := Lib.hid hol
      clear hl1 hl2 hwo hol hK2 hEa
      go_wp2_with fail
      refine HO2.out.mono ?_
      rintro e wX ⟨hbX, A8, c8, v8, rfl, hown8, hO8⟩
      have hbY := below_step hb02 hbX
      have HLy := Lib.hid (lay_any A8 K2 c8 ob v8 n2 wX (Reads.of_own hown8) hO8.reads HOL.out (by omega) HWO.out)
      clear hown8 hO8
      go_wp2_with fail
      refine HLy.out.mono ?_
      rintro e wZ ⟨hbZ, ⟨M2, A9, c9, hM2, hok2, rfl, hown9⟩ | ⟨hno2, -⟩⟩
      · obtain rfl : n2 = M2 := by omega
        have hb0Z := below_step hbY hbZ
        have e9 : layW ob n2 = a := by have := HL2.out; rwa [HAL.out] at this
        rw [e9] at hown9
        have HE9 := Lib.hid (equal_u64 A2 A9 n2 c2 n2 c9 wZ.heap.size wZ.heap.size a a wZ ((hrA.below hb0Z).more hb0Z.size) (Reads.of_own hown9) (by omega) (by omega))
        rw [decide_eq_true rfl] at HE9
        clear hown9 hok2 e9 hM2
        go_wp2_with fail
        refine HE9.out.mono ?_
        rintro e wQ ⟨rfl, qq, rfl⟩
        go_wp2
        go_ret
        exact ⟨by first | rfl | simp, below_drewN hb0Z _⟩
      · have := HL1.out
        rw [HAL.out] at this
        exact absurd this hno2
    · have HO2 := Lib.hid (objects_bad A2 n2 c2 a w2 ((hrA.below hb02).more hb02.size) hnc2 ha hEa)
      have hEb : (checkE a != 0) = true := by simpa using hEa
      generalize checkE a = Ea at *
      clear hEa
      go_wp2_with fail
      refine HO2.out.mono ?_
      rintro e wX ⟨rfl, hbX⟩
      go_wp2
      go_ret
      exact ⟨by first | rfl | simp, below_step hb02 hbX⟩

namespace WalkBack
open Go.ChangeShapes Go.WideShapes Go.ChangeAt Go.RowKit
theorem own : ownKnob Try.prog.godebug = none := by kernel_rfl
theorem laidOut : laidOutB Try.prog = true := by kernel_rfl

set_option maxRecDepth 100000 in
theorem lifted (os : Os) (started : os.Started) (H : Type) (enc : TypeId × Value → H) :
    ReturnsInHanded {} Try.checked os 4 .any (Rows.walkBackSpec.pre6 enc Try.prog Try.f4 Rows.walkBackRow.domain false) (Rows.walkBackSpec.post enc Try.prog Try.f4 false true false false) := by
  refine returnsInHanded_of_change_sized (C := Try.checked) own started (by as_aux_lemma => kernel_rfl) Try.func4
    (ChangeSpec.witness6 (enc := enc) (C := Try.checked) false ⟨#[], #[.slice none 0 0, .int .i64 0, .slice none 0 0], []⟩ 8 (by as_aux_lemma => kernel_rfl) (by as_aux_lemma => kernel_rfl) (by as_aux_lemma => kernel_rfl) (by as_aux_lemma => kernel_rfl)) ?_
  intro W base args ds gs before hval0 hW hcnd hsz _
  have hval : ∀ (j : Nat) t v, Try.f4.params[j]? = some t → args[j]? = some v → Value.okWide Try.prog W .any base t v := hval0
  have hW' := hW
  obtain ⟨p, q, hA0, hV, rfl, hfz, hnd⟩ := hW
  have hA : DataW.TrodAll enc Try.prog W 0 (fun _ => true) true Try.f4.params.toList args.toList ds p := hA0
  rw [Try.params4] at hA hval
  obtain ⟨v0, vs0, d0, ds0, p0, q0, hargs, rfl, rfl, h0, hA⟩ := trodAll_cons hA
  obtain ⟨v1, vs1, d1, ds1, p1, q1, rfl, rfl, rfl, h1, hA⟩ := trodAll_cons hA
  obtain ⟨v2, vs2, d2, ds2, p2, q2, rfl, rfl, rfl, h2, hA⟩ := trodAll_cons hA
  obtain ⟨rfl, rfl, rfl⟩ := trodAll_nil hA
  obtain rfl : args = #[v0, v1, v2] := by cases args; simp_all
  obtain ⟨A0, n0, c0, os0, vs0_, rfl, hnc0, hc0, hr0, ho0, hw0, hl0, hd0⟩ := open_obs (hval 0 _ v0 rfl rfl) (fun x hx => hW'.lt x (by simp [hx])) h0
  have hm0 : n0 * 64 ≤ 140737488351232 := by
    rcases hd0 with h0 | ⟨D, E, rfl, hD⟩
    · omega
    · have h5 : (D.length + E.length) * Try.prog.bytesOf 38 ≤ reachBytes := sized_slice hsz (j := 0) (t := 25) (e := 38) rfl rfl Try.underlying25
      rw [k_ob_bytes, hD] at h5
      simp only [reachBytes] at h5
      omega
  obtain ⟨i1, rfl, rfl, rfl, w1⟩ := open_int Try.underlying3 (hval 1 _ v1 rfl rfl) h1
  obtain ⟨A2, n2, c2, xs2, rfl, hnc2, hc2, hr2, hx2⟩ := open_nums Try.underlying22 Try.underlying47 (by as_aux_lemma => kernel_rfl) (hval 2 _ v2 rfl rfl) (fun x hx => hW'.lt x (by simp [hx])) h2
  refine (walkBack_any A0 n0 c0 os0 vs0_ i1 A2 n2 c2 xs2 W hr0 hnc0 hc0 ho0 hw0 hl0 hm0 w1 hr2 hnc2 hc2 hx2).mono fun e W' ⟨he, hb⟩ => ?_
  subst he
  exact ⟨_, rfl, law_post laidOut Try.underlying4 rfl (by as_aux_lemma => kernel_rfl) rfl rfl hW' hb⟩

set_option maxHeartbeats 10000000 in
theorem closed : joinedFacts Try.prog 4 Try.f4 Rows.walkBackSpec Rows.walkBackRow = true := by
  unfold joinedFacts
  simp only [Bool.and_eq_true]
  repeat' apply And.intro
  all_goals as_aux_lemma => kernel_rfl

set_option maxHeartbeats 1000000 in
theorem proved : Rows.WalkBackSaid :=
  OpenClaim.holds_of_wide 4 Try.f4 rfl rfl rfl rfl rfl rfl rfl ⟨rfl, rfl, rfl, rfl, rfl⟩ rfl rfl rfl rfl rfl (by as_aux_lemma => kernel_rfl) Try.func4 closed
    (of_decide_eq_true (by as_aux_lemma => kernel_rfl)) (by unfold Func.isWrapper; first | (rw [if_pos (by decide +kernel)]; kernel_rfl) | (rw [if_neg (by decide +kernel)]; exact ⟨rfl, rfl⟩))
    (fun os started H enc _ => lifted os started H enc)
end WalkBack
end Go.Proofs.Ytammailnbgojgab
