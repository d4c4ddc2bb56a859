/-
  Texts joined: StoreCheck Chunks JoinLaw PlanDefs PlanLaw TintEach.
-/
import Derived.Deep.CutRange
import Derived.BigQuiet
import Derived.Test.YtbmkbnalembbjaaGreatDoorR2
import Derived.Test.YtbmkbnalembbjaaGreatDoorR3
import Derived.Test.YtbmkbnalembbjaaGreatDoorR4
namespace Go.Proofs.YtbmkbnalembbjaaGreatDoor
open Go.RowKit
theorem fromL_length (r : List Int) (l : List Slot) (p : List Rn) : (fromL r l p).length ≤ r.length + l.length + p.length := by
  unfold fromL
  have h1 := (compact_sublist (sortL ((namedL r ++ openL l) ++ pinsL p))).length_le
  rw [sortL_length, List.length_append, List.length_append] at h1
  have h2 := namedL_length r
  have h3 : (openL l).length ≤ l.length := by unfold openL; rw [List.length_map]; exact List.length_filter_le _ _
  have h4 : (pinsL p).length = p.length := by unfold pinsL; rw [List.length_map]
  omega
def firstE (es : List Int) : Int := (es.find? (· ≠ 0)).getD 0
theorem firstE_eq (a b c d : Int) : firstE [a, b, c, d] = if a ≠ 0 then a else if b ≠ 0 then b else if c ≠ 0 then c else d := by
  unfold firstE
  by_cases h1 : a = 0 <;> by_cases h2 : b = 0 <;> by_cases h3 : c = 0 <;> by_cases h4 : d = 0 <;> simp [h1, h2, h3, h4, List.find?]
theorem at_cases {a : List Int} (h : checkE a = 0) (x : Int) : (atIx a x < 0 ∧ x ∉ begsL (spotsL a)) ∨ ∃ (i : Nat) (s : Spot), atIx a x = i ∧ (spotsL a)[i]? = some s ∧ (x ∈ begsL (spotsL a) ↔ s.f = false) := by
  have hr := spots_rise (checkE_ok.1 h).1
  unfold atIx begsL
  rcases ixOf_cases (fun s : Spot => s.loc == x) (spotsL a) with ⟨h1, h2⟩ | ⟨i, s, h1, h2, h3, _⟩
  · refine .inl ⟨by omega, fun h4 => ?_⟩
    obtain ⟨s, hs, rfl⟩ := List.mem_map.1 h4
    have := h2 s (List.mem_filter.1 hs).1
    simp at this
  · refine .inr ⟨i, s, h1, h2, ?_⟩
    simp only [beq_iff_eq] at h3
    subst h3
    constructor
    · intro h4
      obtain ⟨y, hy, he⟩ := List.mem_map.1 h4
      obtain ⟨hy1, hy2⟩ := List.mem_filter.1 hy
      obtain ⟨j, hj, rfl⟩ := List.mem_iff_getElem.1 hy1
      obtain ⟨hi, rfl⟩ := List.getElem?_eq_some_iff.1 h2
      rcases Nat.lt_trichotomy i j with g | g | g
      · have := List.pairwise_iff_getElem.1 hr i j hi hj g; omega
      · subst g; simpa using hy2
      · have := List.pairwise_iff_getElem.1 hr j i hj hi g; omega
    · intro h4
      exact List.mem_map.2 ⟨s, List.mem_filter.2 ⟨List.mem_of_getElem? h2, by simp [h4]⟩, rfl⟩
def storeE (a r : List Int) (l : List Slot) (p : List Rn) : Int :=
  if firstE [checkE a, rootE r a.length, pinE p, handE l] ≠ 0 then firstE [checkE a, rootE r a.length, pinE p, handE l]
  else if (fromL r l p).all (fun x => decide (x ∈ begsL (spotsL a))) = true then 0 else 5
set_option maxRecDepth 100000 in
set_option maxHeartbeats 2000000 in
theorem storeCheck_any (A : Option Addr) (n c : Nat) (RA : Option Addr) (rn rc : Nat) (PA : Option Addr) (pn pc : Nat) (HA : Option Addr) (hn hc : Nat) (a r : List Int) (p : List Rn) (l : List Slot) (w : World)
    (hra : Reads w w.heap.size 1 A n (a.map (.int .u64))) (hnc : n ≤ c) (ha : ∀ x ∈ a, (Lit.int .u64 x).wf = true)
    (hrr : Reads w w.heap.size 1 RA rn (r.map (.int .i64))) (hrp : Reads w w.heap.size 2 PA pn (runsC p)) (hrl : Reads w w.heap.size 3 HA hn (slotsC l)) (hrn : rn ≤ 9223372036854775807) (hpn : pn ≤ 9223372036854775807) :
    Calls Tryz.prog 23 #[.agg #[.slice A n c, .slice RA rn rc, .slice PA pn pc, .slice HA hn hc]] w fun e w' => e = .returned (.int .i64 (storeE a r l p)) ∧ Below w.heap.size w w' := by
  have hal : a.length = n := by have := hra.1; simpa using this
  have hb0 := below_new w (.cells #[.slice A n c, .slice RA rn rc, .slice PA pn pc, .slice HA hn hc] 28)
  have DS := Blk.new w 28 #[.slice A n c, .slice RA rn rc, .slice PA pn pc, .slice HA hn hc]
  have H1 := Lib.hid (fun w hr => checkFn_any A n c a w hr hnc ha)
  have H2 := Lib.hid (fun w hr => rootCheck_any RA rn rc r (n : Int) w hr hrn)
  have H3 := Lib.hid (fun w hr => pcheck_any PA pn pc p w hr hpn)
  have H4 := Lib.hid (fun w (hr : Reads w w.heap.size 3 HA hn (slotsC l)) => handCheck_any HA hn hc w.heap.size l w hr (Nat.le_refl _))
  have HSE : Hid (storeE a r l p = if firstE [checkE a, rootE r n, pinE p, handE l] ≠ 0 then firstE [checkE a, rootE r n, pinE p, handE l] else if (fromL r l p).all (fun x => decide (x ∈ begsL (spotsL a))) = true then 0 else 5) := by show _ = _; unfold storeE; rw [hal]
  generalize hE1 : checkE a = E1 at *
  generalize hE2 : rootE r n = E2 at *
  generalize hE3 : pinE p = E3 at *
  generalize hE4 : handE l = E4 at *
  have HE1 := Lib.hid hE1
  have HE2 := Lib.hid hE2
  have HE3 := Lib.hid hE3
  have HE4 := Lib.hid hE4
  have HL := Lib.hid hal
  clear hE1 hE2 hE3 hE4 hal
  generalize storeE a r l p = F at *
  go_enter Tryz.func23, Tryz.ntmps23
  go_upto_region 1 with fail
  go_cut [24, 25, 26] from 9 to 54 (fun s24 s25 s26 wc => ∃ g, s24 = .slice (some ⟨g, 0, none⟩) 4 4 ∧ s25 = .int .i64 4 ∧ s26 = .int .i64 0 ∧ Below w.heap.size w wc ∧ Blk wc g 31 #[.int .i64 E1, .int .i64 E2, .int .i64 E3, .int .i64 E4] ∧ Blk wc w.heap.size 28 #[.slice A n c, .slice RA rn rc, .slice PA pn pc, .slice HA hn hc])
  case first =>
    have hb := hb0.drew
    have DS := DS.drew
    obtain ⟨s0, s1, s2, s3⟩ := DS.four
    go_region_held3 (fun w' => w'.cell? ⟨w.heap.size, 0, none⟩ = some (.slice A n c) ∧ w'.cell? ⟨w.heap.size, 1, none⟩ = some (.slice RA rn rc) ∧ w'.cell? ⟨w.heap.size, 2, none⟩ = some (.slice PA pn pc) ∧ w'.cell? ⟨w.heap.size, 3, none⟩ = some (.slice HA hn hc)) (go_keep)
      (first
        | (go_at_call 53; with_reducible refine (H1.out _ ((hra.below hb).more hb.size)).mono ?_; rintro e wA ⟨rfl, hbA⟩; have DS := DS.below hbA DS.lt; obtain ⟨s0, s1, s2, s3⟩ := DS.four; have hb := hb.trans (hbA.mono hb.size))
        | (go_at_call 54; with_reducible refine (H2.out _ ((hrr.below hb).more hb.size)).mono ?_; rintro e wB ⟨rfl, hbB⟩; have DS := DS.below hbB DS.lt; obtain ⟨s0, s1, s2, s3⟩ := DS.four; have hb := hb.trans (hbB.mono hb.size))
        | (go_at_call 55; with_reducible refine (H3.out _ ((hrp.below hb).more hb.size)).mono ?_; rintro e wC ⟨rfl, hbC⟩; have DS := DS.below hbC DS.lt; obtain ⟨s0, s1, s2, s3⟩ := DS.four; have hb := hb.trans (hbC.mono hb.size))
        | (go_at_call 56; with_reducible refine (H4.out _ ((hrl.below hb).more hb.size)).mono ?_; rintro e wD ⟨rfl, hbD⟩; have DS := DS.below hbD DS.lt; obtain ⟨s0, s1, s2, s3⟩ := DS.four; have hb := hb.trans (hbD.mono hb.size)))
    all_goals
      go_wp2_with fail
      go_meet
      exact ⟨_, rfl, rfl, rfl, hb.alloc hb.size _, Blk.new _ _ _, DS.alloc _⟩
  case rest =>
    obtain ⟨g, rfl, rfl, rfl, hb, DE, DS⟩ := hcut
    have hFE := firstE_eq E1 E2 E3 E4
    have k0 := DE.cell 0
    have k1 := DE.cell 1
    have k2 := DE.cell 2
    have k3 := DE.cell 3
    simp only [List.getElem?_toArray, List.getElem?_cons_zero, List.getElem?_cons_succ] at k0 k1 k2 k3
    have HFE := Lib.hid hFE
    have HDS := Lib.hid DS
    have HB := Lib.hid hb
    clear hFE DE DS hb hb0
    go_wp2_with fail
    go_loop [26] (fun i => i = .int .i64 0 ∨ (i = .int .i64 1 ∧ Hid (E1 = 0)) ∨ (i = .int .i64 2 ∧ Hid (E1 = 0 ∧ E2 = 0)) ∨ (i = .int .i64 3 ∧ Hid (E1 = 0 ∧ E2 = 0 ∧ E3 = 0)) ∨ (i = .int .i64 4 ∧ Hid (E1 = 0 ∧ E2 = 0 ∧ E3 = 0 ∧ E4 = 0))) (fun i => 4 - (intOf i).toNat)
    case atStart => exact .inl rfl
    case round =>
      rcases hrel with rfl | ⟨rfl, H0⟩ | ⟨rfl, H0⟩ | ⟨rfl, H0⟩ | ⟨rfl, H0⟩
      · by_cases hz : E1 = 0
        · have HZ : Hid (E1 = 0) := by show _; exact hz
          have hz1 : (E1 != 0) = false := by simp [hz]
          clear hz
          go_wp2_with fail
          go_round
          case rel => exact .inr (.inl ⟨rfl, HZ⟩)
          case measure => simp [intOf]
        · have HR : Hid (F = E1) := by
            show _ = _
            rw [HSE.out, HFE.out]
            simp [hz]
          have hz1 : (E1 != 0) = true := by simp [hz]
          clear hz
          go_wp2_with fail
          go_ret
          exact ⟨by rw [HR.out]; simp, HB.out⟩
      · by_cases hz : E2 = 0
        · have HZ : Hid (E1 = 0 ∧ E2 = 0) := by show _; exact ⟨H0.out, hz⟩
          have hz1 : (E2 != 0) = false := by simp [hz]
          clear hz
          go_wp2_with fail
          go_round
          case rel => exact .inr (.inr (.inl ⟨rfl, HZ⟩))
          case measure => simp [intOf]
        · have HR : Hid (F = E2) := by
            show _ = _
            rw [HSE.out, HFE.out]
            have H1 := H0.out
            simp [hz, H1]
          have hz1 : (E2 != 0) = true := by simp [hz]
          clear hz
          go_wp2_with fail
          go_ret
          exact ⟨by rw [HR.out]; simp, HB.out⟩
      · by_cases hz : E3 = 0
        · have HZ : Hid (E1 = 0 ∧ E2 = 0 ∧ E3 = 0) := by show _; exact ⟨H0.out.1, H0.out.2, hz⟩
          have hz1 : (E3 != 0) = false := by simp [hz]
          clear hz
          go_wp2_with fail
          go_round
          case rel => exact .inr (.inr (.inr (.inl ⟨rfl, HZ⟩)))
          case measure => simp [intOf]
        · have HR : Hid (F = E3) := by
            show _ = _
            rw [HSE.out, HFE.out]
            have H1 := H0.out
            simp [hz, H1]
          have hz1 : (E3 != 0) = true := by simp [hz]
          clear hz
          go_wp2_with fail
          go_ret
          exact ⟨by rw [HR.out]; simp, HB.out⟩
      · by_cases hz : E4 = 0
        · have HZ : Hid (E1 = 0 ∧ E2 = 0 ∧ E3 = 0 ∧ E4 = 0) := by show _; exact ⟨H0.out.1, H0.out.2.1, H0.out.2.2, hz⟩
          have hz1 : (E4 != 0) = false := by simp [hz]
          clear hz
          go_wp2_with fail
          go_round
          case rel => exact .inr (.inr (.inr (.inr ⟨rfl, HZ⟩)))
          case measure => simp [intOf]
        · have HR : Hid (F = E4) := by
            show _ = _
            rw [HSE.out, HFE.out]
            have H1 := H0.out
            simp [hz, H1]
          have hz1 : (E4 != 0) = true := by simp [hz]
          clear hz
          go_wp2_with fail
          go_ret
          exact ⟨by rw [HR.out]; simp, HB.out⟩
      · obtain ⟨rfl, rfl, rfl, rfl⟩ := H0.out
        have hrE := HE2.out
        have hpE := (pinE_ok.1 HE3.out)
        have hhE := (handE_ok.1 HE4.out).1
        have hcE := HE1.out
        have hF : F = if (fromL r l p).all (fun x => decide (x ∈ begsL (spotsL a))) = true then 0 else 5 := by rw [HSE.out, HFE.out]; simp
        have hpn16 : pn ≤ 16 := by have := hrp.1; rw [runsC_length] at this; have := hpE.len; omega
        have hhn16 : hn ≤ 16 := by have := hrl.1; rw [slotsC_length] at this; omega
        have HFr := Lib.hid (fun w hrr hrp hrl => from_any A n c RA rn rc PA pn pc HA hn hc r p l w hrr hrp hrl hpn16 hhn16 hrE)
        have HHF := Lib.hid hF
        have HCE := Lib.hid hcE
        have HAt := Lib.hid (at_cases hcE)
        have HA0 := Lib.hid (fun x w hr (hix : atIx a x < 0) => at_none A n c a x w hr hnc ha hcE hix)
        have HA1 := Lib.hid (fun x i s w hr (hix : atIx a x = (i : Nat)) hs => at_ok A n c a x i s w hr hnc ha hcE hix hs)
        have hLl : (fromL r l p).length ≤ 64 := by
          have g1 := fromL_length r l p
          have g2 := (rootE_ok hrE).2.2.1
          have g3 := hpE.len
          omega
        generalize fromL r l p = L at *
        have hb := HB.out
        have DS := HDS.out
        obtain ⟨s0, s1, s2, s3⟩ := DS.four
        clear hF hcE hrE hpE hhE HSE HFE H1 H2 H3 H4 HE1 HE2 HE3 HE4 H0 k0 k1 k2 k3
        go_wp2_with fail
        refine (HFr.out _ ((hrr.below hb).more hb.size) ((hrp.below hb).more hb.size) ((hrl.below hb).more hb.size)).mono ?_
        rintro e w5 ⟨A5, c5, rfl, hown5, hb5⟩
        have hrL := Reads.of_own hown5
        have DS5 := DS.below hb5 DS.lt
        have hb05 := below_step hb hb5
        obtain ⟨m, hm⟩ : ∃ m, m = L.length := ⟨_, rfl⟩
        rw [← hm] at hrL hLl ⊢
        have HM := Lib.hid hm
        clear hm hown5 DS s0 s1 s2 s3 hb hb5
        go_wp2_with fail
        go_loopw [37] (fun i wr => ∃ j : Nat, j ≤ m ∧ i = .int .i64 j ∧ Hid (∀ x ∈ L.take j, x ∈ begsL (spotsL a)) ∧ Below w5.heap.size w5 wr) (fun i _ => m - (intOf i).toNat)
        case atStart => exact ⟨0, Nat.zero_le _, rfl, by intro x hx; simp at hx, Below.refl _ _⟩
        case round =>
          obtain ⟨j, hj, rfl, HI, hb⟩ := hrel
          have hbr := below_step hb05 hb
          have DSr := DS5.below hb DS5.lt
          obtain ⟨s0, s1, s2, s3⟩ := DSr.four
          by_cases hlt : j < m
          · obtain ⟨ad, x, rfl, had, hx, k0⟩ := (hrL.below hb).num hlt
            have HT : Hid (L.take (j + 1) = L.take j ++ [x]) := by
              show _ = _
              obtain ⟨h1, rfl⟩ := List.getElem?_eq_some_iff.1 hx
              exact List.take_succ_eq_append_getElem h1
            have HX : Hid (x ∈ L) := List.mem_of_getElem? hx
            have HNO : Hid (x ∉ begsL (spotsL a) → F = 5) := fun h => by
              rw [HHF.out, if_neg]
              intro h2
              exact h (of_decide_eq_true (List.all_eq_true.1 h2 x HX.out))
            have hj1 : j + 1 ≤ m := hlt
            have hrW := (hra.below hbr).more hbr.size
            clear hx DS5 DSr
            rcases HAt.out x with ⟨hix, hnb⟩ | ⟨i, sp, hix, hsp, hiff⟩
            · have HN := Lib.hid (HA0.out x _ hrW hix)
              have HR : Hid (F = 5) := HNO.out hnb
              clear hix hnb
              go_wp2_with fail
              refine HN.out.mono ?_
              rintro e w6 ⟨rfl, hb6⟩
              have hb06 := below_step hbr hb6
              go_wp2_with fail
              go_ret
              exact ⟨by rw [HR.out]; simp, hb06.alloc hb06.size _⟩
            · have HN := Lib.hid (HA1.out x i sp _ hrW hix hsp)
              obtain ⟨loc, r0, b0, t0, f0⟩ := sp
              dsimp only at hiff
              have HIF := Lib.hid hiff
              clear hix hsp hiff
              cases f0
              · have HI2 : Hid (∀ y ∈ L.take (j + 1), y ∈ begsL (spotsL a)) := by
                  intro y hy
                  rw [HT.out, List.mem_append] at hy
                  rcases hy with hy | hy
                  · exact HI.out y hy
                  · simp only [List.mem_cons, List.not_mem_nil, or_false] at hy
                    subst hy
                    exact HIF.out.2 rfl
                go_wp2_with fail
                refine HN.out.mono ?_
                rintro e w6 ⟨hb6, A6, c6, A7, c7, rfl, -, -⟩
                have hb7 := hb.trans (hb6.mono hb.size)
                go_wp2_with fail
                go_roundw
                case rel => exact ⟨j + 1, hj1, by go_num, HI2, hb7.alloc hb7.size _⟩
                case measure => simp [intOf]; omega
              · have HR : Hid (F = 5) := HNO.out (fun h => by have := HIF.out.1 h; cases this)
                go_wp2_with fail
                refine HN.out.mono ?_
                rintro e w6 ⟨hb6, A6, c6, A7, c7, rfl, -, -⟩
                have hb06 := below_step hbr hb6
                go_wp2_with fail
                go_ret
                exact ⟨by rw [HR.out]; simp, hb06.alloc hb06.size _⟩
          · have hjm : j = m := by omega
            have e : L.take j = L := List.take_of_length_le (by rw [← HM.out]; omega)
            rw [e] at HI
            have HR : Hid (F = 0) := by
              show _ = _
              rw [HHF.out, if_pos]
              exact List.all_eq_true.2 (fun x hx => decide_eq_true (HI.out x hx))
            clear e
            go_wp2_with fail
            go_ret
            exact ⟨by rw [HR.out]; simp, hbr⟩
end Go.Proofs.YtbmkbnalembbjaaGreatDoor

namespace Go.Proofs.YtbmkbnalembbjaaGreatDoor
open Go.RowKit
theorem rdw_word (r b t : Int) (f : Bool) (h : headE r b t f = 0) : readOk (wordOf r b t f) ∧ rdR (wordOf r b t f) = r ∧ rdB (wordOf r b t f) = b ∧ rdT (wordOf r b t f) = t ∧ rdF (wordOf r b t f) = f ∧ 0 ≤ wordOf r b t f ∧ wordOf r b t f < 18446744073709551616 := by
  obtain ⟨h1, h2, h3, h4, h5, h6, h7, h8⟩ := headE_ok.1 h
  have hF : (if f then 281474976710656 else 0 : Int) = 0 ∧ f = false ∨ (if f then 281474976710656 else 0 : Int) = 281474976710656 ∧ f = true := by cases f <;> simp
  have e1 : rdR (wordOf r b t f) = r := by unfold rdR wordOf; rcases hF with ⟨h, _⟩ | ⟨h, _⟩ <;> rw [h] <;> omega
  have e2 : rdB (wordOf r b t f) = b := by unfold rdB wordOf; rcases hF with ⟨h, _⟩ | ⟨h, _⟩ <;> rw [h] <;> omega
  have e3 : rdT (wordOf r b t f) = t := by unfold rdT wordOf; rcases hF with ⟨h, _⟩ | ⟨h, _⟩ <;> rw [h] <;> omega
  have e4 : rdF (wordOf r b t f) = f := by
    unfold rdF wordOf
    rcases hF with ⟨h, h'⟩ | ⟨h, h'⟩
    · rw [h, h', decide_eq_false]; omega
    · rw [h, h', decide_eq_true]; omega
  have e5 : 0 ≤ wordOf r b t f ∧ wordOf r b t f < 562949953421312 := by unfold wordOf; rcases hF with ⟨h, _⟩ | ⟨h, _⟩ <;> rw [h] <;> omega
  refine ⟨⟨by omega, by rw [e1, e2, e3, e4]; exact h⟩, e1, e2, e3, e4, e5.1, by omega⟩
structure Chk where
  r : Int
  b : Int
  t : Int
  f : Bool
  pay : List Int
def Chk.ok (c : Chk) : Prop := headE c.r c.b c.t c.f = 0 ∧ (c.pay.length : Int) = c.r + c.b
def chkW (c : Chk) : List Int := wordOf c.r c.b c.t c.f :: c.pay
def chunksW (cs : List Chk) : List Int := cs.flatMap chkW
def Chk.spot (i : Nat) (c : Chk) : Spot := ⟨i, c.r, c.b, c.t, c.f⟩
def Chk.len (c : Chk) : Nat := 1 + c.pay.length
def spotsFrom : Nat → List Chk → List Spot
  | _, [] => []
  | i, c :: cs => c.spot i :: spotsFrom (i + c.len) cs
theorem chkW_length (c : Chk) : (chkW c).length = c.len := by simp [chkW, Chk.len]; omega
theorem chunksW_cons (c : Chk) (cs : List Chk) : chunksW (c :: cs) = chkW c ++ chunksW cs := rfl
theorem chunksW_append (cs ds : List Chk) : chunksW (cs ++ ds) = chunksW cs ++ chunksW ds := by simp [chunksW]
theorem Chk.long {c : Chk} (h : c.ok) (i : Nat) : (c.spot i).long = c.len := by
  have := h.2
  simp only [Spot.long, Chk.spot, Chk.len]
  omega
theorem parse_chunks {a : List Int} : ∀ {l : List Spot} {i : Nat}, Parse a i l → ∃ cs : List Chk, (∀ c ∈ cs, c.ok) ∧ a.drop i = chunksW cs ∧ l = spotsFrom i cs := by
  intro l
  induction l with
  | nil =>
    intro i h
    obtain rfl : i = a.length := h
    exact ⟨[], by simp, by simp [chunksW], rfl⟩
  | cons s l ih =>
    rintro i ⟨h1, h2, rfl, h4, h5⟩
    obtain ⟨cs, hok, hd, rfl⟩ := ih h5
    have hE := headE_ok.1 h2.2
    have hl : hlen (a.getD i 0) = 1 + (rdR (a.getD i 0) + rdB (a.getD i 0)).toNat := by unfold hlen; omega
    have hv : a[i] = a.getD i 0 := by rw [List.getD_eq_getElem?_getD, List.getElem?_eq_getElem h1]; rfl
    have hdrop := List.drop_eq_getElem_cons h1
    have hw := readOk_word h2
    rw [hv] at hdrop
    generalize a.getD i 0 = v at *
    have hpl : ((a.drop (i + 1)).take (hlen v - 1)).length = hlen v - 1 := by rw [List.length_take, List.length_drop]; omega
    have hcl : Chk.len ⟨rdR v, rdB v, rdT v, rdF v, (a.drop (i + 1)).take (hlen v - 1)⟩ = hlen v := by
      unfold Chk.len
      rw [hpl]
      omega
    refine ⟨⟨rdR v, rdB v, rdT v, rdF v, (a.drop (i + 1)).take (hlen v - 1)⟩ :: cs, ?_, ?_, ?_⟩
    · intro c hc
      rcases List.mem_cons.1 hc with rfl | hc
      · refine ⟨h2.2, ?_⟩
        dsimp only
        rw [hpl]
        omega
      · exact hok c hc
    · rw [chunksW_cons, chkW]
      dsimp only
      rw [hw, ← hd, hdrop, List.cons_append]
      congr 1
      have h9 := List.take_append_drop (hlen v - 1) (a.drop (i + 1))
      rw [List.drop_drop, show i + 1 + (hlen v - 1) = i + hlen v by omega] at h9
      exact h9.symm
    · simp only [spotsFrom]
      rw [hcl]
      rfl
theorem chunks_parse : ∀ (cs : List Chk) (pre : List Int), (∀ c ∈ cs, c.ok) → Parse (pre ++ chunksW cs) pre.length (spotsFrom pre.length cs) := by
  intro cs
  induction cs with
  | nil => intro pre _; show _ = _; simp [chunksW]
  | cons c cs ih =>
    intro pre hok
    have hc := hok c List.mem_cons_self
    obtain ⟨w1, w2, w3, w4, w5, -⟩ := rdw_word c.r c.b c.t c.f hc.1
    have hg : (pre ++ chunksW (c :: cs)).getD pre.length 0 = wordOf c.r c.b c.t c.f := by
      rw [List.getD_eq_getElem?_getD, chunksW_cons, chkW, List.getElem?_append_right (Nat.le_refl _)]
      simp
    have hE := headE_ok.1 hc.1
    have hh : hlen (wordOf c.r c.b c.t c.f) = c.len := by
      have := hc.2
      unfold hlen Chk.len
      rw [w2, w3]
      omega
    have hL : (pre ++ chunksW (c :: cs)).length = pre.length + c.len + (chunksW cs).length := by rw [chunksW_cons, List.length_append, List.length_append, chkW_length]; omega
    have hpos : 1 ≤ c.len := by unfold Chk.len; omega
    refine ⟨by rw [hL]; omega, by rw [hg]; exact w1, ?_, by rw [hg, hh, hL]; omega, ?_⟩
    · rw [hg]
      simp only [spotOf, Chk.spot]
      rw [w2, w3, w4, w5]
    · rw [hg, hh]
      have := ih (pre ++ chkW c) (fun d hd => hok d (List.mem_cons_of_mem _ hd))
      rw [List.length_append, chkW_length, List.append_assoc] at this
      exact this
theorem chunks_spots {cs : List Chk} (hok : ∀ c ∈ cs, c.ok) (hl : (chunksW cs).length ≤ 256) : spotsE (chunksW cs) = 0 ∧ spotsL (chunksW cs) = spotsFrom 0 cs := by
  have h := spotsAt_parse _ _ _ (chunks_parse cs [] hok)
  simp only [List.nil_append, List.length_nil] at h
  have hn : ¬ 256 < (chunksW cs).length := by omega
  unfold spotsE spotsL
  rw [h, if_neg hn, if_neg hn]
  exact ⟨rfl, rfl⟩
theorem arena_chunks {a : List Int} (h : spotsE a = 0) : ∃ cs : List Chk, (∀ c ∈ cs, c.ok) ∧ a = chunksW cs ∧ spotsL a = spotsFrom 0 cs ∧ a.length ≤ 256 := by
  obtain ⟨h1, h2⟩ := parse_ok h
  obtain ⟨cs, hok, hd, hs⟩ := parse_chunks h2
  exact ⟨cs, hok, by simpa using hd, hs, h1⟩
def starts : Nat → List Chk → List Int
  | _, [] => []
  | i, c :: cs => (if c.f then [] else [(i : Int) + 1]) ++ starts (i + c.len) cs
theorem placeC_some {l : List Spot} {v : Int} : (placeF l v).isSome = true ↔ v = 0 ∨ ∃ s ∈ l, isPlace v s = true := by
  unfold placeF
  by_cases h : v = 0
  · simp [h]
  · rw [if_neg h, Option.isSome_map]
    rw [List.findIdx?_isSome]
    simp [h]
theorem starts_mem {v : Int} : ∀ (cs : List Chk) (i : Nat), (∃ s ∈ spotsFrom i cs, isPlace v s = true) ↔ v ∈ starts i cs := by
  intro cs
  induction cs with
  | nil => intro i; simp [spotsFrom, starts]
  | cons c cs ih =>
    intro i
    simp only [spotsFrom, starts, List.mem_cons, List.mem_append]
    rw [← ih (i + c.len)]
    constructor
    · rintro ⟨s, rfl | hs, hp⟩
      · left
        simp only [isPlace, Chk.spot, Bool.and_eq_true, Bool.not_eq_true', beq_iff_eq] at hp
        rw [hp.1, if_neg (by decide)]
        rw [List.mem_singleton, hp.2]
      · right; exact ⟨s, hs, hp⟩
    · rintro (h | ⟨s, hs, hp⟩)
      · refine ⟨_, .inl rfl, ?_⟩
        cases hf : c.f
        · rw [hf, if_neg (by decide), List.mem_singleton] at h
          simp [isPlace, Chk.spot, hf, h]
        · rw [hf, if_pos rfl] at h
          cases h
      · exact ⟨s, .inr hs, hp⟩
theorem refs_all (P : Int → Bool) : ∀ (cs : List Chk) (pre : List Int), (∀ c ∈ cs, c.ok) → ((spotsFrom pre.length cs).all (fun s => (refsOf (pre ++ chunksW cs) s).all P) = true ↔ ∀ c ∈ cs, ∀ v ∈ c.pay.take c.r.toNat, P v = true) := by
  intro cs
  induction cs with
  | nil => intro pre _; simp [spotsFrom]
  | cons c cs ih =>
    intro pre hok
    have hc := hok c List.mem_cons_self
    have hE := headE_ok.1 hc.1
    have hp := hc.2
    have h1 : refsOf (pre ++ chunksW (c :: cs)) (c.spot pre.length) = c.pay.take c.r.toNat := by
      simp only [refsOf, Chk.spot, Int.toNat_natCast]
      rw [chunksW_cons, chkW, List.drop_append, List.drop_of_length_le (by omega), List.nil_append, show pre.length + 1 - pre.length = 1 by omega, List.cons_append, List.drop_succ_cons, List.drop_zero, List.take_append_of_le_length (by omega)]
    have h2 := ih (pre ++ chkW c) (fun d hd => hok d (List.mem_cons_of_mem _ hd))
    rw [List.length_append, chkW_length, List.append_assoc, ← chunksW_cons] at h2
    simp only [spotsFrom, List.all_cons, Bool.and_eq_true, List.forall_mem_cons]
    rw [h1, h2, List.all_eq_true]
def refsC (cs : List Chk) : Prop := ∀ c ∈ cs, ∀ v ∈ c.pay.take c.r.toNat, v = 0 ∨ v ∈ starts 0 cs
theorem chunks_refs {cs : List Chk} (hok : ∀ c ∈ cs, c.ok) : refsOk (spotsFrom 0 cs) (chunksW cs) = true ↔ refsC cs := by
  have := refs_all (fun v => (placeF (spotsFrom 0 cs) v).isSome) cs [] hok
  simp only [List.length_nil, List.nil_append] at this
  unfold refsOk refsC
  rw [this]
  constructor
  · intro h c hc v hv
    have := placeC_some.1 (h c hc v hv)
    rwa [starts_mem] at this
  · intro h c hc v hv
    have := h c hc v hv
    rw [← starts_mem] at this
    exact placeC_some.2 this
theorem checkE_chunks {cs : List Chk} (hok : ∀ c ∈ cs, c.ok) (hl : (chunksW cs).length ≤ 256) : checkE (chunksW cs) = 0 ↔ refsC cs := by
  obtain ⟨h1, h2⟩ := chunks_spots hok hl
  rw [checkE_ok, h2, chunks_refs hok]
  exact ⟨fun h => h.2, fun h => ⟨h1, h⟩⟩
theorem check_chunks {a : List Int} (h : checkE a = 0) : ∃ cs : List Chk, (∀ c ∈ cs, c.ok) ∧ a = chunksW cs ∧ spotsL a = spotsFrom 0 cs ∧ a.length ≤ 256 ∧ refsC cs := by
  obtain ⟨cs, h1, h2, h3, h4⟩ := arena_chunks (checkE_ok.1 h).1
  subst h2
  exact ⟨cs, h1, rfl, h3, h4, (checkE_chunks h1 h4).1 h⟩
end Go.Proofs.YtbmkbnalembbjaaGreatDoor

namespace Go.Proofs.YtbmkbnalembbjaaGreatDoor
open Go.RowKit
def freeC (p : Nat) : Chk := ⟨0, (p : Int) - 1, 0, true, List.replicate (p - 1) 0⟩
def flushC (p : Nat) : List Chk := if p = 0 then [] else [freeC p]
def joinP : Nat → List Chk → List Chk
  | p, [] => flushC p
  | p, c :: cs => if c.f then joinP (p + c.len) cs else flushC p ++ c :: joinP 0 cs
def flushG (i p : Nat) : List Rn := if p = 0 then [] else [⟨i, p⟩]
def gapsP : Nat → Nat → List Chk → List Rn
  | i, p, [] => flushG (i - p) p
  | i, p, c :: cs => if c.f then gapsP (i + c.len) (p + c.len) cs else flushG (i - p) p ++ gapsP (i + c.len) 0 cs
theorem freeC_len {p : Nat} (h : p ≠ 0) : (freeC p).len = p := by unfold Chk.len freeC; rw [List.length_replicate]; omega
theorem freeC_f (p : Nat) : (freeC p).f = true := rfl
theorem freeC_ok {p : Nat} (h : p ≠ 0) (h2 : p ≤ 256) : (freeC p).ok := by
  refine ⟨headE_ok.2 ?_, ?_⟩
  · unfold freeC; dsimp only; refine ⟨by omega, by omega, by omega, by omega, by omega, by omega, by omega, fun _ => ⟨rfl, rfl⟩⟩
  · unfold freeC; dsimp only; rw [List.length_replicate]; omega
theorem flushC_length (p : Nat) : (chunksW (flushC p)).length = p := by
  unfold flushC
  by_cases h : p = 0
  · rw [if_pos h, h]; rfl
  · rw [if_neg h, chunksW_cons, List.length_append, chkW_length, freeC_len h]; rfl
theorem joinP_length : ∀ (cs : List Chk) (p : Nat), (chunksW (joinP p cs)).length = p + (chunksW cs).length := by
  intro cs
  induction cs with
  | nil => intro p; simp only [joinP]; rw [flushC_length]; rfl
  | cons c cs ih =>
    intro p
    simp only [joinP]
    rw [chunksW_cons, List.length_append, chkW_length]
    split
    · rw [ih]; omega
    · rw [chunksW_append, List.length_append, flushC_length, chunksW_cons, List.length_append, chkW_length, ih]; omega
theorem joinP_mem : ∀ (cs : List Chk) (p : Nat) (d : Chk), d ∈ joinP p cs → (∃ q, q ≠ 0 ∧ q ≤ p + (chunksW cs).length ∧ d = freeC q) ∨ (d ∈ cs ∧ d.f = false) := by
  intro cs
  have hfl : ∀ (p n : Nat) (d : Chk), d ∈ flushC p → ∃ q, q ≠ 0 ∧ q ≤ p + n ∧ d = freeC q := by
    intro p n d h
    unfold flushC at h
    split at h
    · cases h
    · rename_i h0; exact ⟨p, h0, by omega, List.mem_singleton.1 h⟩
  induction cs with
  | nil => intro p d h; exact .inl (hfl p _ d h)
  | cons c cs ih =>
    intro p d h
    simp only [joinP] at h
    rw [chunksW_cons, List.length_append, chkW_length]
    split at h
    · rcases ih _ d h with ⟨q, h1, h2, h3⟩ | ⟨h1, h2⟩
      · exact .inl ⟨q, h1, by omega, h3⟩
      · exact .inr ⟨List.mem_cons_of_mem _ h1, h2⟩
    · rename_i hf
      rcases List.mem_append.1 h with h | h
      · exact .inl (hfl p _ d h)
      · rcases List.mem_cons.1 h with rfl | h
        · exact .inr ⟨List.mem_cons_self, by simpa using hf⟩
        · rcases ih _ d h with ⟨q, h1, h2, h3⟩ | ⟨h1, h2⟩
          · exact .inl ⟨q, h1, by omega, h3⟩
          · exact .inr ⟨List.mem_cons_of_mem _ h1, h2⟩
theorem gapsA_chunks : ∀ (cs : List Chk) (i p : Nat) (acc : List Rn), p ≤ i → (∀ c ∈ cs, c.ok) → gapsA (acc ++ flushG (i - p) p) (decide (0 < p)) (spotsFrom i cs) = acc ++ gapsP i p cs := by
  intro cs
  induction cs with
  | nil => intro i p acc _ _; simp only [spotsFrom, gapsA, gapsP]
  | cons c cs ih =>
    intro i p acc hp hok
    have hc := hok c List.mem_cons_self
    have hok' : ∀ d ∈ cs, d.ok := fun d hd => hok d (List.mem_cons_of_mem _ hd)
    have hpos : 1 ≤ c.len := by unfold Chk.len; omega
    simp only [spotsFrom, gapsA, gapsP]
    rw [Chk.long hc]
    have hsf : (c.spot i).f = c.f := rfl
    have hsl : (c.spot i).loc = i := rfl
    rw [hsf, hsl]
    cases hf : c.f
    · rw [if_pos rfl, if_neg (by decide)]
      have := ih (i + c.len) 0 (acc ++ flushG (i - p) p) (by omega) hok'
      rw [List.append_assoc] at this
      simpa [flushG] using this
    · rw [if_neg (by decide), if_pos rfl]
      have := ih (i + c.len) (p + c.len) acc (by omega) hok'
      rw [show i + c.len - (p + c.len) = i - p by omega] at this
      rw [decide_eq_true (by omega)] at this
      rw [← this]
      by_cases h0 : p = 0
      · rw [if_neg (by simp [h0])]
        subst h0
        have e1 : flushG (i - 0) 0 = [] := rfl
        have e2 : flushG (i - 0) (0 + c.len) = [⟨i, c.len⟩] := by unfold flushG; rw [if_neg (by omega)]; simp
        rw [e1, e2, List.append_nil]
      · rw [if_pos (by simp; omega)]
        simp only [flushG]
        rw [if_neg h0, if_neg (by omega), bump_snoc]
        congr 3
theorem gapsL_chunks {cs : List Chk} (hok : ∀ c ∈ cs, c.ok) : gapsL (spotsFrom 0 cs) = gapsP 0 0 cs := by
  have := gapsA_chunks cs 0 0 [] (by omega) hok
  simpa [flushG, gapsL] using this
theorem gapsP_mem : ∀ (cs : List Chk) (i p : Nat), p ≤ i → ∀ r ∈ gapsP i p cs, ∃ a n : Nat, r = ⟨a, n⟩ ∧ 1 ≤ n ∧ i - p ≤ a ∧ a + n ≤ i + (chunksW cs).length := by
  intro cs
  have hfl : ∀ (i p m : Nat), p ≤ i → ∀ r ∈ flushG (i - p) p, ∃ a n : Nat, r = ⟨a, n⟩ ∧ 1 ≤ n ∧ i - p ≤ a ∧ a + n ≤ i + m := by
    intro i p m hp r h
    unfold flushG at h
    split at h
    · cases h
    · exact ⟨i - p, p, List.mem_singleton.1 h, by omega, by omega, by omega⟩
  induction cs with
  | nil => intro i p hp r h; exact hfl i p _ hp r h
  | cons c cs ih =>
    intro i p hp r h
    simp only [gapsP] at h
    rw [chunksW_cons, List.length_append, chkW_length]
    split at h
    · obtain ⟨a, n, h1, h2, h3, h4⟩ := ih _ _ (by omega) r h
      exact ⟨a, n, h1, h2, by omega, by omega⟩
    · rcases List.mem_append.1 h with h | h
      · exact hfl i p _ hp r h
      · obtain ⟨a, n, h1, h2, h3, h4⟩ := ih _ _ (by omega) r h
        exact ⟨a, n, h1, h2, by omega, by omega⟩
def layL (a : List Int) (i n : Nat) : List Int := if n = 0 then a else (fillL a i n 0).set i (wordOf 0 ((n : Int) - 1) 0 true)
theorem layL_length (a : List Int) (i n : Nat) (h : i + n ≤ a.length) : (layL a i n).length = a.length := by
  unfold layL
  split
  · rfl
  · rw [List.length_set, fillL_length _ _ _ _ h]
theorem layL_mid (pre X post : List Int) : layL (pre ++ X ++ post) pre.length X.length = pre ++ chunksW (flushC X.length) ++ post := by
  unfold layL flushC
  by_cases h : X.length = 0
  · rw [if_pos h, if_pos h, List.eq_nil_of_length_eq_zero h]; simp [chunksW]
  · rw [if_neg h, if_neg h]
    unfold fillL
    rw [show (pre ++ X ++ post).take pre.length = pre by rw [List.append_assoc]; simp, show (pre ++ X ++ post).drop (pre.length + X.length) = post by rw [show pre.length + X.length = (pre ++ X).length by simp, List.drop_left]]
    rw [List.append_assoc, List.set_append_right _ _ (Nat.le_refl _), Nat.sub_self]
    obtain ⟨m, hm⟩ : ∃ m, X.length = m + 1 := ⟨X.length - 1, by omega⟩
    rw [hm, List.replicate_succ, List.cons_append, List.set_cons_zero, List.append_assoc]
    simp [chunksW, chkW, freeC]
theorem layL_out {a : List Int} {i n k : Nat} (h : i + n ≤ a.length) (hk : k < i ∨ i + n ≤ k) : (layL a i n)[k]? = a[k]? := by
  unfold layL
  split
  · rfl
  · rw [List.getElem?_set_ne (by omega)]
    unfold fillL
    rcases hk with hk | hk
    · rw [List.append_assoc, List.getElem?_append_left (by rw [List.length_take]; omega), List.getElem?_take, if_pos hk]
    · rw [List.getElem?_append_right (by rw [List.length_append, List.length_take, List.length_replicate]; omega), List.length_append, List.length_take, List.length_replicate, Nat.min_eq_left (by omega), List.getElem?_drop]
      congr 1
      omega
def joinL (a : List Int) (l : List Rn) : List Int := l.foldl (fun a r => layL a r.loc.toNat r.len.toNat) a
theorem joinL_append (a : List Int) (l m : List Rn) : joinL a (l ++ m) = joinL (joinL a l) m := List.foldl_append
theorem joinL_flush (pre X post : List Int) : joinL (pre ++ X ++ post) (flushG pre.length X.length) = pre ++ chunksW (flushC X.length) ++ post := by
  rw [← layL_mid]
  unfold flushG joinL
  by_cases h : X.length = 0
  · rw [if_pos h]; unfold layL; rw [if_pos h]; rfl
  · rw [if_neg h]; simp
theorem joinL_chunks : ∀ (cs : List Chk) (pre X : List Int), joinL (pre ++ X ++ chunksW cs) (gapsP (pre.length + X.length) X.length cs) = pre ++ chunksW (joinP X.length cs) := by
  intro cs
  induction cs with
  | nil =>
    intro pre X
    simp only [gapsP, joinP]
    rw [Nat.add_sub_cancel, joinL_flush]
    simp [chunksW]
  | cons c cs ih =>
    intro pre X
    simp only [gapsP, joinP]
    cases hf : c.f
    · rw [if_neg (by decide), if_neg (by decide), joinL_append, Nat.add_sub_cancel, joinL_flush]
      have := ih (pre ++ chunksW (flushC X.length) ++ chkW c) []
      rw [List.length_append, List.length_append, flushC_length, chkW_length] at this
      simp only [List.append_nil, List.length_nil, Nat.add_zero, List.append_assoc] at this
      rw [chunksW_append, chunksW_cons, chunksW_cons, List.append_assoc]
      exact this
    · rw [if_pos rfl, if_pos rfl]
      have := ih pre (X ++ chkW c)
      rw [List.length_append, chkW_length, ← Nat.add_assoc] at this
      rw [← this, chunksW_cons]
      simp
theorem joinL_out {k : Nat} : ∀ (l : List Rn) (a : List Int), (∀ r ∈ l, ∃ i n : Nat, r = ⟨i, n⟩ ∧ i + n ≤ a.length) → (joinL a l)[k]? = a[k]? ∨ ∃ r ∈ l, r.loc ≤ (k : Int) ∧ (k : Int) - r.loc < r.len := by
  intro l
  induction l with
  | nil => intro a _; exact .inl rfl
  | cons r l ih =>
    intro a h
    obtain ⟨i, n, rfl, hin⟩ := h r List.mem_cons_self
    have hl := layL_length a i n hin
    by_cases hk : k < i ∨ i + n ≤ k
    · rcases ih (layL a i n) (fun s hs => by rw [hl]; exact h s (List.mem_cons_of_mem _ hs)) with h1 | ⟨s, hs, h2⟩
      · left
        rw [← layL_out hin hk]
        exact h1
      · exact .inr ⟨s, List.mem_cons_of_mem _ hs, h2⟩
    · exact .inr ⟨⟨i, n⟩, List.mem_cons_self, by dsimp only; omega, by dsimp only; omega⟩
theorem gapsP_join : ∀ (cs : List Chk) (i p : Nat), p ≤ i → gapsP (i - p) 0 (joinP p cs) = gapsP i p cs := by
  intro cs
  have key : ∀ (i p : Nat) (R : List Chk), p ≤ i → (R = [] ∨ ∃ c T, R = c :: T ∧ c.f = false) → gapsP (i - p) 0 (flushC p ++ R) = gapsP i p R := by
    intro i p R hp hR
    unfold flushC
    by_cases h0 : p = 0
    · rw [if_pos h0, h0]; rfl
    · rw [if_neg h0]
      simp only [List.cons_append, List.nil_append, gapsP]
      rw [if_pos (freeC_f p), freeC_len h0, show i - p + p = i by omega, Nat.zero_add]
  induction cs with
  | nil => intro i p hp; simp only [joinP]; have := key i p [] hp (.inl rfl); rwa [List.append_nil] at this
  | cons c cs ih =>
    intro i p hp
    simp only [joinP]
    cases hf : c.f
    · rw [if_neg (by decide), key i p _ hp (.inr ⟨c, _, rfl, hf⟩)]
      simp only [gapsP]
      rw [hf, if_neg (by decide), if_neg (by decide)]
      have := ih (i + c.len) 0 (by omega)
      rw [Nat.sub_zero] at this
      rw [this]
    · rw [if_pos rfl]
      simp only [gapsP]
      rw [hf, if_pos rfl, ← ih (i + c.len) (p + c.len) (by omega)]
      congr 1
      omega
theorem joinP_join : ∀ (cs : List Chk) (p : Nat), joinP 0 (joinP p cs) = joinP p cs := by
  intro cs
  induction cs with
  | nil =>
    intro p
    simp only [joinP]
    unfold flushC
    by_cases h0 : p = 0
    · rw [if_pos h0]; rfl
    · rw [if_neg h0]
      simp only [joinP]
      rw [if_pos (freeC_f p), freeC_len h0, Nat.zero_add]
      unfold flushC
      rw [if_neg h0]
  | cons c cs ih =>
    intro p
    simp only [joinP]
    cases hf : c.f
    · rw [if_neg (by decide)]
      unfold flushC
      by_cases h0 : p = 0
      · rw [if_pos h0]
        simp only [List.nil_append, joinP]
        rw [hf, if_neg (by decide), ih]
        rfl
      · rw [if_neg h0]
        simp only [List.cons_append, List.nil_append, joinP]
        rw [if_pos (freeC_f p), freeC_len h0, Nat.zero_add, hf, if_neg (by decide), ih]
        unfold flushC
        rw [if_neg h0]
        rfl
    · rw [if_pos rfl]
      exact ih _
theorem starts_join : ∀ (cs : List Chk) (i p : Nat), p ≤ i → starts (i - p) (joinP p cs) = starts i cs := by
  intro cs
  have key : ∀ (i p : Nat) (R : List Chk), p ≤ i → starts (i - p) (flushC p ++ R) = starts i R := by
    intro i p R hp
    unfold flushC
    by_cases h0 : p = 0
    · rw [if_pos h0, h0]; rfl
    · rw [if_neg h0]
      simp only [List.cons_append, List.nil_append, starts]
      rw [freeC_len h0, show i - p + p = i by omega]
      rfl
  induction cs with
  | nil => intro i p hp; simp only [joinP]; have := key i p [] hp; rwa [List.append_nil] at this
  | cons c cs ih =>
    intro i p hp
    simp only [joinP]
    cases hf : c.f
    · rw [if_neg (by decide), key i p _ hp]
      simp only [starts]
      have := ih (i + c.len) 0 (by omega)
      rw [Nat.sub_zero] at this
      rw [this]
    · rw [if_pos rfl]
      simp only [starts]
      rw [hf, if_pos rfl, List.nil_append, ← ih (i + c.len) (p + c.len) (by omega)]
      congr 1
      omega
theorem free_join : ∀ (cs : List Chk) (i p j : Nat), ((spotsFrom j (joinP p cs)).filter (·.f)).length = (gapsP i p cs).length := by
  intro cs
  have key : ∀ (i p j : Nat) (R : List Chk), ((spotsFrom j (flushC p ++ R)).filter (·.f)).length = (flushG i p).length + ((spotsFrom (j + p) R).filter (·.f)).length := by
    intro i p j R
    unfold flushC flushG
    by_cases h0 : p = 0
    · rw [if_pos h0, if_pos h0, h0]; simp
    · rw [if_neg h0, if_neg h0]
      simp only [List.cons_append, List.nil_append, spotsFrom]
      rw [freeC_len h0, List.filter_cons, if_pos (by rfl)]
      simp only [List.length_cons, List.length_nil]
      omega
  induction cs with
  | nil => intro i p j; simp only [joinP, gapsP]; have := key (i - p) p j []; rw [List.append_nil] at this; rw [this]; rfl
  | cons c cs ih =>
    intro i p j
    simp only [joinP, gapsP]
    cases hf : c.f
    · rw [if_neg (by decide), if_neg (by decide), key (i - p) p j, List.length_append]
      simp only [spotsFrom]
      rw [List.filter_cons, if_neg (by simp [Chk.spot, hf]), ih (i + c.len) 0]
    · rw [if_pos rfl, if_pos rfl]
      exact ih _ _ _
theorem joinP_ok {cs : List Chk} (hok : ∀ c ∈ cs, c.ok) (hl : (chunksW cs).length ≤ 256) : ∀ d ∈ joinP 0 cs, d.ok := by
  intro d hd
  rcases joinP_mem cs 0 d hd with ⟨q, h1, h2, rfl⟩ | ⟨h1, -⟩
  · exact freeC_ok h1 (by omega)
  · exact hok d h1
theorem refsC_join {cs : List Chk} (h : refsC cs) : refsC (joinP 0 cs) := by
  intro d hd v hv
  have hs := starts_join cs 0 0 (by omega)
  rw [Nat.sub_zero] at hs
  rw [hs]
  rcases joinP_mem cs 0 d hd with ⟨q, h1, h2, rfl⟩ | ⟨h1, -⟩
  · simp [freeC] at hv
  · exact h d h1 v hv
structure JoinOk (a b : List Int) (l : List Rn) : Prop where
  len : b.length = a.length
  check : checkE b = 0
  gaps : gapsL (spotsL b) = l
  again : joinL b l = b
  free : ((spotsL b).filter (·.f)).length = l.length
  out : ∀ k : Nat, b[k]? = a[k]? ∨ ∃ r ∈ l, r.loc ≤ (k : Int) ∧ (k : Int) - r.loc < r.len
  runs : ∀ r ∈ l, ∃ i n : Nat, r = ⟨i, n⟩ ∧ 1 ≤ n ∧ i + n ≤ a.length
theorem join_ok {a : List Int} (h : checkE a = 0) : JoinOk a (joinL a (gapsL (spotsL a))) (gapsL (spotsL a)) := by
  obtain ⟨cs, hok, rfl, hs, hl, hr⟩ := check_chunks h
  have hg : gapsL (spotsL (chunksW cs)) = gapsP 0 0 cs := by rw [hs, gapsL_chunks hok]
  rw [hg]
  have hj := joinL_chunks cs [] []
  simp only [List.nil_append, List.length_nil, Nat.add_zero] at hj
  have hok2 := joinP_ok hok hl
  have hlen := joinP_length cs 0
  rw [Nat.zero_add] at hlen
  have hm := gapsP_mem cs 0 0 (by omega)
  have hm' : ∀ r ∈ gapsP 0 0 cs, ∃ i n : Nat, r = ⟨i, n⟩ ∧ 1 ≤ n ∧ i + n ≤ (chunksW cs).length := fun r hr => by
    obtain ⟨i, n, h1, h2, h3, h4⟩ := hm r hr
    exact ⟨i, n, h1, h2, by omega⟩
  obtain ⟨hs1, hs2⟩ := chunks_spots hok2 (by omega)
  have hg2 := gapsP_join cs 0 0 (by omega)
  rw [Nat.sub_zero] at hg2
  refine ⟨by rw [hj, hlen], by rw [hj, checkE_chunks hok2 (by omega)]; exact refsC_join hr, by rw [hj, hs2, gapsL_chunks hok2, hg2], ?_, ?_, fun k => ?_, hm'⟩
  · have hj2 := joinL_chunks (joinP 0 cs) [] []
    simp only [List.nil_append, List.length_nil, Nat.add_zero] at hj2
    rw [hg2, joinP_join] at hj2
    rw [hj, hj2]
  · rw [hj, hs2, free_join cs 0 0 0]
  · exact joinL_out _ _ (fun r hr => by
      obtain ⟨i, n, h1, h2, h3⟩ := hm' r hr
      exact ⟨i, n, h1, h3⟩)
end Go.Proofs.YtbmkbnalembbjaaGreatDoor

namespace Go.Proofs.YtbmkbnalembbjaaGreatDoor
open Go.RowKit
def risesP : List Int → Bool
  | a :: b :: t => decide (a < b) && risesP (b :: t)
  | _ => true
theorem risesP_pairwise : ∀ {l : List Int}, risesP l = true → l.Pairwise (· < ·)
  | [], _ => List.Pairwise.nil
  | [_], _ => by simp
  | a :: b :: t, h => by
    simp only [risesP, Bool.and_eq_true, decide_eq_true_eq] at h
    have ih := risesP_pairwise h.2
    refine List.pairwise_cons.2 ⟨fun x hx => ?_, ih⟩
    rcases List.mem_cons.1 hx with rfl | hx
    · exact h.1
    · have := (List.pairwise_cons.1 ih).1 x hx
      omega
def pL (x : Int) (s : Spot) : Bool := (s.loc == x) && !s.f
def longAt (S : List Spot) (x : Int) : Int := match S[(ixOf (pL x) S).toNat]? with | some s => s.long | none => 0
def longsE (a keep pinned : List Int) : Int :=
  if checkE a ≠ 0 then checkE a else if (!risesP keep || !risesP pinned) = true then 3 else if keep.any (fun x => decide (ixOf (pL x) (spotsL a) < 0)) = true then 5 else if pinned.any (fun x => !decide (x ∈ keep)) = true then 5 else 0
def longsV (a keep pinned : List Int) : List Int := if longsE a keep pinned = 0 then keep.map (longAt (spotsL a)) else []
theorem longsE_ok {a keep pinned : List Int} : longsE a keep pinned = 0 ↔ checkE a = 0 ∧ risesP keep = true ∧ risesP pinned = true ∧ (∀ x ∈ keep, 0 ≤ ixOf (pL x) (spotsL a)) ∧ ∀ x ∈ pinned, x ∈ keep := by
  unfold longsE
  by_cases h1 : checkE a = 0
  · rw [if_neg (by simpa using h1)]
    by_cases h2 : (!risesP keep || !risesP pinned) = true
    · rw [if_pos h2]
      constructor
      · intro h; cases h
      · rintro ⟨_, h3, h4, _⟩; rw [h3, h4] at h2; cases h2
    · rw [if_neg h2]
      have h3 : risesP keep = true ∧ risesP pinned = true := by simpa using h2
      by_cases h4 : keep.any (fun x => decide (ixOf (pL x) (spotsL a) < 0)) = true
      · rw [if_pos h4]
        constructor
        · intro h; cases h
        · rintro ⟨_, _, _, h5, _⟩
          obtain ⟨x, hx, hd⟩ := List.any_eq_true.1 h4
          have := h5 x hx
          simp only [decide_eq_true_eq] at hd
          omega
      · rw [if_neg h4]
        have h5 : ∀ x ∈ keep, 0 ≤ ixOf (pL x) (spotsL a) := by
          intro x hx
          rcases Int.lt_or_le (ixOf (pL x) (spotsL a)) 0 with h | h
          · exact absurd (List.any_eq_true.2 ⟨x, hx, decide_eq_true h⟩) h4
          · exact h
        by_cases h6 : pinned.any (fun x => !decide (x ∈ keep)) = true
        · rw [if_pos h6]
          constructor
          · intro h; cases h
          · rintro ⟨_, _, _, _, h7⟩
            obtain ⟨x, hx, hd⟩ := List.any_eq_true.1 h6
            rw [decide_eq_true (h7 x hx)] at hd
            cases hd
        · rw [if_neg h6]
          refine ⟨fun _ => ⟨h1, h3.1, h3.2, h5, fun x hx => ?_⟩, fun _ => rfl⟩
          by_cases hk : x ∈ keep
          · exact hk
          · exact absurd (List.any_eq_true.2 ⟨x, hx, by rw [decide_eq_false hk]; rfl⟩) h6
  · rw [if_pos h1]
    exact ⟨fun h => absurd h h1, fun h => absurd h.1 h1⟩
def slidGo (pinned : List Int) : Int → List Int → List Int → List Int
  | e, x :: ks, n :: ls => (if x ∈ pinned then x else e) :: slidGo pinned ((if x ∈ pinned then x else e) + n) ks ls
  | _, _, _ => []
def pgaps (N : Int) : Int → List Int → List Int → List Rn
  | e, y :: ys, n :: ns => (if e < y then [⟨e, y - e⟩] else []) ++ pgaps N (y + n) ys ns
  | e, _, _ => if e < N then [⟨e, N - e⟩] else []
structure Kept (N : Int) (keep long : List Int) : Prop where
  same : long.length = keep.length
  at_ : ∀ (j : Nat) (x n : Int), keep[j]? = some x → long[j]? = some n → 0 ≤ x ∧ 1 ≤ n ∧ n ≤ 256 ∧ x + n ≤ N
  next : ∀ (j : Nat) (x n y : Int), keep[j]? = some x → long[j]? = some n → keep[j + 1]? = some y → x + n ≤ y
theorem spots_of_ix {a : List Int} (h : spotsE a = 0) {x : Int} (hx : 0 ≤ ixOf (pL x) (spotsL a)) :
    ∃ (i : Nat) (s : Spot), ixOf (pL x) (spotsL a) = i ∧ (spotsL a)[i]? = some s ∧ s.loc = x ∧ s.f = false ∧ SpotOk a s ∧ longAt (spotsL a) x = s.long ∧ ixOf (fun s => s.loc == x) (spotsL a) = i := by
  rcases ixOf_cases (pL x) (spotsL a) with ⟨h1, -⟩ | ⟨i, s, h1, h2, h3, h4⟩
  · omega
  · have h3' : s.loc = x ∧ s.f = false := by simpa [pL] using h3
    refine ⟨i, s, h1, h2, h3'.1, h3'.2, ((parse_mem (parse_ok h).2) s (List.mem_of_getElem? h2)).1, ?_, ?_⟩
    · unfold longAt
      rw [h1, Int.toNat_natCast, h2]
    · refine ixOf_some h2 (by simp [h3'.1]) (fun y hy => ?_)
      have hr := spots_rise h
      rw [List.mem_take_iff_getElem] at hy
      obtain ⟨j, hj, rfl⟩ := hy
      obtain ⟨hi, rfl⟩ := List.getElem?_eq_some_iff.1 h2
      have := List.pairwise_iff_getElem.1 hr j i (by omega) hi (by omega)
      simp only [beq_eq_false_iff_ne]
      omega
theorem kept_of {a keep pinned : List Int} (h : longsE a keep pinned = 0) : Kept a.length keep (longsV a keep pinned) ∧ (a.length : Int) ≤ 256 := by
  obtain ⟨h1, h2, h3, h4, h5⟩ := longsE_ok.1 h
  have hE := (checkE_ok.1 h1).1
  have hlen := (parse_ok hE).1
  have hV : longsV a keep pinned = keep.map (longAt (spotsL a)) := by unfold longsV; rw [if_pos h]
  have hat : ∀ (j : Nat) (x n : Int), keep[j]? = some x → (longsV a keep pinned)[j]? = some n → ∃ s ∈ spotsL a, s.loc = x ∧ s.long = n ∧ SpotOk a s := by
    intro j x n hx hn
    rw [hV, List.getElem?_map, hx] at hn
    obtain ⟨i, s, -, hs, hl, -, hok, hlg, -⟩ := spots_of_ix hE (h4 x (List.mem_of_getElem? hx))
    refine ⟨s, List.mem_of_getElem? hs, hl, ?_, hok⟩
    rw [← hlg]
    exact Option.some.inj hn
  refine ⟨⟨by rw [hV, List.length_map], fun j x n hx hn => ?_, fun j x n y hx hn hy => ?_⟩, by omega⟩
  · obtain ⟨s, hs, rfl, rfl, hok⟩ := hat j x n hx hn
    have := hok.loc0
    have := hok.r0
    have := hok.b0
    have := hok.fits
    have := hok.fit256
    unfold Spot.long at *
    omega
  · obtain ⟨s, hs, rfl, rfl, hok⟩ := hat j x n hx hn
    obtain ⟨i2, t, -, ht, hl2, -, hok2, -, -⟩ := spots_of_ix hE (h4 y (List.mem_of_getElem? hy))
    have hlt : s.loc < y := by
      obtain ⟨ha, rfl⟩ := List.getElem?_eq_some_iff.1 hy
      obtain ⟨hb, hb2⟩ := List.getElem?_eq_some_iff.1 hx
      have := List.pairwise_iff_getElem.1 (risesP_pairwise h2) j (j + 1) hb ha (by omega)
      rw [hb2] at this
      exact this
    have ho := parse_order (parse_ok hE).2
    have hr := spots_rise hE
    obtain ⟨i1, hi1, e1⟩ := List.mem_iff_getElem.1 hs
    obtain ⟨hi2, e2⟩ := List.getElem?_eq_some_iff.1 ht
    rcases Nat.lt_trichotomy i1 i2 with h | h | h
    · have := List.pairwise_iff_getElem.1 ho i1 i2 hi1 hi2 h
      rw [e1, e2] at this
      omega
    · subst h
      rw [e1] at e2
      subst e2
      omega
    · have := List.pairwise_iff_getElem.1 hr i2 i1 hi2 hi1 h
      rw [e1, e2] at this
      omega
end Go.Proofs.YtbmkbnalembbjaaGreatDoor

namespace Go.Proofs.YtbmkbnalembbjaaGreatDoor
open Go.RowKit
theorem Kept.tail {N x n : Int} {ks ls : List Int} (h : Kept N (x :: ks) (n :: ls)) : Kept N ks ls :=
  ⟨by have := h.same; simpa using this, fun j x n h1 h2 => h.at_ (j + 1) x n (by simpa using h1) (by simpa using h2), fun j x n y h1 h2 h3 => h.next (j + 1) x n y (by simpa using h1) (by simpa using h2) (by simpa using h3)⟩
structure Slid (N e : Int) (pinned keep L Y : List Int) : Prop where
  len : Y.length = keep.length
  low : ∀ (j : Nat) (y : Int), Y[j]? = some y → e ≤ y
  at_ : ∀ (j : Nat) (x y k : Int), keep[j]? = some x → L[j]? = some k → Y[j]? = some y → y ≤ x ∧ (x ∈ pinned → y = x) ∧ y + k ≤ N ∧ ∀ y', Y[j + 1]? = some y' → y + k ≤ y'
theorem slid_of (N : Int) (pinned : List Int) : ∀ (keep L : List Int) (e : Int), Kept N keep L → (∀ x, keep[0]? = some x → e ≤ x) → Slid N e pinned keep L (slidGo pinned e keep L) := by
  intro keep
  induction keep with
  | nil => intro L e _ _; exact ⟨by simp [slidGo], fun j y h => by simp [slidGo] at h, fun j x y k h => by simp at h⟩
  | cons x ks ih =>
    intro L e hK he
    cases L with
    | nil => have := hK.same; simp at this
    | cons n ls =>
      obtain ⟨x0, n1, n2, hxn⟩ := hK.at_ 0 x n rfl rfl
      have hex := he x rfl
      obtain ⟨z, hz⟩ : ∃ z, z = (if x ∈ pinned then x else e) := ⟨_, rfl⟩
      have hz1 : e ≤ z ∧ z ≤ x := by rw [hz]; split <;> omega
      have hz2 : x ∈ pinned → z = x := fun h => by rw [hz, if_pos h]
      have ih' := ih ls (z + n) hK.tail (fun y hy => by have := hK.next 0 x n y rfl rfl (by simpa using hy); omega)
      have hY : slidGo pinned e (x :: ks) (n :: ls) = z :: slidGo pinned (z + n) ks ls := by simp only [slidGo]; rw [← hz]
      rw [hY]
      refine ⟨by simp [ih'.len], fun j y h => ?_, fun j x' y k h1 h2 h3 => ?_⟩
      · cases j with
        | zero => obtain rfl : z = y := by simpa using h
                  exact hz1.1
        | succ j => have := ih'.low j y (by simpa using h); omega
      · cases j with
        | zero =>
          obtain rfl : x = x' := by simpa using h1
          obtain rfl : n = k := by simpa using h2
          obtain rfl : z = y := by simpa using h3
          exact ⟨hz1.2, hz2, by omega, fun y' h => ih'.low 0 y' (by simpa using h)⟩
        | succ j =>
          obtain ⟨a1, a2, a3, a4⟩ := ih'.at_ j x' y k (by simpa using h1) (by simpa using h2) (by simpa using h3)
          exact ⟨a1, a2, a3, fun y' h => a4 y' (by simpa using h)⟩
theorem kept_len {N : Int} {keep L : List Int} (h : Kept N keep L) : ∀ (j : Nat) (x : Int), keep[j]? = some x → (j : Int) ≤ x ∧ (j : Int) + 1 ≤ N := by
  intro j
  have hL : ∀ (j : Nat) (x : Int), keep[j]? = some x → ∃ n, L[j]? = some n := fun j x hx => ⟨_, List.getElem?_eq_getElem (by rw [h.same]; exact (List.getElem?_eq_some_iff.1 hx).1)⟩
  induction j with
  | zero =>
    intro x hx
    obtain ⟨n, hn⟩ := hL 0 x hx
    obtain ⟨a, b, c, d⟩ := h.at_ 0 x n hx hn
    exact ⟨by omega, by omega⟩
  | succ j ih =>
    intro x hx
    have hlt := (List.getElem?_eq_some_iff.1 hx).1
    obtain ⟨x0, hx0⟩ : ∃ x0, keep[j]? = some x0 := ⟨_, List.getElem?_eq_getElem (by omega)⟩
    obtain ⟨n0, hn0⟩ := hL j x0 hx0
    obtain ⟨n, hn⟩ := hL (j + 1) x hx
    obtain ⟨a, b, c, d⟩ := h.at_ (j + 1) x n hx hn
    obtain ⟨a0, b0, c0, d0⟩ := h.at_ j x0 n0 hx0 hn0
    have := h.next j x0 n0 x hx0 hn0 hx
    have := (ih x0 hx0).1
    exact ⟨by omega, by omega⟩
theorem kept_len2 {N : Int} {keep L : List Int} (h : Kept N keep L) (hN : 0 ≤ N) : (keep.length : Int) ≤ N := by
  rcases Nat.eq_zero_or_pos keep.length with h0 | h0
  · omega
  · have := kept_len h (keep.length - 1) keep[keep.length - 1] (List.getElem?_eq_getElem (by omega))
    omega
def rsum : List Rn → Int
  | [] => 0
  | r :: l => r.len + rsum l
def isum : List Int → Int
  | [] => 0
  | x :: l => x + isum l
theorem rsum_append (a b : List Rn) : rsum (a ++ b) = rsum a + rsum b := by
  induction a with
  | nil => simp [rsum]
  | cons x a ih => simp only [List.cons_append, rsum, ih]; omega
theorem pgaps_sum (N : Int) (pinned : List Int) : ∀ (keep L : List Int) (e : Int), Kept N keep L → (∀ x, keep[0]? = some x → e ≤ x) → e ≤ N → rsum (pgaps N e (slidGo pinned e keep L) L) + isum L = N - e ∧
    ∀ r ∈ pgaps N e (slidGo pinned e keep L) L, 0 ≤ r.len ∧ r.len ≤ N - e := by
  intro keep
  induction keep with
  | nil =>
    intro L e hK _ heN
    cases L with
    | cons n ls => have := hK.same; simp at this
    | nil =>
      simp only [slidGo, pgaps]
      by_cases h : e < N
      · rw [if_pos h]
        refine ⟨by simp [rsum, isum], fun r hr => ?_⟩
        obtain rfl := List.mem_singleton.1 hr
        dsimp only
        omega
      · rw [if_neg h]
        refine ⟨by simp only [rsum, isum]; omega, fun r hr => by cases hr⟩
  | cons x ks ih =>
    intro L e hK he heN
    cases L with
    | nil => have := hK.same; simp at this
    | cons n ls =>
      obtain ⟨x0, n1, n2, hxn⟩ := hK.at_ 0 x n rfl rfl
      have hex := he x rfl
      obtain ⟨z, hz⟩ : ∃ z, z = (if x ∈ pinned then x else e) := ⟨_, rfl⟩
      have hz1 : e ≤ z ∧ z ≤ x := by rw [hz]; split <;> omega
      obtain ⟨i1, i2⟩ := ih ls (z + n) hK.tail (fun y hy => by have := hK.next 0 x n y rfl rfl (by simpa using hy); omega) (by omega)
      have hY : slidGo pinned e (x :: ks) (n :: ls) = z :: slidGo pinned (z + n) ks ls := by simp only [slidGo]; rw [← hz]
      rw [hY]
      simp only [pgaps, isum]
      rw [rsum_append]
      refine ⟨?_, fun r hr => ?_⟩
      · by_cases h : e < z
        · rw [if_pos h]; simp only [rsum]; omega
        · rw [if_neg h]; simp only [rsum]; omega
      · rcases List.mem_append.1 hr with hr | hr
        · by_cases h : e < z
          · rw [if_pos h] at hr
            obtain rfl := List.mem_singleton.1 hr
            dsimp only
            omega
          · rw [if_neg h] at hr; cases hr
        · have := i2 r hr
          omega
theorem pgaps_count (N : Int) (pinned : List Int) : ∀ (keep L : List Int) (e : Int), (pgaps N e (slidGo pinned e keep L) L).length ≤ (keep.filter (fun x => decide (x ∈ pinned))).length + 1 := by
  intro keep
  induction keep with
  | nil =>
    intro L e
    simp only [slidGo, pgaps]
    split <;> simp
  | cons x ks ih =>
    intro L e
    cases L with
    | nil => simp only [slidGo, pgaps]; split <;> simp
    | cons n ls =>
      simp only [slidGo, pgaps, List.length_append]
      by_cases h : x ∈ pinned
      · rw [if_pos h, List.filter_cons_of_pos (by simpa using h)]
        have := ih ls (x + n)
        have h2 : (if e < x then [(⟨e, x - e⟩ : Rn)] else []).length ≤ 1 := by split <;> simp
        simp only [List.length_cons]
        omega
      · rw [if_neg h, List.filter_cons_of_neg (by simpa using h), if_neg (show ¬ e < e by omega)]
        have := ih ls (e + n)
        simp only [List.length_nil]
        omega
theorem nodup_sub : ∀ (l p : List Int), l.Pairwise (· < ·) → (∀ x ∈ l, x ∈ p) → l.length ≤ p.length := by
  intro l
  induction l with
  | nil => intro p _ _; simp
  | cons x l ih =>
    intro p hl hp
    obtain ⟨h1, h2⟩ := List.pairwise_cons.1 hl
    have hx := hp x List.mem_cons_self
    have := ih (p.erase x) h2 (fun y hy => (List.mem_erase_of_ne (by have := h1 y hy; omega)).2 (hp y (List.mem_cons_of_mem _ hy)))
    rw [List.length_erase_of_mem hx] at this
    have : 0 < p.length := List.length_pos_of_mem hx
    simp only [List.length_cons]
    omega
theorem pgaps_few {N : Int} {pinned keep L : List Int} (hr : risesP keep = true) : (pgaps N 0 (slidGo pinned 0 keep L) L).length ≤ pinned.length + 1 := by
  have h1 := pgaps_count N pinned keep L 0
  have h2 := nodup_sub (keep.filter (fun x => decide (x ∈ pinned))) pinned ((risesP_pairwise hr).filter _) (fun x hx => by
    have := (List.mem_filter.1 hx).2
    simpa using this)
  omega
end Go.Proofs.YtbmkbnalembbjaaGreatDoor

namespace Go.Proofs.YtbmkbnalembbjaaGreatDoor
open Go.RowKit
def linksP (rs : List Int) : List Int := (rs.filter fun v => v != 0).map fun v => v - 1
theorem linksP_zero {rs : List Int} {j : Nat} (h : rs[j]? = some 0) : linksP (rs.take (j + 1)) = linksP (rs.take j) := by
  obtain ⟨h1, h2⟩ := List.getElem?_eq_some_iff.1 h
  unfold linksP
  rw [List.take_succ_eq_append_getElem h1, List.filter_append, List.map_append, h2]
  simp
theorem linksP_succ {rs : List Int} {j : Nat} {v : Int} (h : rs[j]? = some v) (h0 : v ≠ 0) : linksP (rs.take (j + 1)) = linksP (rs.take j) ++ [v - 1] := by
  obtain ⟨h1, h2⟩ := List.getElem?_eq_some_iff.1 h
  unfold linksP
  rw [List.take_succ_eq_append_getElem h1, List.filter_append, List.map_append, h2]
  simp [h0]
theorem field_head (r b t : Int) (f : Bool) (w : World) : (Instr.field 50 (.agg #[.int .i64 r, .int .i64 b, .int .i64 t, .bool f]) 0).run Tryz.prog w = .ok (.int .i64 r) w := by kernel_rfl
set_option maxRecDepth 100000 in
set_option maxHeartbeats 2000000 in
theorem each_any (F : Nat) (cap1 cap2 : Value) (gh b B : Nat) (A Ao : Option Addr) (n c k co : Nat) (a : List Int) (S : List Spot) (s : Spot) (w : World) (hBh : Blk w gh 228 #[.slice A n c, .map (some b), .slice Ao k co]) (hM : MapIs w Tryz.prog 3 .i64 b 300 (headF S))
    (hs : spotAt S s.loc = some s) (hok : SpotOk a s) (hr : Reads w B 1 A n (a.map (.int .u64))) (hnc : n ≤ c) (hn : n ≤ 256) (hP : Plain Tryz.prog F) (hlk : ∀ v ∈ refsOf a s, v = 0 ∨ 1 ≤ v ∧ v ≤ 256)
    (Inv : List Int → World → Prop) (hI : Inv [] w) (hID : ∀ l w q, Inv l w → Inv l (w.drewN q)) (hIR : ∀ l w', Inv l w' → Reads w' B 1 A n (a.map (.int .u64)))
    (HC : ∀ (l : List Int) (y : Int) (w' : World), Inv l w' → y ∈ linksL a s → Calls Tryz.prog F #[.int .i64 y, cap1, cap2] w' fun e w'' => e = .returned (.tuple #[]) ∧ Inv (l ++ [y]) w'') :
    Calls Tryz.prog 132 #[.pointer (some ⟨gh, 0, none⟩), .int .i64 s.loc, .func (.func F) #[] #[cap1, cap2]] w fun e w' => e = .returned (.tuple #[]) ∧ Inv (linksL a s) w' := by
  have hal : a.length = n := by have := hr.1; simpa using this
  have l0 := hok.loc0
  have r0 := hok.r0
  have b0 := hok.b0
  have ft := hok.fits
  have hrl := refsOf_length hok
  have e1 : headF S s.loc = some (headC s) := by unfold headF; rw [hs]; rfl
  have HLOOK := fun q => (hM.drewN q).look (k := 3) (t := 226) Tryz.underlying3 Tryz.underlying226 (zero_head _) (x := s.loc) (by unfold Spot.long at ft; simp [Lit.wf, IntKind.min, IntKind.max, IntKind.signed, IntKind.bits]; omega)
  rw [e1] at HLOOK
  have hL : linksL a s = linksP (refsOf a s) := rfl
  rw [hL]
  rw [hL] at HC
  have hR : (refsOf a s) = (a.drop (s.loc.toNat + 1)).take s.r.toNat := rfl
  have HRS := Lib.hid hR
  clear hR hL hM e1 hs hok
  generalize refsOf a s = rs at *
  obtain ⟨loc, r, bb, t, fr⟩ := s
  simp only [Spot.long] at ft l0 r0 b0 ⊢
  obtain ⟨i, rfl⟩ := Int.eq_ofNat_of_zero_le l0
  obtain ⟨m, rfl⟩ := Int.eq_ofNat_of_zero_le r0
  simp only [Int.toNat_natCast] at hrl HRS
  rw [hal] at ft
  obtain ⟨p1, hp1⟩ : ∃ p1, p1 = i + 1 := ⟨_, rfl⟩
  obtain ⟨p2, hp2⟩ : ∃ p2, p2 = p1 + m := ⟨_, rfl⟩
  have w1 : IntKind.i64.wrap ((i : Int) + 1) = p1 := by rw [IntWalk.i64_in _ (by omega)]; omega
  have w2 : IntKind.i64.wrap ((p1 : Int) + m) = p2 := by rw [IntWalk.i64_in _ (by omega)]; omega
  have hlook2 : ∀ q, (Instr.lookup 226 (.map (some b)) (.int .i64 i) false).run Tryz.prog (w.drewN q) = .ok (.agg #[.int .i64 m, .int .i64 bb, .int .i64 t, .bool fr]) (w.drewN q) := fun q => HLOOK q
  have hfield := fun w => field_head m bb t fr w
  have hpos : 0 < n := by omega
  obtain ⟨ad, rfl, had, -⟩ := hr.2 hpos
  have k0 := hBh.cell 0
  have k1 := hBh.cell 1
  simp only [List.getElem?_toArray, List.getElem?_cons_zero, List.getElem?_cons_succ] at k0 k1
  have q1 : p1 ≤ p2 := by omega
  have q2 : p2 ≤ n := by omega
  have q3 : p2 ≤ c := by omega
  have q4 : p1 ≤ c := by omega
  have q5 : p2 - p1 = m := by omega
  have HC := Lib.hid HC
  have HIR := Lib.hid hIR
  have HID := Lib.hid hID
  have HLK := Lib.hid hlk
  have HRL := Lib.hid hrl
  have hcf := fun (x : Value) (w : World) => hP #[x, cap1, cap2] w
  have HP1 := Lib.hid hp1
  have HAL := Lib.hid hal
  clear HLOOK hrl hlk hIR hID hp1 hp2 hP hal hBh
  by_cases hci : c = p1
  · have hci2 : (c == p1) = true := by simpa using hci
    have hm0 : m = 0 := by omega
    have hrs : rs = [] := List.eq_nil_of_length_eq_zero (by rw [HRL.out]; exact hm0)
    subst hrs
    have g0 : decide (0 < m) = false := decide_eq_false (by omega)
    have HI0 := Lib.hid hI
    clear hI hcf hm0
    go_enter Tryz.func132, Tryz.ntmps132
    go_wp2
    go_quiet (fail)
    go_wp2
    go_loopw [26] (fun i wr => i = .int .i64 0 ∧ wr = w.drewN nq) (fun _ _ => 0)
    case atStart => exact ⟨by first | rfl | simp, rfl⟩
    case round =>
      obtain ⟨rfl, rfl⟩ := hrel
      go_wp2
      go_end0
      exact ⟨rfl, HID.out _ _ _ HI0.out⟩
  · have HI0 := Lib.hid hI
    have HG : Hid (∀ (wr : World) (j : Nat), j < m → Reads wr B 1 (some ad) n (a.map (.int .u64)) → ∃ v, rs[j]? = some v ∧ 0 ≤ v ∧ wr.cell? ((ad.add p1).add j) = some (.int .u64 v)) := by
      intro wr j hj hrr
      have h1 := hrr.sub (lo := p1) (hi := p2) q1 q2 hnc
      rw [if_neg hci, q5] at h1
      have h2 : ((a.map (Value.int .u64)).drop p1).take m = rs.map (Value.int .u64) := by rw [HRS.out, List.map_take, List.map_drop, HP1.out]
      rw [h2] at h1
      obtain ⟨ad2, v, e2, -, hv, hc⟩ := h1.num hj
      simp only [Option.map_some, Option.some.injEq] at e2
      subst e2
      refine ⟨v, hv, ?_, hc⟩
      rcases HLK.out v (List.mem_of_getElem? hv) with h | h <;> omega
    clear hI
    go_enter Tryz.func132, Tryz.ntmps132
    go_wp2
    go_quiet (fail)
    go_wp2
    go_loopw [7, 26] (fun _ i wr => ∃ j : Nat, j ≤ m ∧ i = .int .i64 j ∧ Hid (Inv (linksP (rs.take j)) wr)) (fun _ i _ => m - (intOf i).toNat)
    case atStart => exact ⟨0, Nat.zero_le _, rfl, HID.out _ _ _ HI0.out⟩
    case round =>
      obtain ⟨j, hj, rfl, HI⟩ := hrel
      by_cases hlt : j < m
      · obtain ⟨v, hv, hv0, hc⟩ := HG.out wr j hlt (HIR.out _ _ HI.out)
        have hlk := HLK.out v (List.mem_of_getElem? hv)
        have hj1 : j + 1 ≤ m := hlt
        by_cases h0 : v = 0
        · subst h0
          have HI2 : Hid (Inv (linksP (rs.take (j + 1))) wr) := by
            show Inv _ _
            rw [linksP_zero hv]
            exact HI.out
          clear hv HI
          go_wp2
          go_roundw
          case rel => exact ⟨j + 1, hj1, by go_num, HI2⟩
          case measure => simp [intOf]; omega
        · obtain ⟨y, hy⟩ : ∃ y : Nat, v = ((y + 1 : Nat) : Int) := ⟨(v - 1).toNat, by omega⟩
          have hyl : ((y : Nat) : Int) ∈ linksP rs := List.mem_map.2 ⟨v, List.mem_filter.2 ⟨List.mem_of_getElem? hv, by simpa using h0⟩, by omega⟩
          have HQ := HC.out (linksP (rs.take j)) y wr HI.out hyl
          have hst := linksP_succ hv h0
          rw [show v - 1 = ((y : Nat) : Int) by omega] at hst
          rw [← hst] at HQ
          have HQ := Lib.hid HQ
          obtain ⟨V, hV⟩ : ∃ V : Nat, V = y + 1 := ⟨_, rfl⟩
          rw [← hV] at hy
          subst hy
          have z1 : ((V : Int) != 0) = true := by simp; omega
          have z2 : (V != 0) = true := by simp; omega
          have z3 : ¬ V = 0 := by omega
          have w3 : IntKind.i64.wrap (V : Int) = V := IntWalk.i64_in _ (by omega)
          have w4 : IntKind.i64.wrap ((V : Int) - 1) = y := by rw [IntWalk.i64_in _ (by omega)]; omega
          have w5 : (V : Int) - 1 = y := by omega
          have w6 : IntKind.i64.wrap (y : Int) = y := IntWalk.i64_in _ (by omega)
          clear hv HI hyl hst hV hlk
          go_wp2_with fail
          refine HQ.out.mono ?_
          rintro e w9 ⟨rfl, hI9⟩
          have HI9 := Lib.hid hI9
          go_wp2
          go_roundw
          case rel => exact ⟨j + 1, hj1, by go_num, HI9⟩
          case measure => simp [intOf]; omega
      · have hjm : j = m := by omega
        have HI2 : Hid (Inv (linksP rs) wr) := by
          have := HI.out
          rw [hjm, List.take_of_length_le (by rw [HRL.out]; exact Nat.le_refl _)] at this
          exact this
        have g0 : decide (j < m) = false := decide_eq_false hlt
        clear hjm HI
        go_wp2
        go_end0
        exact ⟨rfl, HI2.out⟩
end Go.Proofs.YtbmkbnalembbjaaGreatDoor
