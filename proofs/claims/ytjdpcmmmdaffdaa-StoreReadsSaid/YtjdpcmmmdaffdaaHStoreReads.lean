/-
  StoreReads answers true for every store and all numbers, and changes no argument: data words and references can be read back, and no other object changes. No condition.
-/
import Derived.Test.YtjdpcmmmdaffdaaG9
import Derived.Test.YtjdpcmmmdaffdaaG10
import Derived.Test.YtjdpcmmmdaffdaaG11
import Derived.Test.YtjdpcmmmdaffdaaG12
namespace Go.Proofs.Ytjdpcmmmdaffdaa
open Go.RowKit

set_option maxRecDepth 100000 in
set_option maxHeartbeats 4000000 in
theorem storeReads_any (A : Option Addr) (n c : Nat) (RA : Option Addr) (rn rc : Nat) (PA : Option Addr) (pn pc : Nat) (HA : Option Addr) (hn hc : Nat) (S : St) (i1 i2 i3 i4 : Int) (w : World)
    (hR : StR w w.heap.size A n RA rn PA pn HA hn S) (hK : StK n c rn pn hn S) (_ : (Lit.int .i64 i1).wf = true) (_ : (Lit.int .i64 i2).wf = true) (_ : (Lit.int .i64 i3).wf = true) (w4 : (Lit.int .u64 i4).wf = true) :
    Calls Try.prog 4 #[.agg #[.slice A n c, .slice RA rn rc, .slice PA pn pc, .slice HA hn hc], .int .i64 i1, .int .i64 i2, .int .i64 i3, .int .u64 i4] w fun e w' => e = .returned (.bool true) ∧ Below w.heap.size w w' := by
  have HH := Lib.hid stores_true
  have HL := Lib.hid hR.lens
  have HK := Lib.hid hK
  have HW4 := Lib.hid w4
  have hb1 := below_new w (.cells #[.slice A n c, .slice RA rn rc, .slice PA pn pc, .slice HA hn hc] 28)
  have DS := Blk.new w 28 #[.slice A n c, .slice RA rn rc, .slice PA pn pc, .slice HA hn hc]
  have hv0 := wf_words (a := [i4]) (fun x hx => by rw [List.mem_singleton.1 hx]; exact w4) i4 List.mem_cons_self
  obtain ⟨v, rfl⟩ := Int.eq_ofNat_of_zero_le hv0.1
  clear hK w4 hv0
  -- Put, in one form
  have HP : Hid (∀ w' : World, StR w' w'.heap.size A n RA rn PA pn HA hn S → Calls Try.prog 8 #[.agg #[.slice A n c, .slice RA rn rc, .slice PA pn pc, .slice HA hn hc], .int .i64 i1, .int .i64 i2, .int .u64 v] w' fun e w2 => Below w'.heap.size w' w2 ∧
      ∃ (A1 : Option Addr) (n1 c1 : Nat) (A2 : Option Addr) (n2 c2 : Nat) (A3 : Option Addr) (n3 c3 : Nat) (A4 : Option Addr) (n4 c4 : Nat) (E : Int), e = .returned (.tuple #[.agg #[.slice A1 n1 c1, .slice A2 n2 c2, .slice A3 n3 c3, .slice A4 n4 c4], .int .i64 E]) ∧
        Hid (E = 0 → ∀ w3 : World, Below w2.heap.size w2 w3 → Calls Try.prog 9 #[.agg #[.slice A1 n1 c1, .slice A2 n2 c2, .slice A3 n3 c3, .slice A4 n4 c4], .int .i64 i1, .int .i64 i2] w3 fun e w4 => Below w3.heap.size w3 w4 ∧ e = .returned (.tuple #[.int .u64 v, .int .i64 0]))) := by
    intro w' hR'
    by_cases hE : bodyE S i1 i2 = 0
    · obtain ⟨hOK, k, X, K, s, i, rfl, rfl, hx, hO, hk⟩ := bodyE_zero hE
      refine (put_ok A n c RA rn rc PA pn pc HA hn hc S k X K v s i w' hR' HK.out hOK hx hO hk).mono ?_
      rintro e w2 ⟨hb, A1, c1, A2, c2, A3, c3, A4, c4, rfl, hS⟩
      refine ⟨hb, A1, n, c1, A2, rn, c2, A3, pn, c3, A4, hn, c4, 0, rfl, fun _ w3 hb3 => ?_⟩
      obtain ⟨p1, p2⟩ := put_law hOK hO hk v
      have hS3 := (hS.reads.below hb3).more hb3.size
      have hK3 := hS.known (wf_set HK.out.wf HW4.out)
      have hfit := hO.ok.fits
      have hr := hO.ok.r0
      rw [hO.loc] at hfit
      unfold Spot.long at hfit
      exact get_ok A1 n c1 A2 rn c2 A3 pn c3 A4 hn c4 _ k X K v s i w3 hS3 hK3 p1 hx (hO.same p2.spots p1) hk (by
        show (S.a.set (X + 1 + s.r.toNat + K) (v : Int))[X + 1 + s.r.toNat + K]? = _
        rw [List.getElem?_set_self (by omega)])
    · refine (put_bad A n c RA rn rc PA pn pc HA hn hc S i1 i2 v w' hR' HK.out hE).mono ?_
      rintro e w2 ⟨hb, rfl⟩
      exact ⟨hb, none, 0, 0, none, 0, 0, none, 0, 0, none, 0, 0, bodyE S i1 i2, rfl, fun h => absurd h hE⟩
  go_enter Try.func4, Try.ntmps4
  go_wp2_with fail
  refine (HH.out _).mono ?_
  rintro e w1 ⟨rfl, hb2⟩
  have hb02 := below_step hb1 hb2
  have DS := DS.below hb2 DS.lt
  obtain ⟨s0, s1, s2, s3⟩ := DS.four
  clear HH
  go_wp2_with fail
  refine (HP.out _ ((hR.below hb02).more hb02.size)).mono ?_
  rintro e w2 ⟨hb3, A1, n1, c1, A2, n2, c2, A3, n3, c3, A4, n4, c4, E, rfl, HG⟩
  have hb03 := below_step hb02 hb3
  have hb04 := hb03.alloc hb03.size (.cells #[.slice A1 n1 c1, .slice A2 n2 c2, .slice A3 n3 c3, .slice A4 n4 c4] 28)
  have DG := Blk.new w2 28 #[.slice A1 n1 c1, .slice A2 n2 c2, .slice A3 n3 c3, .slice A4 n4 c4]
  have DS := (DS.below hb3 DS.lt).alloc (.cells #[.slice A1 n1 c1, .slice A2 n2 c2, .slice A3 n3 c3, .slice A4 n4 c4] 28)
  have hbq := below_new w2 (.cells #[.slice A1 n1 c1, .slice A2 n2 c2, .slice A3 n3 c3, .slice A4 n4 c4] 28)
  obtain ⟨W0, hW0⟩ : ∃ W0, W0 = w2.alloc (.cells #[.slice A1 n1 c1, .slice A2 n2 c2, .slice A3 n3 c3, .slice A4 n4 c4] 28) := ⟨_, rfl⟩
  rw [← hW0] at hb04 DG DS hbq
  have HW0 := Lib.hid hW0
  clear s0 s1 s2 s3 hb1 hb2 hb3 hb02 hb03 hW0 HP
  go_upto_if 29 with fail
  rw [← HW0.out]
  go_cut [12] from 13 to 72 (fun s12 wc => Below W0.heap.size W0 wc)
  case first =>
    obtain ⟨o0, o1, o2, o3⟩ := DG.four
    by_cases h0 : E = 0
    · subst h0
      have HGG := Lib.hid (HG.out rfl W0 hbq)
      clear HG hbq
      go_wp2_with fail
      refine HGG.out.mono ?_
      rintro e w4 ⟨hb5, rfl⟩
      go_wp2_with fail
      go_meet
      exact hb5
    · have g1 : (E == 0) = false := by simpa using h0
      clear h0 HG hbq
      go_wp2_with fail
      go_meet
      exact Below.refl _ _
  case rest =>
    have hbc := hcut
    have hb5 := hb04.trans (hbc.mono hb04.size)
    have DSc := DS.below hbc DS.lt
    have hRc := (hR.below hb5).more hb5.size
    obtain ⟨s0, s1, s2, s3⟩ := DSc.four
    clear hcut hbc DS DG HG hbq hR hb04 HW0
    by_cases hE : refE S i1 i2 i3 = 0
    · obtain ⟨hOK, k, X, K, O, s, i, rfl, rfl, rfl, hx, hO, hk, ho⟩ := refE_zero hE
      have hy : S.r[O]? = some S.r[O] := List.getElem?_eq_getElem ho
      obtain ⟨hy1, hy2⟩ := root_val hOK (List.mem_of_getElem? hy)
      generalize S.r[O] = y at hy hy1 hy2
      obtain ⟨p1, p2⟩ := set_law hOK hO hk hy1
      have HSet := Lib.hid (fun w hR => setFn_ok A n c RA rn rc PA pn pc HA hn hc S k X K O y s i w hR HK.out hOK hx hO hk hy ⟨hy2.1, by omega⟩)
      have hfit := hO.ok.fits
      have hr := hO.ok.r0
      have hbb := hO.ok.b0
      rw [hO.loc] at hfit
      unfold Spot.long at hfit
      obtain ⟨Y, hY⟩ : ∃ Y : Nat, y + 1 = Y := ⟨(y + 1).toNat, by omega⟩
      have hgt : (S.a.set (X + 1 + K) (y + 1))[X + 1 + K]? = some (Y : Int) := by rw [List.getElem?_set_self (by omega), hY]
      have hsame : S.r.set O ((Y : Int) - 1) = S.r := by rw [← hY, show y + 1 - 1 = y by omega]; exact set_same hy
      have hwf : ∀ x ∈ (⟨S.a.set (X + 1 + K) (y + 1), S.r, S.p, S.l⟩ : St).a, (Lit.int .u64 x).wf = true := wf_set (p := X + 1 + K) HK.out.wf (v := y + 1) (words_wf (a := [y + 1]) (fun x hx => by rw [List.mem_singleton.1 hx]; omega) _ List.mem_cons_self)
      have HRef := Lib.hid (fun (A1 : Option Addr) (c1 : Nat) (A2 : Option Addr) (c2 : Nat) (A3 : Option Addr) (c3 : Nat) (A4 : Option Addr) (c4 : Nat) (w : World) (hR : StR w w.heap.size A1 n A2 rn A3 pn A4 hn ⟨S.a.set (X + 1 + K) (y + 1), S.r, S.p, S.l⟩) (hK : StK n c1 rn pn hn ⟨S.a.set (X + 1 + K) (y + 1), S.r, S.p, S.l⟩) => refFn_ok A1 n c1 A2 rn c2 A3 pn c3 A4 hn c4 _ k X K O Y s i w hR hK p1 hx (hO.same p2.spots p1) hk ho hgt (by omega))
      simp only [hsame] at HRef
      obtain ⟨z1, z2, z3, z4⟩ := HL.out
      obtain ⟨v1, v2, v3, v4⟩ : n ≤ 256 ∧ rn ≤ 32 ∧ pn ≤ 16 ∧ hn ≤ 16 := by
        have e1 := (parse_ok (checkE_ok.1 hOK.arena).1).1
        have e2 := (rootE_ok hOK.roots).2.2.1
        have e3 := hOK.pins.len
        have e4 := (handE_ok.1 hOK.hands).1
        omega
      have HWF := Lib.hid hwf
      generalize (⟨S.a.set (X + 1 + K) (y + 1), S.r, S.p, S.l⟩ : St) = T at *
      clear hfit hr hbb hY hgt hsame hwf hO hx hy hy1 hy2 p1 p2 hOK z1 z2 z3 z4 hE hk ho
      go_wp2_with fail
      refine (HSet.out _ hRc).mono ?_
      rintro e w6 ⟨hb6, A5, c5, A6, c6, A7, c7, A8, c8, rfl, hS⟩
      have hb7 := below_step hb5 hb6
      have hb8 := hb7.alloc hb7.size (.cells #[.slice A5 n c5, .slice A6 rn c6, .slice A7 pn c7, .slice A8 hn c8] 28)
      have DG := Blk.new w6 28 #[.slice A5 n c5, .slice A6 rn c6, .slice A7 pn c7, .slice A8 hn c8]
      have hR6 := (hS.below (below_new w6 (.cells #[.slice A5 n c5, .slice A6 rn c6, .slice A7 pn c7, .slice A8 hn c8] 28))).reads
      have hK6 := hS.known HWF.out
      have HRf := Lib.hid (HRef.out A5 c5 A6 c6 A7 c7 A8 c8 _ hR6 hK6)
      clear s0 s1 s2 s3 HRef HSet hS
      obtain ⟨o0, o1, o2, o3⟩ := DG.four
      go_wp2_with fail
      refine HRf.out.mono ?_
      rintro e w8 ⟨hb9, B1, d1, B2, d2, B3, d3, B4, d4, rfl, hS2⟩
      have hb10 := below_step hb8 hb9
      have hb11 := hb10.alloc hb10.size (.cells #[.slice B1 n d1, .slice B2 rn d2, .slice B3 pn d3, .slice B4 hn d4] 28)
      have DG2 := (DG.below hb9 DG.lt).alloc (.cells #[.slice B1 n d1, .slice B2 rn d2, .slice B3 pn d3, .slice B4 hn d4] 28)
      have DH := Blk.new w8 28 #[.slice B1 n d1, .slice B2 rn d2, .slice B3 pn d3, .slice B4 hn d4]
      have hR8 := ((hR6.below hb9).more hb9.size).below (below_new w8 (.cells #[.slice B1 n d1, .slice B2 rn d2, .slice B3 pn d3, .slice B4 hn d4] 28))
      have hR9 := (hS2.below (below_new w8 (.cells #[.slice B1 n d1, .slice B2 rn d2, .slice B3 pn d3, .slice B4 hn d4] 28))).reads
      have HSm := Lib.hid (sameStore_true A5 n c5 A6 rn c6 A7 pn c7 A8 hn c8 B1 d1 B2 d2 B3 d3 B4 d4 T _ (hR8.more (by simp)) hR9 (by omega) (by omega) (by omega) (by omega))
      clear o0 o1 o2 o3 hS2
      obtain ⟨o0, o1, o2, o3⟩ := DG2.four
      obtain ⟨q0, q1, q2, q3⟩ := DH.four
      go_wp2_with fail
      refine HSm.out.mono ?_
      rintro e w9 ⟨rfl, hb12⟩
      have hb13 := below_step hb11 hb12
      go_wp2_with fail
      go_ret
      exact ⟨by first | rfl | simp, hb13⟩
    · have HSet := Lib.hid (fun w hR => setFn_bad A n c RA rn rc PA pn pc HA hn hc S i1 i2 i3 w hR HK.out hE)
      have g1 : (refE S i1 i2 i3 != 0) = true := by simpa using hE
      generalize refE S i1 i2 i3 = F at *
      go_wp2_with fail
      refine (HSet.out _ hRc).mono ?_
      rintro e w6 ⟨hb6, rfl⟩
      have hb7 := below_step hb5 hb6
      have hb8 := hb7.alloc hb7.size (.cells #[.slice none 0 0, .slice none 0 0, .slice none 0 0, .slice none 0 0] 28)
      have DG := Blk.new w6 28 #[.slice none 0 0, .slice none 0 0, .slice none 0 0, .slice none 0 0]
      clear s0 s1 s2 s3
      obtain ⟨o0, o1, o2, o3⟩ := DG.four
      go_wp2_with fail
      go_ret
      exact ⟨by first | rfl | simp, hb8⟩

namespace StoreReads
open Go.ChangeShapes Go.WideShapes Go.ChangeAt Go.RowKit
theorem own : ownKnob Try.prog.godebug = none := by kernel_rfl
theorem laidOut : laidOutB Try.prog = true := by kernel_rfl

set_option maxRecDepth 100000 in
theorem lifted (os : Os) (started : os.Started) (H : Type) (enc : TypeId × Value → H) :
    ReturnsInHanded {} Try.checked os 4 .any (Rows.storeReadsSpec.pre6 enc Try.prog Try.f4 Rows.storeReadsRow.domain false) (Rows.storeReadsSpec.post enc Try.prog Try.f4 false true false false) := by
  refine returnsInHanded_of_change (C := Try.checked) own started (by as_aux_lemma => kernel_rfl) Try.func4
    (ChangeSpec.witness6 (enc := enc) (C := Try.checked) false ⟨#[], #[.agg #[.slice none 0 0, .slice none 0 0, .slice none 0 0, .slice none 0 0], .int .i64 0, .int .i64 0, .int .i64 0, .int .u64 0], []⟩ 8 (by as_aux_lemma => kernel_rfl) (by as_aux_lemma => kernel_rfl) (by as_aux_lemma => kernel_rfl) (by as_aux_lemma => kernel_rfl)) ?_
  intro W base args ds gs before hval0 hW hcnd _
  have hval : ∀ (j : Nat) t v, Try.f4.params[j]? = some t → args[j]? = some v → Value.okWide Try.prog W .any base t v := hval0
  have hW' := hW
  obtain ⟨p, q, hA0, hV, rfl, hfz, hnd⟩ := hW
  have hA : DataW.TrodAll enc Try.prog W 0 (fun _ => true) true Try.f4.params.toList args.toList ds p := hA0
  rw [Try.params4] at hA hval
  obtain ⟨v0, vs0, d0, ds0, p0, q0, hargs, rfl, rfl, h0, hA⟩ := trodAll_cons hA
  obtain ⟨v1, vs1, d1, ds1, p1, q1, rfl, rfl, rfl, h1, hA⟩ := trodAll_cons hA
  obtain ⟨v2, vs2, d2, ds2, p2, q2, rfl, rfl, rfl, h2, hA⟩ := trodAll_cons hA
  obtain ⟨v3, vs3, d3, ds3, p3, q3, rfl, rfl, rfl, h3, hA⟩ := trodAll_cons hA
  obtain ⟨v4, vs4, d4, ds4, p4, q4, rfl, rfl, rfl, h4, hA⟩ := trodAll_cons hA
  obtain ⟨rfl, rfl, rfl⟩ := trodAll_nil hA
  obtain rfl : args = #[v0, v1, v2, v3, v4] := by cases args; simp_all
  obtain ⟨A0, n0, c0, RA0, rn0, rc0, PA0, pn0, pc0, HA0, hn0, hc0, S0, rfl, hR0, hK0⟩ := open_store (hval 0 _ v0 rfl rfl) (fun x hx => hW'.lt x (by simp [hx])) h0
  obtain ⟨i1, rfl, rfl, rfl, w1⟩ := open_int Try.underlying3 (hval 1 _ v1 rfl rfl) h1
  obtain ⟨i2, rfl, rfl, rfl, w2⟩ := open_int Try.underlying3 (hval 2 _ v2 rfl rfl) h2
  obtain ⟨i3, rfl, rfl, rfl, w3⟩ := open_int Try.underlying3 (hval 3 _ v3 rfl rfl) h3
  obtain ⟨i4, rfl, rfl, rfl, w4⟩ := open_int Try.underlying35 (hval 4 _ v4 rfl rfl) h4
  refine (storeReads_any A0 n0 c0 RA0 rn0 rc0 PA0 pn0 pc0 HA0 hn0 hc0 S0 i1 i2 i3 i4 W hR0 hK0 w1 w2 w3 w4).mono fun e W' ⟨he, hb⟩ => ?_
  subst he
  exact ⟨_, rfl, law_post laidOut Try.underlying4 rfl (by as_aux_lemma => kernel_rfl) rfl rfl hW' hb⟩

set_option maxHeartbeats 10000000 in
theorem closed : joinedFacts Try.prog 4 Try.f4 Rows.storeReadsSpec Rows.storeReadsRow = true := by
  unfold joinedFacts
  simp only [Bool.and_eq_true]
  repeat' apply And.intro
  all_goals as_aux_lemma => kernel_rfl

set_option maxHeartbeats 1000000 in
theorem proved : Rows.StoreReadsSaid :=
  OpenClaim.holds_of_wide 4 Try.f4 rfl rfl rfl rfl rfl rfl rfl ⟨rfl, rfl, rfl, rfl, rfl⟩ rfl rfl rfl rfl rfl (by as_aux_lemma => kernel_rfl) Try.func4 closed
    (of_decide_eq_true (by as_aux_lemma => kernel_rfl)) (by unfold Func.isWrapper; first | (rw [if_pos (by decide +kernel)]; kernel_rfl) | (rw [if_neg (by decide +kernel)]; exact ⟨rfl, rfl⟩))
    (fun os started H enc _ => lifted os started H enc)
end StoreReads
end Go.Proofs.Ytjdpcmmmdaffdaa
