/-
  Texts joined: QStPeek QDoOps QDoFn0.
-/
import Derived.Test.YtbmkbnalembbjaaGreatDoorQ16
import Derived.Test.YtbmkbnalembbjaaGreatDoorQ17
import Derived.Test.YtbmkbnalembbjaaGreatDoorQ18
import Derived.Test.YtbmkbnalembbjaaGreatDoorQ19
namespace Go.Proofs.YtbmkbnalembbjaaGreatDoor
open Go.RowKit
set_option maxRecDepth 100000 in
set_option maxHeartbeats 4000000 in
theorem peek_bad (A : Option Addr) (n c : Nat) (RA : Option Addr) (rn rc : Nat) (PA : Option Addr) (pn pc : Nat) (HA : Option Addr) (hn hc : Nat) (S : St) (x k : Int) (w : World) (hR : StR w w.heap.size A n RA rn PA pn HA hn S) (hK : StK n c rn pn hn S) (hE : stE S ≠ 0) :
    Calls Tryz.prog 48 #[.agg #[.slice A n c, .slice RA rn rc, .slice PA pn pc, .slice HA hn hc], .int .i64 x, .int .i64 k] w fun e w' => Below w.heap.size w w' ∧ e = .returned (.tuple #[.int .u64 0, .int .i64 (stE S)]) := by
  have HCk := Lib.hid (fun w hR => stcheck_any A n c RA rn rc PA pn pc HA hn hc S w hR hK)
  have g1 : (stE S != 0) = true := by simpa using hE
  generalize stE S = F at *
  have hb1 := below_new w (.cells #[.slice A n c, .slice RA rn rc, .slice PA pn pc, .slice HA hn hc] 28)
  have DS := Blk.new w 28 #[.slice A n c, .slice RA rn rc, .slice PA pn pc, .slice HA hn hc]
  obtain ⟨s0, s1, s2, s3⟩ := DS.four
  go_enter Tryz.func48, Tryz.ntmps48
  go_wp2_with fail
  refine (HCk.out _ ((hR.below hb1).more hb1.size)).mono ?_
  rintro e w2 ⟨rfl, hb2⟩
  have hb02 := below_step hb1 hb2
  clear s0 s1 s2 s3
  go_wp2_with fail
  go_ret2
  exact ⟨hb02, rfl⟩
set_option maxRecDepth 100000 in
set_option maxHeartbeats 4000000 in
theorem peek_free (A : Option Addr) (n c : Nat) (RA : Option Addr) (rn rc : Nat) (PA : Option Addr) (pn pc : Nat) (HA : Option Addr) (hn hc : Nat) (S : St) (x k : Int) (w : World) (hR : StR w w.heap.size A n RA rn PA pn HA hn S) (hK : StK n c rn pn hn S) (hOK : StOk S) (hx : x ∉ pinsL S.p) :
    Calls Tryz.prog 48 #[.agg #[.slice A n c, .slice RA rn rc, .slice PA pn pc, .slice HA hn hc], .int .i64 x, .int .i64 k] w fun e w' => Below w.heap.size w w' ∧ e = .returned (.tuple #[.int .u64 0, .int .i64 8]) := by
  have HCk := Lib.hid (fun w hR => stcheck_any A n c RA rn rc PA pn pc HA hn hc S w hR hK)
  rw [stE_ok.2 hOK] at HCk
  obtain ⟨z1, z2, z3, z4⟩ := hR.lens
  have hp16 := hOK.pins.len
  have HPn := Lib.hid (fun w hr => pinned_any A n c RA rn rc PA pn pc HA hn hc S.p w hr (by omega))
  obtain ⟨m, HM⟩ : ∃ m, Hid (m = (pinsL S.p).length) := ⟨_, rfl⟩
  have hm : m ≤ 16 := by rw [HM.out]; unfold pinsL; rw [List.length_map]; exact hp16
  rw [← HM.out] at HPn
  clear hOK z1 z2 z3 z4 hp16
  have hb1 := below_new w (.cells #[.slice A n c, .slice RA rn rc, .slice PA pn pc, .slice HA hn hc] 28)
  have DS := Blk.new w 28 #[.slice A n c, .slice RA rn rc, .slice PA pn pc, .slice HA hn hc]
  obtain ⟨s0, s1, s2, s3⟩ := DS.four
  go_enter Tryz.func48, Tryz.ntmps48
  go_wp2_with fail
  refine (HCk.out _ ((hR.below hb1).more hb1.size)).mono ?_
  rintro e w2 ⟨rfl, hb2⟩
  have hb02 := below_step hb1 hb2
  have DS2 := DS.below hb2 DS.lt
  clear s0 s1 s2 s3 hb1 hb2 DS
  obtain ⟨s0, s1, s2, s3⟩ := DS2.four
  go_wp2_with fail
  refine (HPn.out _ ((hR.p.below hb02).more hb02.size)).mono ?_
  rintro e w3 ⟨A5, c5, rfl, hN, hb3⟩
  have hb03 := below_step hb02 hb3
  have DS3 := DS2.below hb3 DS2.lt
  have hrN := Reads.of_own hN
  have HCt := Lib.hid (fun b hb => contains_int A5 m c5 w3.heap.size (pinsL S.p) x b w3 hrN (by omega) hb)
  clear s0 s1 s2 s3 hN hrN
  obtain ⟨s0, s1, s2, s3⟩ := DS3.four
  go_wp2_with fail
  refine (HCt.out false (decide_eq_false hx)).mono ?_
  rintro e w4 ⟨rfl, rfl⟩
  clear hx
  go_wp2_with fail
  go_ret2
  exact ⟨hb03, rfl⟩
set_option maxRecDepth 100000 in
set_option maxHeartbeats 4000000 in
theorem peek_range (A : Option Addr) (n c : Nat) (RA : Option Addr) (rn rc : Nat) (PA : Option Addr) (pn pc : Nat) (HA : Option Addr) (hn hc : Nat) (S : St) (x k : Int) (s : Spot) (i : Nat)  (w : World) (hR : StR w w.heap.size A n RA rn PA pn HA hn S) (hK : StK n c rn pn hn S) (hOK : StOk S) (hx : x ∈ pinsL S.p) (hO : ObjAt S x s i) (hk : k < 0 ∨ s.b ≤ k) :
    Calls Tryz.prog 48 #[.agg #[.slice A n c, .slice RA rn rc, .slice PA pn pc, .slice HA hn hc], .int .i64 x, .int .i64 k] w fun e w' => Below w.heap.size w w' ∧ e = .returned (.tuple #[.int .u64 0, .int .i64 4]) := by
  have HCk := Lib.hid (fun w hR => stcheck_any A n c RA rn rc PA pn pc HA hn hc S w hR hK)
  rw [stE_ok.2 hOK] at HCk
  obtain ⟨z1, z2, z3, z4⟩ := hR.lens
  have hp16 := hOK.pins.len
  have HPn := Lib.hid (fun w hr => pinned_any A n c RA rn rc PA pn pc HA hn hc S.p w hr (by omega))
  obtain ⟨m, HM⟩ : ∃ m, Hid (m = (pinsL S.p).length) := ⟨_, rfl⟩
  have hm : m ≤ 16 := by rw [HM.out]; unfold pinsL; rw [List.length_map]; exact hp16
  rw [← HM.out] at HPn
  have HAt := Lib.hid (fun w hr => at_ok A n c S.a x i s w hr hK.cap hK.wf hOK.arena hO.ix hO.at_)
  have hr0 := hO.ok.r0
  have hbb0 := hO.ok.b0
  obtain ⟨q2, HQ2⟩ : ∃ q : Nat, Hid (q = s.b.toNat) := ⟨_, rfl⟩
  rw [← HQ2.out] at HAt
  generalize s.t = t at *
  generalize s.f = f at *
  generalize (refIx (spotsL S.a) S.a s).map (Value.int .i64) = l1 at *
  generalize bodyOf S.a s = l2 at *
  generalize s.r.toNat = q1 at *
  clear hOK z1 z2 z3 z4 hp16 hO
  have hb1 := below_new w (.cells #[.slice A n c, .slice RA rn rc, .slice PA pn pc, .slice HA hn hc] 28)
  have DS := Blk.new w 28 #[.slice A n c, .slice RA rn rc, .slice PA pn pc, .slice HA hn hc]
  obtain ⟨s0, s1, s2, s3⟩ := DS.four
  go_enter Tryz.func48, Tryz.ntmps48
  go_wp2_with fail
  refine (HCk.out _ ((hR.below hb1).more hb1.size)).mono ?_
  rintro e w2 ⟨rfl, hb2⟩
  have hb02 := below_step hb1 hb2
  have DS2 := DS.below hb2 DS.lt
  clear s0 s1 s2 s3 hb1 hb2 DS
  obtain ⟨s0, s1, s2, s3⟩ := DS2.four
  go_wp2_with fail
  refine (HPn.out _ ((hR.p.below hb02).more hb02.size)).mono ?_
  rintro e w3 ⟨A5, c5, rfl, hN, hb3⟩
  have hb03 := below_step hb02 hb3
  have DS3 := DS2.below hb3 DS2.lt
  have hrN := Reads.of_own hN
  have HCt := Lib.hid (fun b hb => contains_int A5 m c5 w3.heap.size (pinsL S.p) x b w3 hrN (by omega) hb)
  clear s0 s1 s2 s3 hN hrN
  obtain ⟨s0, s1, s2, s3⟩ := DS3.four
  go_wp2_with fail
  refine (HCt.out true (decide_eq_true hx)).mono ?_
  rintro e w4 ⟨rfl, rfl⟩
  clear hx HCt
  go_wp2_with fail
  refine (HAt.out _ ((hR.a.below hb03).more hb03.size)).mono ?_
  rintro e w5 ⟨hb5, B1, d1, B2, d2, rfl, o1, o2⟩
  have hb05 := (below_step hb03 hb5).alloc (below_step hb03 hb5).size (.cells #[.int .i64 t, .slice B1 q1 d1, .slice B2 q2 d2, .bool f] 113)
  have DG := Blk.new w5 113 #[.int .i64 t, .slice B1 q1 d1, .slice B2 q2 d2, .bool f]
  clear s0 s1 s2 s3
  obtain ⟨s0, s1, s2, s3⟩ := DG.four
  by_cases h1 : k < 0
  · have g1 : decide (k < 0) = true := decide_eq_true h1
    clear h1 hk
    go_wp2_with fail
    go_ret2
    exact ⟨hb05, rfl⟩
  · have g1 : decide (k < 0) = false := decide_eq_false h1
    obtain ⟨K, rfl⟩ := Int.eq_ofNat_of_zero_le (show 0 ≤ k by omega)
    have g2 : decide (q2 ≤ K) = true := decide_eq_true (by have := HQ2.out; omega)
    clear h1 hk
    go_wp2_with fail
    go_ret2
    exact ⟨hb05, rfl⟩
set_option maxRecDepth 100000 in
set_option maxHeartbeats 4000000 in
theorem peek_ok (A : Option Addr) (n c : Nat) (RA : Option Addr) (rn rc : Nat) (PA : Option Addr) (pn pc : Nat) (HA : Option Addr) (hn hc : Nat) (S : St) (x k : Int) (s : Spot) (i : Nat) (v : Nat) (w : World) (hR : StR w w.heap.size A n RA rn PA pn HA hn S) (hK : StK n c rn pn hn S) (hOK : StOk S) (hx : x ∈ pinsL S.p) (hO : ObjAt S x s i) (hk : 0 ≤ k ∧ k < s.b) (hv : (bodyOf S.a s)[k.toNat]? = some (v : Int)) :
    Calls Tryz.prog 48 #[.agg #[.slice A n c, .slice RA rn rc, .slice PA pn pc, .slice HA hn hc], .int .i64 x, .int .i64 k] w fun e w' => Below w.heap.size w w' ∧ e = .returned (.tuple #[.int .u64 v, .int .i64 0]) := by
  have HCk := Lib.hid (fun w hR => stcheck_any A n c RA rn rc PA pn pc HA hn hc S w hR hK)
  rw [stE_ok.2 hOK] at HCk
  obtain ⟨z1, z2, z3, z4⟩ := hR.lens
  have hp16 := hOK.pins.len
  have HPn := Lib.hid (fun w hr => pinned_any A n c RA rn rc PA pn pc HA hn hc S.p w hr (by omega))
  obtain ⟨m, HM⟩ : ∃ m, Hid (m = (pinsL S.p).length) := ⟨_, rfl⟩
  have hm : m ≤ 16 := by rw [HM.out]; unfold pinsL; rw [List.length_map]; exact hp16
  rw [← HM.out] at HPn
  have HAt := Lib.hid (fun w hr => at_ok A n c S.a x i s w hr hK.cap hK.wf hOK.arena hO.ix hO.at_)
  have hr0 := hO.ok.r0
  have hbb0 := hO.ok.b0
  obtain ⟨q2, HQ2⟩ : ∃ q : Nat, Hid (q = s.b.toNat) := ⟨_, rfl⟩
  rw [← HQ2.out] at HAt
  obtain ⟨K, rfl⟩ := Int.eq_ofNat_of_zero_le hk.1
  have g1 : decide ((K : Int) < 0) = false := decide_eq_false (by omega)
  have g2 : decide (q2 ≤ K) = false := decide_eq_false (by have := HQ2.out; omega)
  have hkq : K < q2 := by have := HQ2.out; omega
  have HV := Lib.hid hv
  rw [Int.toNat_natCast] at HV
  clear hv hk
  generalize s.t = t at *
  generalize s.f = f at *
  generalize (refIx (spotsL S.a) S.a s).map (Value.int .i64) = l1 at *
  generalize bodyOf S.a s = l2 at *
  generalize s.r.toNat = q1 at *
  clear hOK z1 z2 z3 z4 hp16 hO
  have hb1 := below_new w (.cells #[.slice A n c, .slice RA rn rc, .slice PA pn pc, .slice HA hn hc] 28)
  have DS := Blk.new w 28 #[.slice A n c, .slice RA rn rc, .slice PA pn pc, .slice HA hn hc]
  obtain ⟨s0, s1, s2, s3⟩ := DS.four
  go_enter Tryz.func48, Tryz.ntmps48
  go_wp2_with fail
  refine (HCk.out _ ((hR.below hb1).more hb1.size)).mono ?_
  rintro e w2 ⟨rfl, hb2⟩
  have hb02 := below_step hb1 hb2
  have DS2 := DS.below hb2 DS.lt
  clear s0 s1 s2 s3 hb1 hb2 DS
  obtain ⟨s0, s1, s2, s3⟩ := DS2.four
  go_wp2_with fail
  refine (HPn.out _ ((hR.p.below hb02).more hb02.size)).mono ?_
  rintro e w3 ⟨A5, c5, rfl, hN, hb3⟩
  have hb03 := below_step hb02 hb3
  have DS3 := DS2.below hb3 DS2.lt
  have hrN := Reads.of_own hN
  have HCt := Lib.hid (fun b hb => contains_int A5 m c5 w3.heap.size (pinsL S.p) x b w3 hrN (by omega) hb)
  clear s0 s1 s2 s3 hN hrN
  obtain ⟨s0, s1, s2, s3⟩ := DS3.four
  go_wp2_with fail
  refine (HCt.out true (decide_eq_true hx)).mono ?_
  rintro e w4 ⟨rfl, rfl⟩
  clear hx HCt
  go_wp2_with fail
  refine (HAt.out _ ((hR.a.below hb03).more hb03.size)).mono ?_
  rintro e w5 ⟨hb5, B1, d1, B2, d2, rfl, o1, o2⟩
  have hb05 := (below_step hb03 hb5).alloc (below_step hb03 hb5).size (.cells #[.int .i64 t, .slice B1 q1 d1, .slice B2 q2 d2, .bool f] 113)
  have DG := Blk.new w5 113 #[.int .i64 t, .slice B1 q1 d1, .slice B2 q2 d2, .bool f]
  clear s0 s1 s2 s3
  obtain ⟨s0, s1, s2, s3⟩ := DG.four
  have hr2 := (Reads.of_own o2).alloc (Nat.le_refl _) (.cells #[.int .i64 t, .slice B1 q1 d1, .slice B2 q2 d2, .bool f] 113)
  obtain ⟨ad, u, rfl, had, hu, cu⟩ := hr2.num hkq
  obtain rfl : u = v := Option.some.inj (hu.symm.trans HV.out)
  clear hu o1 o2 hr2
  go_wp2_with fail
  go_ret2
  exact ⟨hb05, rfl⟩
end Go.Proofs.YtbmkbnalembbjaaGreatDoor

namespace Go.Proofs.YtbmkbnalembbjaaGreatDoor
open Go.RowKit
set_option maxRecDepth 100000 in
set_option maxHeartbeats 1000000 in
theorem make_out (A : Option Addr) (n c : Nat) (RA : Option Addr) (rn rc : Nat) (PA : Option Addr) (pn pc : Nat) (HA : Option Addr) (hn hc : Nat) (S : St) (slot r b t : Int) (w : World) (hR : StR w w.heap.size A n RA rn PA pn HA hn S) (hK : StK n c rn pn hn S) :
    Calls Tryz.prog 19 #[.agg #[.slice A n c, .slice RA rn rc, .slice PA pn pc, .slice HA hn hc], .int .i64 slot, .agg #[.int .i64 r, .int .i64 b, .int .i64 t, .bool false]] w fun e w' => Below w.heap.size w w' ∧
      (((makeO S slot r b t).er = 0 ∧ ∃ (B1 : Option Addr) (n1 d1 : Nat) (B2 : Option Addr) (n2 d2 : Nat) (B3 : Option Addr) (n3 d3 : Nat) (B4 : Option Addr) (n4 d4 : Nat), e = .returned (.tuple #[.agg #[.slice B1 n1 d1, .slice B2 n2 d2, .slice B3 n3 d3, .slice B4 n4 d4], .bool (decide ((makeO S slot r b t).told = 1)), .int .i64 0]) ∧ StO w' w.heap.size B1 n1 d1 B2 n2 d2 B3 n3 d3 B4 n4 d4 (makeO S slot r b t).st) ∨
       ((makeO S slot r b t).er ≠ 0 ∧ e = .returned (.tuple #[.agg #[.slice none 0 0, .slice none 0 0, .slice none 0 0, .slice none 0 0], .bool false, .int .i64 (makeO S slot r b t).er]))) := by
  by_cases hE : makeE S slot r b t false = 0
  · obtain ⟨hOK, -, hh, k, rfl, hk⟩ := makeE_zero hE
    refine (makeFn_ok A n c RA rn rc PA pn pc HA hn hc S k r b t w hR hK hOK hk hh).mono ?_
    have hX : makeO S k r b t = if fitsE (ggL S.a) (1 + r + b) = 0 then ⟨putIn S k r b t, 0, 0⟩ else if fitsE (ggL (sweep S).1.a) (1 + r + b) = 0 then ⟨putIn (sweep S).1 k r b t, 1, 0⟩ else ⟨S, 0, 7⟩ := by
      unfold makeO
      rw [if_neg (by rw [hE]; decide), Int.toNat_natCast]
    rintro e w' ⟨hb, ⟨j, g, hG, M1, y1, M2, y2, M3, y3, M4, y4, rfl, hO⟩ | ⟨hF, S', fr, L, Y, now, hC, ⟨j, g, hG, M1, y1, M2, y2, M3, y3, M4, y4, rfl, hO⟩ | ⟨hF2, rfl⟩⟩⟩
    · rw [hX, if_pos hG.fits]
      refine ⟨hb, .inl ⟨rfl, M1, n, y1, M2, rn, y2, M3, pn, y3, M4, hn, y4, rfl, ?_⟩⟩
      show StO _ _ _ _ _ _ _ _ _ _ _ _ _ _ (putIn S k r b t)
      unfold putIn
      rw [hG.is]
      exact hO
    · rw [hX, if_neg hF, hC.sweep, if_pos hG.fits]
      refine ⟨hb, .inl ⟨rfl, M1, n, y1, M2, rn, y2, M3, pn, y3, M4, hn, y4, rfl, ?_⟩⟩
      show StO _ _ _ _ _ _ _ _ _ _ _ _ _ _ (putIn S' k r b t)
      unfold putIn
      rw [hG.is]
      exact hO
    · rw [hX, if_neg hF, hC.sweep, if_neg hF2]
      exact ⟨hb, .inr ⟨(show ¬ (7 : Int) = 0 by decide), rfl⟩⟩
  · refine (makeFn_bad A n c RA rn rc PA pn pc HA hn hc S slot r b t false w hR hK hE).mono ?_
    rintro e w' ⟨hb, rfl⟩
    have hX : makeO S slot r b t = ⟨S, 0, makeE S slot r b t false⟩ := if_pos hE
    rw [hX]
    exact ⟨hb, .inr ⟨hE, rfl⟩⟩
set_option maxRecDepth 100000 in
set_option maxHeartbeats 1000000 in
theorem coll_out (A : Option Addr) (n c : Nat) (RA : Option Addr) (rn rc : Nat) (PA : Option Addr) (pn pc : Nat) (HA : Option Addr) (hn hc : Nat) (S : St)  (w : World) (hR : StR w w.heap.size A n RA rn PA pn HA hn S) (hK : StK n c rn pn hn S) :
    Calls Tryz.prog 20 #[.agg #[.slice A n c, .slice RA rn rc, .slice PA pn pc, .slice HA hn hc]] w fun e w' => Below w.heap.size w w' ∧
      (((collO S).er = 0 ∧ ∃ (B1 : Option Addr) (n1 d1 : Nat) (B2 : Option Addr) (n2 d2 : Nat) (B3 : Option Addr) (n3 d3 : Nat) (B4 : Option Addr) (n4 d4 : Nat), e = .returned (.tuple #[.agg #[.slice B1 n1 d1, .slice B2 n2 d2, .slice B3 n3 d3, .slice B4 n4 d4], .int .i64 (collO S).told, .int .i64 0]) ∧ StO w' w.heap.size B1 n1 d1 B2 n2 d2 B3 n3 d3 B4 n4 d4 (collO S).st) ∨
       ((collO S).er ≠ 0 ∧ e = .returned (.tuple #[.agg #[.slice none 0 0, .slice none 0 0, .slice none 0 0, .slice none 0 0], .int .i64 0, .int .i64 (collO S).er]))) := by
  refine (collectFn_any A n c RA rn rc PA pn pc HA hn hc S w hR hK).mono ?_
  rintro e w' ⟨hb, ⟨hOK, S', fr, L, Y, now, A1, c1, A2, c2, A3, c3, A4, c4, hC, rfl, hO⟩ | ⟨h0, rfl⟩⟩
  · have hX : collO S = ⟨S', fr, 0⟩ := by
      unfold collO
      rw [if_neg (by rw [stE_ok.2 hOK]; decide), hC.sweep]
    rw [hX]
    exact ⟨hb, .inl ⟨rfl, A1, n, c1, A2, rn, c2, A3, pn, c3, A4, hn, c4, rfl, hO⟩⟩
  · have hX : collO S = ⟨S, 0, stE S⟩ := if_pos h0
    rw [hX]
    exact ⟨hb, .inr ⟨h0, rfl⟩⟩
set_option maxRecDepth 100000 in
set_option maxHeartbeats 1000000 in
theorem ref_out (A : Option Addr) (n c : Nat) (RA : Option Addr) (rn rc : Nat) (PA : Option Addr) (pn pc : Nat) (HA : Option Addr) (hn hc : Nat) (S : St) (x y z : Int) (w : World) (hR : StR w w.heap.size A n RA rn PA pn HA hn S) (hK : StK n c rn pn hn S) :
    Calls Tryz.prog 41 #[.agg #[.slice A n c, .slice RA rn rc, .slice PA pn pc, .slice HA hn hc], .int .i64 x, .int .i64 y, .int .i64 z] w fun e w' => Below w.heap.size w w' ∧
      (((refO S x y z).er = 0 ∧ ∃ (B1 : Option Addr) (n1 d1 : Nat) (B2 : Option Addr) (n2 d2 : Nat) (B3 : Option Addr) (n3 d3 : Nat) (B4 : Option Addr) (n4 d4 : Nat), e = .returned (.tuple #[.agg #[.slice B1 n1 d1, .slice B2 n2 d2, .slice B3 n3 d3, .slice B4 n4 d4], .int .i64 0]) ∧ StO w' w.heap.size B1 n1 d1 B2 n2 d2 B3 n3 d3 B4 n4 d4 (refO S x y z).st) ∨
       ((refO S x y z).er ≠ 0 ∧ e = .returned (.tuple #[.agg #[.slice none 0 0, .slice none 0 0, .slice none 0 0, .slice none 0 0], .int .i64 (refO S x y z).er]))) := by
  by_cases hE : refE S x y z = 0
  · obtain ⟨hOK, k, X, K, O, s, i, rfl, rfl, rfl, hx, hO, hk, ho⟩ := refE_zero hE
    obtain ⟨v, hv, h1, -⟩ := ref_word hOK hO hk
    refine (refFn_ok A n c RA rn rc PA pn pc HA hn hc S k X K O v s i w hR hK hOK hx hO hk ho hv (by omega)).mono ?_
    rintro e w' ⟨hb, A1, c1, A2, c2, A3, c3, A4, c4, rfl, hO'⟩
    rw [refO_is hE hx hv]
    exact ⟨hb, .inl ⟨rfl, A1, n, c1, A2, rn, c2, A3, pn, c3, A4, hn, c4, rfl, hO'⟩⟩
  · refine (refFn_bad A n c RA rn rc PA pn pc HA hn hc S x y z w hR hK hE).mono ?_
    rintro e w' ⟨hb, rfl⟩
    have hX : refO S x y z = ⟨S, 0, refE S x y z⟩ := if_pos hE
    rw [hX]
    exact ⟨hb, .inr ⟨hE, rfl⟩⟩
set_option maxRecDepth 100000 in
set_option maxHeartbeats 1000000 in
theorem set_out (A : Option Addr) (n c : Nat) (RA : Option Addr) (rn rc : Nat) (PA : Option Addr) (pn pc : Nat) (HA : Option Addr) (hn hc : Nat) (S : St) (x y z : Int) (w : World) (hR : StR w w.heap.size A n RA rn PA pn HA hn S) (hK : StK n c rn pn hn S) :
    Calls Tryz.prog 42 #[.agg #[.slice A n c, .slice RA rn rc, .slice PA pn pc, .slice HA hn hc], .int .i64 x, .int .i64 y, .int .i64 z] w fun e w' => Below w.heap.size w w' ∧
      (((setO S x y z).er = 0 ∧ ∃ (B1 : Option Addr) (n1 d1 : Nat) (B2 : Option Addr) (n2 d2 : Nat) (B3 : Option Addr) (n3 d3 : Nat) (B4 : Option Addr) (n4 d4 : Nat), e = .returned (.tuple #[.agg #[.slice B1 n1 d1, .slice B2 n2 d2, .slice B3 n3 d3, .slice B4 n4 d4], .int .i64 0]) ∧ StO w' w.heap.size B1 n1 d1 B2 n2 d2 B3 n3 d3 B4 n4 d4 (setO S x y z).st) ∨
       ((setO S x y z).er ≠ 0 ∧ e = .returned (.tuple #[.agg #[.slice none 0 0, .slice none 0 0, .slice none 0 0, .slice none 0 0], .int .i64 (setO S x y z).er]))) := by
  by_cases hE : refE S x y z = 0
  · obtain ⟨hOK, k, X, K, O, s, i, rfl, rfl, rfl, hx, hO, hk, ho⟩ := refE_zero hE
    have hy : S.r[O]? = some S.r[O] := List.getElem?_eq_getElem ho
    obtain ⟨-, q2, q3⟩ := root_val hOK (List.mem_of_getElem? hy)
    refine (setFn_ok A n c RA rn rc PA pn pc HA hn hc S k X K O S.r[O] s i w hR hK hOK hx hO hk hy (by omega)).mono ?_
    rintro e w' ⟨hb, A1, c1, A2, c2, A3, c3, A4, c4, rfl, hO'⟩
    rw [setO_is hE hx hy]
    exact ⟨hb, .inl ⟨rfl, A1, n, c1, A2, rn, c2, A3, pn, c3, A4, hn, c4, rfl, hO'⟩⟩
  · refine (setFn_bad A n c RA rn rc PA pn pc HA hn hc S x y z w hR hK hE).mono ?_
    rintro e w' ⟨hb, rfl⟩
    have hX : setO S x y z = ⟨S, 0, refE S x y z⟩ := if_pos hE
    rw [hX]
    exact ⟨hb, .inr ⟨hE, rfl⟩⟩
set_option maxRecDepth 100000 in
set_option maxHeartbeats 1000000 in
theorem put_out (A : Option Addr) (n c : Nat) (RA : Option Addr) (rn rc : Nat) (PA : Option Addr) (pn pc : Nat) (HA : Option Addr) (hn hc : Nat) (S : St) (x y v : Int) (w : World) (hR : StR w w.heap.size A n RA rn PA pn HA hn S) (hK : StK n c rn pn hn S) :
    Calls Tryz.prog 45 #[.agg #[.slice A n c, .slice RA rn rc, .slice PA pn pc, .slice HA hn hc], .int .i64 x, .int .i64 y, .int .u64 v] w fun e w' => Below w.heap.size w w' ∧
      (((putO S x y v).er = 0 ∧ ∃ (B1 : Option Addr) (n1 d1 : Nat) (B2 : Option Addr) (n2 d2 : Nat) (B3 : Option Addr) (n3 d3 : Nat) (B4 : Option Addr) (n4 d4 : Nat), e = .returned (.tuple #[.agg #[.slice B1 n1 d1, .slice B2 n2 d2, .slice B3 n3 d3, .slice B4 n4 d4], .int .i64 0]) ∧ StO w' w.heap.size B1 n1 d1 B2 n2 d2 B3 n3 d3 B4 n4 d4 (putO S x y v).st) ∨
       ((putO S x y v).er ≠ 0 ∧ e = .returned (.tuple #[.agg #[.slice none 0 0, .slice none 0 0, .slice none 0 0, .slice none 0 0], .int .i64 (putO S x y v).er]))) := by
  by_cases hE : bodyE S x y = 0
  · obtain ⟨hOK, k, X, K, s, i, rfl, rfl, hx, hO, hk⟩ := bodyE_zero hE
    refine (put_ok A n c RA rn rc PA pn pc HA hn hc S k X K v s i w hR hK hOK hx hO hk).mono ?_
    rintro e w' ⟨hb, A1, c1, A2, c2, A3, c3, A4, c4, rfl, hO'⟩
    rw [putO_is hE hx hO]
    exact ⟨hb, .inl ⟨rfl, A1, n, c1, A2, rn, c2, A3, pn, c3, A4, hn, c4, rfl, hO'⟩⟩
  · refine (put_bad A n c RA rn rc PA pn pc HA hn hc S x y v w hR hK hE).mono ?_
    rintro e w' ⟨hb, rfl⟩
    have hX : putO S x y v = ⟨S, 0, bodyE S x y⟩ := if_pos hE
    rw [hX]
    exact ⟨hb, .inr ⟨hE, rfl⟩⟩
set_option maxRecDepth 100000 in
set_option maxHeartbeats 1000000 in
theorem pin_out (A : Option Addr) (n c : Nat) (RA : Option Addr) (rn rc : Nat) (PA : Option Addr) (pn pc : Nat) (HA : Option Addr) (hn hc : Nat) (S : St) (x : Int) (w : World) (hR : StR w w.heap.size A n RA rn PA pn HA hn S) (hK : StK n c rn pn hn S) :
    Calls Tryz.prog 46 #[.agg #[.slice A n c, .slice RA rn rc, .slice PA pn pc, .slice HA hn hc], .int .i64 x] w fun e w' => Below w.heap.size w w' ∧
      (((pinO S x).er = 0 ∧ ∃ (B1 : Option Addr) (n1 d1 : Nat) (B2 : Option Addr) (n2 d2 : Nat) (B3 : Option Addr) (n3 d3 : Nat) (B4 : Option Addr) (n4 d4 : Nat), e = .returned (.tuple #[.agg #[.slice B1 n1 d1, .slice B2 n2 d2, .slice B3 n3 d3, .slice B4 n4 d4], .int .i64 (pinO S x).told, .int .i64 0]) ∧ StO w' w.heap.size B1 n1 d1 B2 n2 d2 B3 n3 d3 B4 n4 d4 (pinO S x).st) ∨
       ((pinO S x).er ≠ 0 ∧ e = .returned (.tuple #[.agg #[.slice none 0 0, .slice none 0 0, .slice none 0 0, .slice none 0 0], .int .i64 0, .int .i64 (pinO S x).er]))) := by
  by_cases hE : objE S x = 0
  · obtain ⟨hOK, k, X, s, i, rfl, hx, hO, -⟩ := root_obj hE
    refine (pinFn_obj A n c RA rn rc PA pn pc HA hn hc S k X s i w hR hK hOK hx hO).mono ?_
    rintro e w' ⟨hb, ⟨j, hP, A1, c1, A2, c2, A3, m, c3, A4, c4, rfl, hO'⟩ | ⟨hno, h0, rfl⟩⟩
    · rw [pinO_ok hE hx hP]
      exact ⟨hb, .inl ⟨rfl, A1, n, c1, A2, rn, c2, A3, m, c3, A4, hn, c4, rfl, hO'⟩⟩
    · rw [pinO_no hE hx hno]
      exact ⟨hb, .inr ⟨h0, rfl⟩⟩
  · refine (pinFn_bad A n c RA rn rc PA pn pc HA hn hc S x w hR hK hE).mono ?_
    rintro e w' ⟨hb, rfl⟩
    have hX : pinO S x = ⟨S, 0, objE S x⟩ := if_pos hE
    rw [hX]
    exact ⟨hb, .inr ⟨hE, rfl⟩⟩
set_option maxRecDepth 100000 in
set_option maxHeartbeats 1000000 in
theorem unpin_out (A : Option Addr) (n c : Nat) (RA : Option Addr) (rn rc : Nat) (PA : Option Addr) (pn pc : Nat) (HA : Option Addr) (hn hc : Nat) (S : St) (x : Int) (w : World) (hR : StR w w.heap.size A n RA rn PA pn HA hn S) (hK : StK n c rn pn hn S) :
    Calls Tryz.prog 47 #[.agg #[.slice A n c, .slice RA rn rc, .slice PA pn pc, .slice HA hn hc], .int .i64 x] w fun e w' => Below w.heap.size w w' ∧
      (((unpinO S x).er = 0 ∧ ∃ (B1 : Option Addr) (n1 d1 : Nat) (B2 : Option Addr) (n2 d2 : Nat) (B3 : Option Addr) (n3 d3 : Nat) (B4 : Option Addr) (n4 d4 : Nat), e = .returned (.tuple #[.agg #[.slice B1 n1 d1, .slice B2 n2 d2, .slice B3 n3 d3, .slice B4 n4 d4], .int .i64 0]) ∧ StO w' w.heap.size B1 n1 d1 B2 n2 d2 B3 n3 d3 B4 n4 d4 (unpinO S x).st) ∨
       ((unpinO S x).er ≠ 0 ∧ e = .returned (.tuple #[.agg #[.slice none 0 0, .slice none 0 0, .slice none 0 0, .slice none 0 0], .int .i64 (unpinO S x).er]))) := by
  by_cases hE : stE S = 0
  · have hOK := stE_ok.1 hE
    refine (unpinFn_ok A n c RA rn rc PA pn pc HA hn hc S x w hR hK hOK).mono ?_
    rintro e w' ⟨hb, ⟨j, hP, A1, c1, A2, c2, A3, m, c3, A4, c4, rfl, hO'⟩ | ⟨hno, h0, rfl⟩⟩
    · rw [unpinO_ok hOK hP]
      exact ⟨hb, .inl ⟨rfl, A1, n, c1, A2, rn, c2, A3, m, c3, A4, hn, c4, rfl, hO'⟩⟩
    · rw [unpinO_no hOK hno]
      exact ⟨hb, .inr ⟨h0, rfl⟩⟩
  · refine (unpinFn_bad A n c RA rn rc PA pn pc HA hn hc S x w hR hK hE).mono ?_
    rintro e w' ⟨hb, rfl⟩
    have hX : unpinO S x = ⟨S, 0, stE S⟩ := if_pos hE
    rw [hX]
    exact ⟨hb, .inr ⟨hE, rfl⟩⟩
set_option maxRecDepth 100000 in
set_option maxHeartbeats 1000000 in
theorem open_out (A : Option Addr) (n c : Nat) (RA : Option Addr) (rn rc : Nat) (PA : Option Addr) (pn pc : Nat) (HA : Option Addr) (hn hc : Nat) (S : St) (x : Int) (w : World) (hR : StR w w.heap.size A n RA rn PA pn HA hn S) (hK : StK n c rn pn hn S) :
    Calls Tryz.prog 49 #[.agg #[.slice A n c, .slice RA rn rc, .slice PA pn pc, .slice HA hn hc], .int .i64 x] w fun e w' => Below w.heap.size w w' ∧
      (((openO S x).er = 0 ∧ ∃ (B1 : Option Addr) (n1 d1 : Nat) (B2 : Option Addr) (n2 d2 : Nat) (B3 : Option Addr) (n3 d3 : Nat) (B4 : Option Addr) (n4 d4 : Nat), e = .returned (.tuple #[.agg #[.slice B1 n1 d1, .slice B2 n2 d2, .slice B3 n3 d3, .slice B4 n4 d4], .int .u64 (openO S x).told, .int .i64 0]) ∧ StO w' w.heap.size B1 n1 d1 B2 n2 d2 B3 n3 d3 B4 n4 d4 (openO S x).st) ∨
       ((openO S x).er ≠ 0 ∧ e = .returned (.tuple #[.agg #[.slice none 0 0, .slice none 0 0, .slice none 0 0, .slice none 0 0], .int .u64 0, .int .i64 (openO S x).er]))) := by
  by_cases hE : objE S x = 0
  · obtain ⟨hOK, k, X, s, i, rfl, hx, hO, -⟩ := root_obj hE
    rcases open_cases hOK (root_at (List.mem_of_getElem? hx) (by omega)) with ⟨h1, j, sl, hop, -⟩ | h1
    · refine (openFn_ok A n c RA rn rc PA pn pc HA hn hc S k X s i j sl w hR hK hOK hx hO h1 hop.ix hop.at_ hop.free).mono ?_
      rintro e w' ⟨hb, A1, c1, A2, c2, A3, c3, A4, c4, rfl, hO'⟩
      rw [openO_is hE hx h1 hop.ix hop.at_]
      exact ⟨hb, .inl ⟨rfl, A1, n, c1, A2, rn, c2, A3, pn, c3, A4, hn, c4, rfl, hO'⟩⟩
    · have h7 : openE S.l X ≠ 0 := by rw [h1]; decide
      refine (openFn_full A n c RA rn rc PA pn pc HA hn hc S k X s i w hR hK hOK hx hO h7).mono ?_
      rintro e w' ⟨hb, rfl⟩
      rw [openO_no hE hx h7]
      exact ⟨hb, .inr ⟨h7, rfl⟩⟩
  · refine (openFn_bad A n c RA rn rc PA pn pc HA hn hc S x w hR hK hE).mono ?_
    rintro e w' ⟨hb, rfl⟩
    have hX : openO S x = ⟨S, 0, objE S x⟩ := if_pos hE
    rw [hX]
    exact ⟨hb, .inr ⟨hE, rfl⟩⟩
set_option maxRecDepth 100000 in
set_option maxHeartbeats 1000000 in
theorem use_out (A : Option Addr) (n c : Nat) (RA : Option Addr) (rn rc : Nat) (PA : Option Addr) (pn pc : Nat) (HA : Option Addr) (hn hc : Nat) (S : St) (v x : Int) (v0 : 0 ≤ v) (v1 : v < 18446744073709551616) (w : World) (hR : StR w w.heap.size A n RA rn PA pn HA hn S) (hK : StK n c rn pn hn S) :
    Calls Tryz.prog 50 #[.agg #[.slice A n c, .slice RA rn rc, .slice PA pn pc, .slice HA hn hc], .int .u64 v, .int .i64 x] w fun e w' => Below w.heap.size w w' ∧
      (((useO S v x).er = 0 ∧ ∃ (B1 : Option Addr) (n1 d1 : Nat) (B2 : Option Addr) (n2 d2 : Nat) (B3 : Option Addr) (n3 d3 : Nat) (B4 : Option Addr) (n4 d4 : Nat), e = .returned (.tuple #[.agg #[.slice B1 n1 d1, .slice B2 n2 d2, .slice B3 n3 d3, .slice B4 n4 d4], .int .i64 0]) ∧ StO w' w.heap.size B1 n1 d1 B2 n2 d2 B3 n3 d3 B4 n4 d4 (useO S v x).st) ∨
       ((useO S v x).er ≠ 0 ∧ e = .returned (.tuple #[.agg #[.slice none 0 0, .slice none 0 0, .slice none 0 0, .slice none 0 0], .int .i64 (useO S v x).er]))) := by
  by_cases hE : slotTE S x = 0
  · obtain ⟨hOK, k, rfl, hk⟩ := slotTE_zero hE
    cases hf : findS S.l v with
    | some sl =>
      refine (useFn_ok A n c RA rn rc PA pn pc HA hn hc S v k sl w hR hK hOK hk v0 v1 hf).mono ?_
      rintro e w' ⟨hb, A1, c1, A2, c2, A3, c3, A4, c4, rfl, hO'⟩
      have hX : useO S v k = ⟨⟨S.a, S.r.set k sl.loc, S.p, S.l⟩, 0, 0⟩ := by
        unfold useO
        rw [if_neg (by rw [hE]; decide), hf, Int.toNat_natCast]
      rw [hX]
      exact ⟨hb, .inl ⟨rfl, A1, n, c1, A2, rn, c2, A3, pn, c3, A4, hn, c4, rfl, hO'⟩⟩
    | none =>
      refine (useFn_stale A n c RA rn rc PA pn pc HA hn hc S v k w hR hK hOK hk v0 v1 hf).mono ?_
      rintro e w' ⟨hb, rfl⟩
      have hX : useO S v k = ⟨S, 0, 9⟩ := by
        unfold useO
        rw [if_neg (by rw [hE]; decide), hf]
      rw [hX]
      exact ⟨hb, .inr ⟨(show ¬ (9 : Int) = 0 by decide), rfl⟩⟩
  · refine (useFn_bad A n c RA rn rc PA pn pc HA hn hc S v x w hR hK hE).mono ?_
    rintro e w' ⟨hb, rfl⟩
    have hX : useO S v x = ⟨S, 0, slotTE S x⟩ := if_pos hE
    rw [hX]
    exact ⟨hb, .inr ⟨hE, rfl⟩⟩
set_option maxRecDepth 100000 in
set_option maxHeartbeats 1000000 in
theorem shut_out (A : Option Addr) (n c : Nat) (RA : Option Addr) (rn rc : Nat) (PA : Option Addr) (pn pc : Nat) (HA : Option Addr) (hn hc : Nat) (S : St) (v : Int) (v0 : 0 ≤ v) (v1 : v < 18446744073709551616) (w : World) (hR : StR w w.heap.size A n RA rn PA pn HA hn S) (hK : StK n c rn pn hn S) :
    Calls Tryz.prog 51 #[.agg #[.slice A n c, .slice RA rn rc, .slice PA pn pc, .slice HA hn hc], .int .u64 v] w fun e w' => Below w.heap.size w w' ∧
      (((shutO S v).er = 0 ∧ ∃ (B1 : Option Addr) (n1 d1 : Nat) (B2 : Option Addr) (n2 d2 : Nat) (B3 : Option Addr) (n3 d3 : Nat) (B4 : Option Addr) (n4 d4 : Nat), e = .returned (.tuple #[.agg #[.slice B1 n1 d1, .slice B2 n2 d2, .slice B3 n3 d3, .slice B4 n4 d4], .int .i64 0]) ∧ StO w' w.heap.size B1 n1 d1 B2 n2 d2 B3 n3 d3 B4 n4 d4 (shutO S v).st) ∨
       ((shutO S v).er ≠ 0 ∧ e = .returned (.tuple #[.agg #[.slice none 0 0, .slice none 0 0, .slice none 0 0, .slice none 0 0], .int .i64 (shutO S v).er]))) := by
  by_cases hE : stE S = 0
  · have hOK := stE_ok.1 hE
    cases hf : findS S.l v with
    | some sl =>
      refine (shutFn_ok A n c RA rn rc PA pn pc HA hn hc S v _ sl w hR hK hOK v0 v1 (findS_some.1 hf)).mono ?_
      rintro e w' ⟨hb, A1, c1, A2, c2, A3, c3, A4, c4, rfl, hO'⟩
      have hX : shutO S v = ⟨⟨S.a, S.r, S.p, S.l.set (v % 65536).toNat ⟨sl.gen, false, 0⟩⟩, 0, 0⟩ := by
        unfold shutO
        rw [if_neg (by rw [hE]; decide), hf]
      rw [hX]
      exact ⟨hb, .inl ⟨rfl, A1, n, c1, A2, rn, c2, A3, pn, c3, A4, hn, c4, rfl, hO'⟩⟩
    | none =>
      refine (shutFn_stale A n c RA rn rc PA pn pc HA hn hc S v w hR hK hOK v0 v1 (fun j sl hfd => ?_)).mono ?_
      · have h1 := hfd.1
        have h2 : (v % 65536).toNat = j := by omega
        have h3 := findS_some.2 (by rw [h2]; exact hfd)
        rw [hf] at h3
        cases h3
      · rintro e w' ⟨hb, rfl⟩
        have hX : shutO S v = ⟨S, 0, 9⟩ := by
          unfold shutO
          rw [if_neg (by rw [hE]; decide), hf]
        rw [hX]
        exact ⟨hb, .inr ⟨(show ¬ (9 : Int) = 0 by decide), rfl⟩⟩
  · refine (shutFn_bad A n c RA rn rc PA pn pc HA hn hc S v w hR hK hE).mono ?_
    rintro e w' ⟨hb, rfl⟩
    have hX : shutO S v = ⟨S, 0, stE S⟩ := if_pos hE
    rw [hX]
    exact ⟨hb, .inr ⟨hE, rfl⟩⟩
set_option maxRecDepth 100000 in
set_option maxHeartbeats 1000000 in
theorem drop_out (A : Option Addr) (n c : Nat) (RA : Option Addr) (rn rc : Nat) (PA : Option Addr) (pn pc : Nat) (HA : Option Addr) (hn hc : Nat) (S : St) (x : Int) (w : World) (hR : StR w w.heap.size A n RA rn PA pn HA hn S) (hK : StK n c rn pn hn S) :
    Calls Tryz.prog 52 #[.agg #[.slice A n c, .slice RA rn rc, .slice PA pn pc, .slice HA hn hc], .int .i64 x] w fun e w' => Below w.heap.size w w' ∧
      (((dropO S x).er = 0 ∧ ∃ (B1 : Option Addr) (n1 d1 : Nat) (B2 : Option Addr) (n2 d2 : Nat) (B3 : Option Addr) (n3 d3 : Nat) (B4 : Option Addr) (n4 d4 : Nat), e = .returned (.tuple #[.agg #[.slice B1 n1 d1, .slice B2 n2 d2, .slice B3 n3 d3, .slice B4 n4 d4], .int .i64 0]) ∧ StO w' w.heap.size B1 n1 d1 B2 n2 d2 B3 n3 d3 B4 n4 d4 (dropO S x).st) ∨
       ((dropO S x).er ≠ 0 ∧ e = .returned (.tuple #[.agg #[.slice none 0 0, .slice none 0 0, .slice none 0 0, .slice none 0 0], .int .i64 (dropO S x).er]))) := by
  by_cases hE : slotTE S x = 0
  · obtain ⟨hOK, k, rfl, hk⟩ := slotTE_zero hE
    refine (dropFn_ok A n c RA rn rc PA pn pc HA hn hc S k w hR hK hOK hk).mono ?_
    rintro e w' ⟨hb, A1, c1, A2, c2, A3, c3, A4, c4, rfl, hO'⟩
    have hX : dropO S k = ⟨⟨S.a, S.r.set k (-1), S.p, S.l⟩, 0, 0⟩ := by
      unfold dropO
      rw [if_neg (by rw [hE]; decide), Int.toNat_natCast]
    rw [hX]
    exact ⟨hb, .inl ⟨rfl, A1, n, c1, A2, rn, c2, A3, pn, c3, A4, hn, c4, rfl, hO'⟩⟩
  · refine (dropFn_bad A n c RA rn rc PA pn pc HA hn hc S x w hR hK hE).mono ?_
    rintro e w' ⟨hb, rfl⟩
    have hX : dropO S x = ⟨S, 0, slotTE S x⟩ := if_pos hE
    rw [hX]
    exact ⟨hb, .inr ⟨hE, rfl⟩⟩
set_option maxRecDepth 100000 in
set_option maxHeartbeats 1000000 in
theorem get_out (A : Option Addr) (n c : Nat) (RA : Option Addr) (rn rc : Nat) (PA : Option Addr) (pn pc : Nat) (HA : Option Addr) (hn hc : Nat) (S : St) (x y : Int) (w : World) (hR : StR w w.heap.size A n RA rn PA pn HA hn S) (hK : StK n c rn pn hn S) :
    Calls Tryz.prog 43 #[.agg #[.slice A n c, .slice RA rn rc, .slice PA pn pc, .slice HA hn hc], .int .i64 x, .int .i64 y] w fun e w' => Below w.heap.size w w' ∧ e = .returned (.tuple #[.int .u64 (getO S x y).told, .int .i64 (getO S x y).er]) ∧ (getO S x y).st = S := by
  by_cases hE : bodyE S x y = 0
  · obtain ⟨hOK, k, X, K, s, i, rfl, rfl, hx, hO, hk⟩ := bodyE_zero hE
    have hfit := hO.ok.fits
    have hr0 := hO.ok.r0
    have hloc := hO.loc
    have hlen : X + 1 + s.r.toNat + K < S.a.length := by simp only [Spot.long] at hfit; omega
    have hw := hK.wf _ (List.getElem_mem hlen)
    obtain ⟨v, hv⟩ := Int.eq_ofNat_of_zero_le (show 0 ≤ S.a[X + 1 + s.r.toNat + K] by simp [Lit.wf, IntKind.min, IntKind.max, IntKind.signed, IntKind.bits] at hw; omega)
    have hv' : S.a[X + 1 + s.r.toNat + K]? = some (v : Int) := by rw [List.getElem?_eq_getElem hlen, hv]
    refine (get_ok A n c RA rn rc PA pn pc HA hn hc S k X K v s i w hR hK hOK hx hO hk hv').mono ?_
    rintro e w' ⟨hb, rfl⟩
    rw [getO_is hE hx hO hv']
    exact ⟨hb, rfl, rfl⟩
  · refine (get_bad A n c RA rn rc PA pn pc HA hn hc S x y w hR hK hE).mono ?_
    rintro e w' ⟨hb, rfl⟩
    have hX : getO S x y = ⟨S, 0, bodyE S x y⟩ := if_pos hE
    rw [hX]
    exact ⟨hb, rfl, rfl⟩
set_option maxRecDepth 100000 in
set_option maxHeartbeats 1000000 in
theorem peek_out (A : Option Addr) (n c : Nat) (RA : Option Addr) (rn rc : Nat) (PA : Option Addr) (pn pc : Nat) (HA : Option Addr) (hn hc : Nat) (S : St) (x k : Int) (w : World) (hR : StR w w.heap.size A n RA rn PA pn HA hn S) (hK : StK n c rn pn hn S) :
    Calls Tryz.prog 48 #[.agg #[.slice A n c, .slice RA rn rc, .slice PA pn pc, .slice HA hn hc], .int .i64 x, .int .i64 k] w fun e w' => Below w.heap.size w w' ∧ e = .returned (.tuple #[.int .u64 (peekO S x k).told, .int .i64 (peekO S x k).er]) ∧ (peekO S x k).st = S := by
  by_cases hE : stE S = 0
  · have hOK := stE_ok.1 hE
    by_cases hp : x ∈ pinsL S.p
    · obtain ⟨y, hy, rfl⟩ := List.mem_map.1 hp
      obtain ⟨s, i, hO⟩ := obj_at hOK (pin_at hy)
      have hs : (spotAt (spotsL S.a) y.loc).getD ⟨0, 0, 0, 0, false⟩ = s := by rw [hO.spot]; rfl
      by_cases hk : k < 0 ∨ s.b ≤ k
      · refine (peek_range A n c RA rn rc PA pn pc HA hn hc S y.loc k s i w hR hK hOK hp hO hk).mono ?_
        rintro e w' ⟨hb, rfl⟩
        have hX : peekO S y.loc k = ⟨S, 0, 4⟩ := by
          unfold peekO
          rw [if_neg (by rw [hE]; decide), if_neg (fun h => h hp), hs, if_pos hk]
        rw [hX]
        exact ⟨hb, rfl, rfl⟩
      · have hfit := hO.ok.fits
        have hr0 := hO.ok.r0
        have hloc := hO.loc
        obtain ⟨K, rfl⟩ := Int.eq_ofNat_of_zero_le (show 0 ≤ k by omega)
        have hl0 := (begs_lt hOK.arena (hOK.live _ (pin_at hy))).1
        have hlen : s.loc.toNat + 1 + s.r.toNat + K < S.a.length := by simp only [Spot.long] at hfit; omega
        have hw := hK.wf _ (List.getElem_mem hlen)
        obtain ⟨v, hv⟩ := Int.eq_ofNat_of_zero_le (show 0 ≤ S.a[s.loc.toNat + 1 + s.r.toNat + K] by simp [Lit.wf, IntKind.min, IntKind.max, IntKind.signed, IntKind.bits] at hw; omega)
        have hv' : (bodyOf S.a s)[(K : Int).toNat]? = some (v : Int) := by rw [Int.toNat_natCast, body_ix (by omega), List.getElem?_eq_getElem hlen, hv]
        refine (peek_ok A n c RA rn rc PA pn pc HA hn hc S y.loc K s i v w hR hK hOK hp hO (by omega) hv').mono ?_
        rintro e w' ⟨hb, rfl⟩
        have hX : peekO S y.loc K = ⟨S, v, 0⟩ := by
          unfold peekO
          rw [if_neg (by rw [hE]; decide), if_neg (fun h => h hp), hs, if_neg hk, List.getD_eq_getElem?_getD, hv']
          rfl
        rw [hX]
        exact ⟨hb, rfl, rfl⟩
    · refine (peek_free A n c RA rn rc PA pn pc HA hn hc S x k w hR hK hOK hp).mono ?_
      rintro e w' ⟨hb, rfl⟩
      have hX : peekO S x k = ⟨S, 0, 8⟩ := by
        unfold peekO
        rw [if_neg (by rw [hE]; decide), if_pos hp]
      rw [hX]
      exact ⟨hb, rfl, rfl⟩
  · refine (peek_bad A n c RA rn rc PA pn pc HA hn hc S x k w hR hK hE).mono ?_
    rintro e w' ⟨hb, rfl⟩
    have hX : peekO S x k = ⟨S, 0, stE S⟩ := if_pos hE
    rw [hX]
    exact ⟨hb, rfl, rfl⟩
end Go.Proofs.YtbmkbnalembbjaaGreatDoor

namespace Go.Proofs.YtbmkbnalembbjaaGreatDoor
open Go.RowKit
def FTab (w : World) : Prop := 0 < w.heap.size ∧ ∀ k i : Nat, k < 14 → i < 4 → w.cell? ⟨0, k * 4 + i, none⟩ = some (.bool (formB k i))
theorem FTab.below {w w' : World} (h : FTab w) (hb : Below w.heap.size w w') : FTab w' := ⟨Nat.lt_of_lt_of_le h.1 hb.size, fun k i hk hi => (hb.cell (p := ⟨0, k * 4 + i, none⟩) h.1).trans (h.2 k i hk hi)⟩
theorem Blk.five {w : World} {g : Nat} {t : TypeId} {a b c d e : Value} (h : Blk w g t #[a, b, c, d, e]) : w.cell? ⟨g, 0, none⟩ = some a ∧ w.cell? ⟨g, 1, none⟩ = some b ∧ w.cell? ⟨g, 2, none⟩ = some c ∧ w.cell? ⟨g, 3, none⟩ = some d ∧ w.cell? ⟨g, 4, none⟩ = some e := ⟨h.cell 0, h.cell 1, h.cell 2, h.cell 3, h.cell 4⟩
set_option maxRecDepth 100000 in
set_option maxHeartbeats 4000000 in
theorem right_any (k a b c v : Int) (w : World) (hT : FTab w) :
    Calls Tryz.prog 38 #[.agg #[.int .i64 k, .int .i64 a, .int .i64 b, .int .i64 c, .int .u64 v]] w fun e w' => Below w.heap.size w w' ∧ e = .returned (.bool (rightB ⟨k, a, b, c, v⟩)) := by
  have hb := below_new w (.cells #[.int .i64 k, .int .i64 a, .int .i64 b, .int .i64 c, .int .u64 v] 52)
  have DO := Blk.new w 52 #[.int .i64 k, .int .i64 a, .int .i64 b, .int .i64 c, .int .u64 v]
  by_cases h1 : k < 1
  · have hX : rightB ⟨k, a, b, c, v⟩ = false := by
      unfold rightB
      rw [show decide ((1 : Int) ≤ k) = false from decide_eq_false (by omega)]
      rfl
    rw [hX]
    have g1 : decide (k < 1) = true := decide_eq_true h1
    obtain ⟨m0, m1, m2, m3, m4⟩ := DO.five
    clear h1 hX
    go_enter Tryz.func38, Tryz.ntmps38
    go_wp2_with fail
    go_ret
    exact ⟨hb, rfl⟩
  · have g1 : decide (k < 1) = false := decide_eq_false h1
    by_cases h2 : 13 < k
    · have hX : rightB ⟨k, a, b, c, v⟩ = false := by
        unfold rightB
        rw [show decide (k ≤ (13 : Int)) = false from decide_eq_false (by omega), Bool.and_false]
        rfl
      rw [hX]
      have g2 : decide (13 < k) = true := decide_eq_true h2
      obtain ⟨m0, m1, m2, m3, m4⟩ := DO.five
      clear h1 h2 hX
      go_enter Tryz.func38, Tryz.ntmps38
      go_wp2_with fail
      go_ret
      exact ⟨hb, rfl⟩
    · obtain ⟨K, rfl⟩ := Int.eq_ofNat_of_zero_le (show 0 ≤ k by omega)
      have g2 : decide ((13 : Int) < (K : Int)) = false := decide_eq_false h2
      have g2' : decide (13 < K) = false := decide_eq_false (by omega)
      have g1' : decide (K < 1) = false := decide_eq_false (by omega)
      have hK : K < 14 := by omega
      have hX : rightB ⟨K, a, b, c, v⟩ = ((formB K 0 || a == 0) && (formB K 1 || b == 0) && (formB K 2 || c == 0) && (formB K 3 || v == 0)) := by
        unfold rightB
        rw [show decide ((1 : Int) ≤ K) = true from decide_eq_true (by omega), show decide ((K : Int) ≤ (13 : Int)) = true from decide_eq_true (by omega), Int.toNat_natCast]
        rfl
      rw [hX]
      have hT1 := hT.below hb
      have f0 := hT1.2 K 0 hK (by decide)
      have f1 := hT1.2 K 1 hK (by decide)
      have f2 := hT1.2 K 2 hK (by decide)
      have f3 := hT1.2 K 3 hK (by decide)
      rw [Nat.add_zero] at f0
      generalize formB K 0 = q0 at *
      generalize formB K 1 = q1 at *
      generalize formB K 2 = q2 at *
      generalize formB K 3 = q3 at *
      have HBf := Lib.hid (fun q0 q1 q2 q3 => hb.alloc hb.size (.cells #[.bool q0, .bool q1, .bool q2, .bool q3] 139))
      have DF := Blk.new (w.alloc (.cells #[.int .i64 (K : Int), .int .i64 a, .int .i64 b, .int .i64 c, .int .u64 v] 52)) 139 #[.bool q0, .bool q1, .bool q2, .bool q3]
      have DO2 := DO.alloc (.cells #[.bool q0, .bool q1, .bool q2, .bool q3] 139)
      rw [World.size_alloc] at DF
      obtain ⟨m0, m1, m2, m3, m4⟩ := DO.five
      obtain ⟨o0, o1, o2, o3, o4⟩ := DO2.five
      obtain ⟨d0, d1, d2, d3⟩ := DF.four
      clear hX h1 h2 hT hT1 DO DO2 DF hb
      go_enter Tryz.func38, Tryz.ntmps38
      go_wp2_with fail
      all_goals try subst_vars
      all_goals first | (go_ret; refine ⟨HBf.out _ _ _ _, ?_⟩; simp_all; done) | skip
set_option maxHeartbeats 1000000 in
theorem only_any (X1 : Option Addr) (a1 b1 : Nat) (X2 : Option Addr) (a2 b2 : Nat) (X3 : Option Addr) (a3 b3 : Nat) (X4 : Option Addr) (a4 b4 : Nat) (E : Int) (w : World) :
    Calls Tryz.prog 40 #[.agg #[.slice X1 a1 b1, .slice X2 a2 b2, .slice X3 a3 b3, .slice X4 a4 b4], .int .i64 E] w fun e w' => Below w.heap.size w w' ∧ e = .returned (.tuple #[.agg #[.slice X1 a1 b1, .slice X2 a2 b2, .slice X3 a3 b3, .slice X4 a4 b4], .int .u64 0, .int .i64 E]) := by
  have hb := (below_new w (.cells #[.slice X1 a1 b1, .slice X2 a2 b2, .slice X3 a3 b3, .slice X4 a4 b4] 28)).alloc (by simp) (.cells #[.slice X1 a1 b1, .slice X2 a2 b2, .slice X3 a3 b3, .slice X4 a4 b4] 28)
  have DS := (Blk.new w 28 #[.slice X1 a1 b1, .slice X2 a2 b2, .slice X3 a3 b3, .slice X4 a4 b4]).alloc (.cells #[.slice none 0 0, .slice none 0 0, .slice none 0 0, .slice none 0 0] 28)
  have DR := Blk.new (w.alloc (.cells #[.slice X1 a1 b1, .slice X2 a2 b2, .slice X3 a3 b3, .slice X4 a4 b4] 28)) 28 #[.slice none 0 0, .slice none 0 0, .slice none 0 0, .slice none 0 0]
  have DZ := Blk.new (w.alloc (.cells #[.slice X1 a1 b1, .slice X2 a2 b2, .slice X3 a3 b3, .slice X4 a4 b4] 28)) 28 #[.slice X1 a1 b1, .slice X2 a2 b2, .slice X3 a3 b3, .slice X4 a4 b4]
  rw [World.size_alloc] at DR DZ
  obtain ⟨s0, s1, s2, s3⟩ := DS.four
  obtain ⟨r0, r1, r2, r3⟩ := DR.four
  obtain ⟨f0, f1, f2, f3⟩ := DR.four_frozen
  go_enter Tryz.func40, Tryz.ntmps40
  go_wp2_with fail
  refine bodyPost_ret (v := .tuple #[.agg #[.slice X1 a1 b1, .slice X2 a2 b2, .slice X3 a3 b3, .slice X4 a4 b4], .int .u64 0, .int .i64 E]) ?_ rfl ⟨hb, rfl⟩
  obtain ⟨z0, z1, z2, z3⟩ := DZ.four
  simp only [results, Tryz.results40]
  go_simp
set_option maxHeartbeats 1000000 in
theorem number_any (X1 : Option Addr) (a1 b1 : Nat) (X2 : Option Addr) (a2 b2 : Nat) (X3 : Option Addr) (a3 b3 : Nat) (X4 : Option Addr) (a4 b4 : Nat) (N : Nat) (E : Int) (hN : N < 18446744073709551616) (w : World) :
    Calls Tryz.prog 39 #[.agg #[.slice X1 a1 b1, .slice X2 a2 b2, .slice X3 a3 b3, .slice X4 a4 b4], .int .i64 N, .int .i64 E] w fun e w' => Below w.heap.size w w' ∧ e = .returned (.tuple #[.agg #[.slice X1 a1 b1, .slice X2 a2 b2, .slice X3 a3 b3, .slice X4 a4 b4], .int .u64 N, .int .i64 E]) := by
  have hw : IntKind.u64.wrap (N : Int) = (N : Int) := IntWalk.u64_in _ (by omega)
  have hb := (below_new w (.cells #[.slice X1 a1 b1, .slice X2 a2 b2, .slice X3 a3 b3, .slice X4 a4 b4] 28)).alloc (by simp) (.cells #[.slice X1 a1 b1, .slice X2 a2 b2, .slice X3 a3 b3, .slice X4 a4 b4] 28)
  have DS := (Blk.new w 28 #[.slice X1 a1 b1, .slice X2 a2 b2, .slice X3 a3 b3, .slice X4 a4 b4]).alloc (.cells #[.slice none 0 0, .slice none 0 0, .slice none 0 0, .slice none 0 0] 28)
  have DR := Blk.new (w.alloc (.cells #[.slice X1 a1 b1, .slice X2 a2 b2, .slice X3 a3 b3, .slice X4 a4 b4] 28)) 28 #[.slice none 0 0, .slice none 0 0, .slice none 0 0, .slice none 0 0]
  have DZ := Blk.new (w.alloc (.cells #[.slice X1 a1 b1, .slice X2 a2 b2, .slice X3 a3 b3, .slice X4 a4 b4] 28)) 28 #[.slice X1 a1 b1, .slice X2 a2 b2, .slice X3 a3 b3, .slice X4 a4 b4]
  rw [World.size_alloc] at DR DZ
  obtain ⟨s0, s1, s2, s3⟩ := DS.four
  obtain ⟨r0, r1, r2, r3⟩ := DR.four
  obtain ⟨f0, f1, f2, f3⟩ := DR.four_frozen
  go_enter Tryz.func39, Tryz.ntmps39
  go_wp2_with fail
  refine bodyPost_ret (v := .tuple #[.agg #[.slice X1 a1 b1, .slice X2 a2 b2, .slice X3 a3 b3, .slice X4 a4 b4], .int .u64 N, .int .i64 E]) ?_ rfl ⟨hb, rfl⟩
  obtain ⟨z0, z1, z2, z3⟩ := DZ.four
  simp only [results, Tryz.results39]
  go_simp
set_option maxRecDepth 100000 in
set_option maxHeartbeats 2000000 in
theorem kept_bad (X1 : Option Addr) (a1 b1 : Nat) (X2 : Option Addr) (a2 b2 : Nat) (X3 : Option Addr) (a3 b3 : Nat) (X4 : Option Addr) (a4 b4 : Nat) (v E : Int) (hE : E ≠ 0) (w : World) :
    Calls Tryz.prog 44 #[.agg #[.slice X1 a1 b1, .slice X2 a2 b2, .slice X3 a3 b3, .slice X4 a4 b4], .int .u64 v, .int .i64 E] w fun e w' => Below w.heap.size w w' ∧ e = .returned (.tuple #[.agg #[.slice none 0 0, .slice none 0 0, .slice none 0 0, .slice none 0 0], .int .u64 0, .int .i64 E]) := by
  have g1 : (E != 0) = true := by simpa using hE
  have hb := (below_new w (.cells #[.slice X1 a1 b1, .slice X2 a2 b2, .slice X3 a3 b3, .slice X4 a4 b4] 28)).alloc (by simp) (.cells #[.slice none 0 0, .slice none 0 0, .slice none 0 0, .slice none 0 0] 28)
  have DS := (Blk.new w 28 #[.slice X1 a1 b1, .slice X2 a2 b2, .slice X3 a3 b3, .slice X4 a4 b4]).alloc (.cells #[.slice none 0 0, .slice none 0 0, .slice none 0 0, .slice none 0 0] 28)
  have DR := Blk.new (w.alloc (.cells #[.slice X1 a1 b1, .slice X2 a2 b2, .slice X3 a3 b3, .slice X4 a4 b4] 28)) 28 #[.slice none 0 0, .slice none 0 0, .slice none 0 0, .slice none 0 0]
  rw [World.size_alloc] at DR
  obtain ⟨s0, s1, s2, s3⟩ := DS.four
  obtain ⟨r0, r1, r2, r3⟩ := DR.four
  obtain ⟨f0, f1, f2, f3⟩ := DR.four_frozen
  go_enter Tryz.func44, Tryz.ntmps44
  go_wp2_with fail
  refine bodyPost_ret (v := .tuple #[.agg #[.slice none 0 0, .slice none 0 0, .slice none 0 0, .slice none 0 0], .int .u64 0, .int .i64 E]) ?_ rfl ⟨hb, rfl⟩
  obtain ⟨z0, z1, z2, z3⟩ := DR.four
  simp only [results, Tryz.results44]
  go_simp
set_option maxRecDepth 100000 in
set_option maxHeartbeats 2000000 in
theorem kept_ok (A : Option Addr) (n c : Nat) (RA : Option Addr) (rn rc : Nat) (PA : Option Addr) (pn pc : Nat) (HA : Option Addr) (hn hc : Nat) (S : St) (v : Int) (w : World) (hR : StR w w.heap.size A n RA rn PA pn HA hn S) (_ : StK n c rn pn hn S) (hOK : StOk S) :
    Calls Tryz.prog 44 #[.agg #[.slice A n c, .slice RA rn rc, .slice PA pn pc, .slice HA hn hc], .int .u64 v, .int .i64 0] w fun e w' => Below w.heap.size w w' ∧ ∃ (B1 : Option Addr) (n1 d1 : Nat) (B2 : Option Addr) (n2 d2 : Nat) (B3 : Option Addr) (n3 d3 : Nat) (B4 : Option Addr) (n4 d4 : Nat), e = .returned (.tuple #[.agg #[.slice B1 n1 d1, .slice B2 n2 d2, .slice B3 n3 d3, .slice B4 n4 d4], .int .u64 v, .int .i64 0]) ∧ StO w' w.heap.size B1 n1 d1 B2 n2 d2 B3 n3 d3 B4 n4 d4 S := by
  obtain ⟨y1, y2, y3, y4, -⟩ := hOK.lens
  obtain ⟨z1, z2, z3, z4⟩ := hR.lens
  have HOw := Lib.hid (fun w hR => pown_any A n c RA rn rc PA pn pc HA hn hc S w hR (by omega) (by omega) (by omega) (by omega))
  have hb := (below_new w (.cells #[.slice A n c, .slice RA rn rc, .slice PA pn pc, .slice HA hn hc] 28)).alloc (by simp) (.cells #[.slice none 0 0, .slice none 0 0, .slice none 0 0, .slice none 0 0] 28)
  have DS := (Blk.new w 28 #[.slice A n c, .slice RA rn rc, .slice PA pn pc, .slice HA hn hc]).alloc (.cells #[.slice none 0 0, .slice none 0 0, .slice none 0 0, .slice none 0 0] 28)
  have DR := Blk.new (w.alloc (.cells #[.slice A n c, .slice RA rn rc, .slice PA pn pc, .slice HA hn hc] 28)) 28 #[.slice none 0 0, .slice none 0 0, .slice none 0 0, .slice none 0 0]
  rw [World.size_alloc] at DR
  obtain ⟨s0, s1, s2, s3⟩ := DS.four
  clear y1 y2 y3 y4 z1 z2 z3 z4
  go_enter Tryz.func44, Tryz.ntmps44
  go_wp2_with fail
  refine (HOw.out _ ((hR.below hb).more hb.size)).mono ?_
  rintro e w2 ⟨hb2, A1, c1, A2, c2, A3, c3, A4, c4, rfl, hO⟩
  have hb02 := below_step hb hb2
  have DR2 := DR.below hb2 DR.lt
  have hO2 := hO.mono hb.size
  clear s0 s1 s2 s3
  obtain ⟨r0, r1, r2, r3⟩ := DR2.four
  obtain ⟨f0, f1, f2, f3⟩ := DR2.four_frozen
  go_wp2_with fail
  refine bodyPost_ret (v := .tuple #[.agg #[.slice A1 n c1, .slice A2 rn c2, .slice A3 pn c3, .slice A4 hn c4], .int .u64 v, .int .i64 0]) ?_ rfl ⟨below_block4 (g := w.heap.size + 1) hb02 (Nat.le_succ _) _ _ _ _, A1, n, c1, A2, rn, c2, A3, pn, c3, A4, hn, c4, rfl, hO2.store DR2 _ _ _ _⟩
  obtain ⟨z0, z1, z2, z3⟩ := (DR2.store4 (.slice A1 n c1) (.slice A2 rn c2) (.slice A3 pn c3) (.slice A4 hn c4)).four
  simp only [results, Tryz.results44]
  go_simp
end Go.Proofs.YtbmkbnalembbjaaGreatDoor
