/-
  Texts joined: QStRef QStLaw3 QStPut.
-/
import Derived.Test.YtbmkbnalembbjaaGreatDoorQ13
import Derived.Test.YtbmkbnalembbjaaGreatDoorQ14
import Derived.Test.YtbmkbnalembbjaaGreatDoorQ16
namespace Go.Proofs.YtbmkbnalembbjaaGreatDoor
open Go.RowKit
def spS (S : St) (slot : Int) : Spot := (spotAt (spotsL S.a) (S.r.getD slot.toNat 0)).getD ⟨0, 0, 0, 0, false⟩
def refE (S : St) (slot k other : Int) : Int := if objE S slot ≠ 0 then objE S slot else if k < 0 ∨ (spS S slot).r ≤ k then 4 else if other < 0 ∨ (S.r.length : Int) ≤ other then 5 else 0
def bodyE (S : St) (slot k : Int) : Int := if objE S slot ≠ 0 then objE S slot else if k < 0 ∨ (spS S slot).b ≤ k then 4 else 0
theorem spS_at {S : St} {k : Nat} {x : Int} {s : Spot} {i : Nat} (hx : S.r[k]? = some x) (hO : ObjAt S x s i) : spS S k = s := by
  unfold spS
  rw [List.getD_eq_getElem?_getD, Int.toNat_natCast, hx]
  simp only [Option.getD_some]
  rw [hO.spot]
  rfl
theorem root_obj {S : St} {slot : Int} (h : objE S slot = 0) : StOk S ∧ ∃ (k X : Nat) (s : Spot) (i : Nat), slot = k ∧ S.r[k]? = some (X : Int) ∧ ObjAt S X s i ∧ spS S slot = s ∧ X < S.a.length ∧ (X : Int) + s.long ≤ S.a.length := by
  obtain ⟨hOK, k, x, rfl, hx, h0⟩ := objE_ok h
  have hb := root_at (List.mem_of_getElem? hx) h0
  obtain ⟨s, i, hO⟩ := obj_at hOK hb
  obtain ⟨X, rfl⟩ := Int.eq_ofNat_of_zero_le h0
  have h1 := begs_lt hOK.arena (hOK.live _ hb)
  have h2 := hO.ok.fits
  rw [hO.loc] at h2
  exact ⟨hOK, k, X, s, i, rfl, hx, hO, spS_at hx hO, by omega, h2⟩
set_option maxRecDepth 100000 in
set_option maxHeartbeats 4000000 in
theorem ref_ok (A : Option Addr) (n c : Nat) (RA : Option Addr) (rn rc : Nat) (PA : Option Addr) (pn pc : Nat) (HA : Option Addr) (hn hc : Nat) (S : St) (k X K O : Nat) (s : Spot) (i : Nat) (w : World) (hR : StR w w.heap.size A n RA rn PA pn HA hn S) (hK : StK n c rn pn hn S) (hOK : StOk S) (hx : S.r[k]? = some (X : Int)) (hO : ObjAt S X s i) (hk : (K : Int) < s.r) (ho : O < S.r.length) :
    Calls Tryz.prog 74 #[.agg #[.slice A n c, .slice RA rn rc, .slice PA pn pc, .slice HA hn hc], .int .i64 k, .int .i64 K, .int .i64 O] w fun e w' => Below w.heap.size w w' ∧ e = .returned (.tuple #[.int .i64 (X + 1 + K : Nat), .int .i64 0]) := by
  have HOb := Lib.hid (fun w hR => object_ok A n c RA rn rc PA pn pc HA hn hc S k X s i w hR hK hOK hx (by omega) hO)
  have hfit := hO.ok.fits
  have hr0 := hO.ok.r0
  have hb0 := hO.ok.b0
  have hlen := (parse_ok (checkE_ok.1 hOK.arena).1).1
  rw [hO.loc] at hfit
  unfold Spot.long at hfit
  obtain ⟨-, hl2, -, -⟩ := hR.lens
  obtain ⟨q1, hq1⟩ : ∃ q : Nat, q = s.r.toNat := ⟨_, rfl⟩
  obtain ⟨q2, hq2⟩ : ∃ q : Nat, q = s.b.toNat := ⟨_, rfl⟩
  rw [← hq1, ← hq2] at HOb
  have g1 : decide ((K : Int) < 0) = false := decide_eq_false (by omega)
  have g2 : decide (q1 ≤ K) = false := decide_eq_false (by omega)
  have g3 : decide ((O : Int) < 0) = false := decide_eq_false (by omega)
  have g4 : decide (rn ≤ O) = false := decide_eq_false (by omega)
  obtain ⟨X1, hX1⟩ : ∃ y : Nat, y = X + 1 := ⟨_, rfl⟩
  obtain ⟨p, hp⟩ : ∃ y : Nat, y = X1 + K := ⟨_, rfl⟩
  have hw1 : IntKind.i64.wrap ((X : Int) + 1) = X1 := (IntWalk.i64_in _ (by omega)).trans (by omega)
  have hw2 : IntKind.i64.wrap ((X1 : Int) + K) = p := (IntWalk.i64_in _ (by omega)).trans (by omega)
  have HP : X + 1 + K = p := by omega
  rw [HP]
  clear hX1 hp hq1 hq2 hfit hr0 hb0 hlen hl2 ho hk HP
  generalize s.t = t at *
  generalize (refIx (spotsL S.a) S.a s).map (Value.int .i64) = l1 at *
  generalize (bodyOf S.a s).map (Value.int .u64) = l2 at *
  have hb1 := below_new w (.cells #[.slice A n c, .slice RA rn rc, .slice PA pn pc, .slice HA hn hc] 28)
  have DS := Blk.new w 28 #[.slice A n c, .slice RA rn rc, .slice PA pn pc, .slice HA hn hc]
  obtain ⟨s0, s1, s2, s3⟩ := DS.four
  clear hO hOK hx
  go_enter Tryz.func74, Tryz.ntmps74
  go_wp2_with fail
  refine (HOb.out _ ((hR.below hb1).more hb1.size)).mono ?_
  rintro e w2 ⟨hb2, A1, c1, A2, c2, rfl, -, -⟩
  have hb02 := below_step hb1 hb2
  have hb03 := hb02.alloc hb02.size (.cells #[.int .i64 t, .slice A1 q1 c1, .slice A2 q2 c2, .bool false] 113)
  have DS := (DS.below hb2 DS.lt).alloc (.cells #[.int .i64 t, .slice A1 q1 c1, .slice A2 q2 c2, .bool false] 113)
  have DG := Blk.new w2 113 #[.int .i64 t, .slice A1 q1 c1, .slice A2 q2 c2, .bool false]
  clear s0 s1 s2 s3 HOb
  obtain ⟨s0, s1, s2, s3⟩ := DS.four
  obtain ⟨d0, d1, d2, d3⟩ := DG.four
  go_wp2_with fail
  go_ret2
  exact ⟨hb03, by first | rfl | (congr 3; omega)⟩
set_option maxRecDepth 100000 in
set_option maxHeartbeats 4000000 in
theorem body_ok (A : Option Addr) (n c : Nat) (RA : Option Addr) (rn rc : Nat) (PA : Option Addr) (pn pc : Nat) (HA : Option Addr) (hn hc : Nat) (S : St) (k X K : Nat) (s : Spot) (i : Nat) (w : World) (hR : StR w w.heap.size A n RA rn PA pn HA hn S) (hK : StK n c rn pn hn S) (hOK : StOk S) (hx : S.r[k]? = some (X : Int)) (hO : ObjAt S X s i) (hk : (K : Int) < s.b) :
    Calls Tryz.prog 75 #[.agg #[.slice A n c, .slice RA rn rc, .slice PA pn pc, .slice HA hn hc], .int .i64 k, .int .i64 K] w fun e w' => Below w.heap.size w w' ∧ e = .returned (.tuple #[.int .i64 (X + 1 + s.r.toNat + K : Nat), .int .i64 0]) := by
  have HOb := Lib.hid (fun w hR => object_ok A n c RA rn rc PA pn pc HA hn hc S k X s i w hR hK hOK hx (by omega) hO)
  have hfit := hO.ok.fits
  have hr0 := hO.ok.r0
  have hb0 := hO.ok.b0
  have hlen := (parse_ok (checkE_ok.1 hOK.arena).1).1
  rw [hO.loc] at hfit
  unfold Spot.long at hfit
  obtain ⟨-, hl2, -, -⟩ := hR.lens
  obtain ⟨q1, hq1⟩ : ∃ q : Nat, q = s.r.toNat := ⟨_, rfl⟩
  obtain ⟨q2, hq2⟩ : ∃ q : Nat, q = s.b.toNat := ⟨_, rfl⟩
  rw [← hq1, ← hq2] at HOb
  have g1 : decide ((K : Int) < 0) = false := decide_eq_false (by omega)
  have g2 : decide (q2 ≤ K) = false := decide_eq_false (by omega)
  obtain ⟨X1, hX1⟩ : ∃ y : Nat, y = X + 1 := ⟨_, rfl⟩
  obtain ⟨X2, hX2⟩ : ∃ y : Nat, y = X1 + q1 := ⟨_, rfl⟩
  obtain ⟨p, hp⟩ : ∃ y : Nat, y = X2 + K := ⟨_, rfl⟩
  have hw1 : IntKind.i64.wrap ((X : Int) + 1) = X1 := (IntWalk.i64_in _ (by omega)).trans (by omega)
  have hw2 : IntKind.i64.wrap ((X1 : Int) + q1) = X2 := (IntWalk.i64_in _ (by omega)).trans (by omega)
  have hw3 : IntKind.i64.wrap ((X2 : Int) + K) = p := (IntWalk.i64_in _ (by omega)).trans (by omega)
  have HP : X + 1 + s.r.toNat + K = p := by omega
  rw [HP]
  clear hX1 hX2 hp hq1 hq2 hfit hr0 hb0 hlen hl2 hk HP
  generalize s.t = t at *
  generalize (refIx (spotsL S.a) S.a s).map (Value.int .i64) = l1 at *
  generalize (bodyOf S.a s).map (Value.int .u64) = l2 at *
  have hb1 := below_new w (.cells #[.slice A n c, .slice RA rn rc, .slice PA pn pc, .slice HA hn hc] 28)
  have DS := Blk.new w 28 #[.slice A n c, .slice RA rn rc, .slice PA pn pc, .slice HA hn hc]
  obtain ⟨s0, s1, s2, s3⟩ := DS.four
  clear hO hOK hx
  go_enter Tryz.func75, Tryz.ntmps75
  go_wp2_with fail
  refine (HOb.out _ ((hR.below hb1).more hb1.size)).mono ?_
  rintro e w2 ⟨hb2, A1, c1, A2, c2, rfl, -, -⟩
  have hb02 := below_step hb1 hb2
  have hb03 := hb02.alloc hb02.size (.cells #[.int .i64 t, .slice A1 q1 c1, .slice A2 q2 c2, .bool false] 113)
  have DS := (DS.below hb2 DS.lt).alloc (.cells #[.int .i64 t, .slice A1 q1 c1, .slice A2 q2 c2, .bool false] 113)
  have DG := Blk.new w2 113 #[.int .i64 t, .slice A1 q1 c1, .slice A2 q2 c2, .bool false]
  clear s0 s1 s2 s3 HOb
  obtain ⟨s0, s1, s2, s3⟩ := DS.four
  obtain ⟨d0, d1, d2, d3⟩ := DG.four
  go_wp2_with fail
  go_ret2
  exact ⟨hb03, by first | rfl | (congr 3; omega)⟩
set_option maxRecDepth 100000 in
set_option maxHeartbeats 4000000 in
theorem ref_bad (A : Option Addr) (n c : Nat) (RA : Option Addr) (rn rc : Nat) (PA : Option Addr) (pn pc : Nat) (HA : Option Addr) (hn hc : Nat) (S : St) (slot k other : Int) (w : World) (hR : StR w w.heap.size A n RA rn PA pn HA hn S) (hK : StK n c rn pn hn S) (hE : refE S slot k other ≠ 0) :
    Calls Tryz.prog 74 #[.agg #[.slice A n c, .slice RA rn rc, .slice PA pn pc, .slice HA hn hc], .int .i64 slot, .int .i64 k, .int .i64 other] w fun e w' => Below w.heap.size w w' ∧ e = .returned (.tuple #[.int .i64 0, .int .i64 (refE S slot k other)]) := by
  obtain ⟨-, hl2, -, -⟩ := hR.lens
  have hb1 := below_new w (.cells #[.slice A n c, .slice RA rn rc, .slice PA pn pc, .slice HA hn hc] 28)
  have DS := Blk.new w 28 #[.slice A n c, .slice RA rn rc, .slice PA pn pc, .slice HA hn hc]
  obtain ⟨s0, s1, s2, s3⟩ := DS.four
  by_cases h0 : objE S slot = 0
  · obtain ⟨hOK, k', X, s, i, rfl, hx, hO, hsp, -, -⟩ := root_obj h0
    have HOb := Lib.hid (fun w hR => object_ok A n c RA rn rc PA pn pc HA hn hc S k' X s i w hR hK hOK hx (by omega) hO)
    have hr0 := hO.ok.r0
    have hb0 := hO.ok.b0
    obtain ⟨q1, HQ1⟩ : ∃ q : Nat, Hid (q = s.r.toNat) := ⟨_, rfl⟩
    obtain ⟨q2, HQ2⟩ : ∃ q : Nat, Hid (q = s.b.toNat) := ⟨_, rfl⟩
    rw [← HQ1.out, ← HQ2.out] at HOb
    generalize s.t = t at *
    generalize (refIx (spotsL S.a) S.a s).map (Value.int .i64) = l1 at *
    generalize (bodyOf S.a s).map (Value.int .u64) = l2 at *
    have HX := Lib.hid hE
    unfold refE at hE HX
    unfold refE
    rw [if_neg (by simp [h0]), hsp] at hE ⊢
    by_cases h1 : k < 0
    · rw [if_pos (.inl h1)]
      have g1 : decide (k < 0) = true := decide_eq_true h1
      clear h1
      clear hO hOK hx hsp hE HX
      go_enter Tryz.func74, Tryz.ntmps74
      go_wp2_with fail
      refine (HOb.out _ ((hR.below hb1).more hb1.size)).mono ?_
      rintro e w2 ⟨hb2, A1, c1, A2, c2, rfl, -, -⟩
      have hb02 := below_step hb1 hb2
      have hb03 := hb02.alloc hb02.size (.cells #[.int .i64 t, .slice A1 q1 c1, .slice A2 q2 c2, .bool false] 113)
      have DS := (DS.below hb2 DS.lt).alloc (.cells #[.int .i64 t, .slice A1 q1 c1, .slice A2 q2 c2, .bool false] 113)
      have DG := Blk.new w2 113 #[.int .i64 t, .slice A1 q1 c1, .slice A2 q2 c2, .bool false]
      clear s0 s1 s2 s3
      obtain ⟨s0, s1, s2, s3⟩ := DS.four
      obtain ⟨d0, d1, d2, d3⟩ := DG.four
      go_wp2_with fail
      go_ret2
      exact ⟨hb03, rfl⟩
    · have g1 : decide (k < 0) = false := decide_eq_false h1
      obtain ⟨K, rfl⟩ := Int.eq_ofNat_of_zero_le (show 0 ≤ k by omega)
      by_cases h2 : s.r ≤ K
      · rw [if_pos (.inr h2)]
        have g2 : decide (q1 ≤ K) = true := decide_eq_true (by have := HQ1.out; have := HQ2.out; omega)
        have g2' : decide ((q1 : Int) ≤ (K : Int)) = true := decide_eq_true (by have := HQ1.out; have := HQ2.out; omega)
        clear h1 h2
        clear hO hOK hx hsp hE HX
        go_enter Tryz.func74, Tryz.ntmps74
        go_wp2_with fail
        refine (HOb.out _ ((hR.below hb1).more hb1.size)).mono ?_
        rintro e w2 ⟨hb2, A1, c1, A2, c2, rfl, -, -⟩
        have hb02 := below_step hb1 hb2
        have hb03 := hb02.alloc hb02.size (.cells #[.int .i64 t, .slice A1 q1 c1, .slice A2 q2 c2, .bool false] 113)
        have DS := (DS.below hb2 DS.lt).alloc (.cells #[.int .i64 t, .slice A1 q1 c1, .slice A2 q2 c2, .bool false] 113)
        have DG := Blk.new w2 113 #[.int .i64 t, .slice A1 q1 c1, .slice A2 q2 c2, .bool false]
        clear s0 s1 s2 s3
        obtain ⟨s0, s1, s2, s3⟩ := DS.four
        obtain ⟨d0, d1, d2, d3⟩ := DG.four
        go_wp2_with fail
        go_ret2
        exact ⟨hb03, rfl⟩
      · rw [if_neg (by omega)] at hE ⊢
        have g2 : decide (q1 ≤ K) = false := decide_eq_false (by have := HQ1.out; have := HQ2.out; omega)
        have g2' : decide ((q1 : Int) ≤ (K : Int)) = false := decide_eq_false (by have := HQ1.out; have := HQ2.out; omega)
        by_cases h3 : other < 0
        · rw [if_pos (.inl h3)]
          have g3 : decide (other < 0) = true := decide_eq_true h3
          clear h1 h2 h3
          clear hO hOK hx hsp hE HX
          go_enter Tryz.func74, Tryz.ntmps74
          go_wp2_with fail
          refine (HOb.out _ ((hR.below hb1).more hb1.size)).mono ?_
          rintro e w2 ⟨hb2, A1, c1, A2, c2, rfl, -, -⟩
          have hb02 := below_step hb1 hb2
          have hb03 := hb02.alloc hb02.size (.cells #[.int .i64 t, .slice A1 q1 c1, .slice A2 q2 c2, .bool false] 113)
          have DS := (DS.below hb2 DS.lt).alloc (.cells #[.int .i64 t, .slice A1 q1 c1, .slice A2 q2 c2, .bool false] 113)
          have DG := Blk.new w2 113 #[.int .i64 t, .slice A1 q1 c1, .slice A2 q2 c2, .bool false]
          clear s0 s1 s2 s3
          obtain ⟨s0, s1, s2, s3⟩ := DS.four
          obtain ⟨d0, d1, d2, d3⟩ := DG.four
          go_wp2_with fail
          go_ret2
          exact ⟨hb03, rfl⟩
        · have g3 : decide (other < 0) = false := decide_eq_false h3
          obtain ⟨O, rfl⟩ := Int.eq_ofNat_of_zero_le (show 0 ≤ other by omega)
          by_cases h4 : rn ≤ O
          · rw [if_pos (.inr (by omega))]
            have g4 : decide (rn ≤ O) = true := decide_eq_true h4
            have g4' : decide ((rn : Int) ≤ (O : Int)) = true := decide_eq_true (by omega)
            clear h1 h2 h3 h4
            clear hO hOK hx hsp hE HX
            go_enter Tryz.func74, Tryz.ntmps74
            go_wp2_with fail
            refine (HOb.out _ ((hR.below hb1).more hb1.size)).mono ?_
            rintro e w2 ⟨hb2, A1, c1, A2, c2, rfl, -, -⟩
            have hb02 := below_step hb1 hb2
            have hb03 := hb02.alloc hb02.size (.cells #[.int .i64 t, .slice A1 q1 c1, .slice A2 q2 c2, .bool false] 113)
            have DS := (DS.below hb2 DS.lt).alloc (.cells #[.int .i64 t, .slice A1 q1 c1, .slice A2 q2 c2, .bool false] 113)
            have DG := Blk.new w2 113 #[.int .i64 t, .slice A1 q1 c1, .slice A2 q2 c2, .bool false]
            clear s0 s1 s2 s3
            obtain ⟨s0, s1, s2, s3⟩ := DS.four
            obtain ⟨d0, d1, d2, d3⟩ := DG.four
            go_wp2_with fail
            go_ret2
            exact ⟨hb03, rfl⟩
          · rw [if_neg (by omega)] at hE
            exact absurd rfl hE
  · have HOb := Lib.hid (fun w hR => object_bad A n c RA rn rc PA pn pc HA hn hc S slot w hR hK h0)
    have hX : refE S slot k other = objE S slot := by unfold refE; rw [if_pos h0]
    rw [hX]
    have g1 : (objE S slot != 0) = true := by simpa using h0
    generalize objE S slot = F at *
    clear hE hX h0
    go_enter Tryz.func74, Tryz.ntmps74
    go_wp2_with fail
    refine (HOb.out _ ((hR.below hb1).more hb1.size)).mono ?_
    rintro e w2 ⟨hb2, rfl⟩
    have hb02 := below_step hb1 hb2
    have hb03 := hb02.alloc hb02.size (.cells #[.int .i64 0, .slice none 0 0, .slice none 0 0, .bool false] 113)
    go_wp2_with fail
    go_ret2
    exact ⟨hb03, rfl⟩
set_option maxRecDepth 100000 in
set_option maxHeartbeats 4000000 in
theorem body_bad (A : Option Addr) (n c : Nat) (RA : Option Addr) (rn rc : Nat) (PA : Option Addr) (pn pc : Nat) (HA : Option Addr) (hn hc : Nat) (S : St) (slot k : Int) (w : World) (hR : StR w w.heap.size A n RA rn PA pn HA hn S) (hK : StK n c rn pn hn S) (hE : bodyE S slot k ≠ 0) :
    Calls Tryz.prog 75 #[.agg #[.slice A n c, .slice RA rn rc, .slice PA pn pc, .slice HA hn hc], .int .i64 slot, .int .i64 k] w fun e w' => Below w.heap.size w w' ∧ e = .returned (.tuple #[.int .i64 0, .int .i64 (bodyE S slot k)]) := by
  obtain ⟨-, hl2, -, -⟩ := hR.lens
  have hb1 := below_new w (.cells #[.slice A n c, .slice RA rn rc, .slice PA pn pc, .slice HA hn hc] 28)
  have DS := Blk.new w 28 #[.slice A n c, .slice RA rn rc, .slice PA pn pc, .slice HA hn hc]
  obtain ⟨s0, s1, s2, s3⟩ := DS.four
  by_cases h0 : objE S slot = 0
  · obtain ⟨hOK, k', X, s, i, rfl, hx, hO, hsp, -, -⟩ := root_obj h0
    have HOb := Lib.hid (fun w hR => object_ok A n c RA rn rc PA pn pc HA hn hc S k' X s i w hR hK hOK hx (by omega) hO)
    have hr0 := hO.ok.r0
    have hb0 := hO.ok.b0
    obtain ⟨q1, HQ1⟩ : ∃ q : Nat, Hid (q = s.r.toNat) := ⟨_, rfl⟩
    obtain ⟨q2, HQ2⟩ : ∃ q : Nat, Hid (q = s.b.toNat) := ⟨_, rfl⟩
    rw [← HQ1.out, ← HQ2.out] at HOb
    generalize s.t = t at *
    generalize (refIx (spotsL S.a) S.a s).map (Value.int .i64) = l1 at *
    generalize (bodyOf S.a s).map (Value.int .u64) = l2 at *
    have HX := Lib.hid hE
    unfold bodyE at hE HX
    unfold bodyE
    rw [if_neg (by simp [h0]), hsp] at hE ⊢
    by_cases h1 : k < 0
    · rw [if_pos (.inl h1)]
      have g1 : decide (k < 0) = true := decide_eq_true h1
      clear h1
      clear hO hOK hx hsp hE HX
      go_enter Tryz.func75, Tryz.ntmps75
      go_wp2_with fail
      refine (HOb.out _ ((hR.below hb1).more hb1.size)).mono ?_
      rintro e w2 ⟨hb2, A1, c1, A2, c2, rfl, -, -⟩
      have hb02 := below_step hb1 hb2
      have hb03 := hb02.alloc hb02.size (.cells #[.int .i64 t, .slice A1 q1 c1, .slice A2 q2 c2, .bool false] 113)
      have DS := (DS.below hb2 DS.lt).alloc (.cells #[.int .i64 t, .slice A1 q1 c1, .slice A2 q2 c2, .bool false] 113)
      have DG := Blk.new w2 113 #[.int .i64 t, .slice A1 q1 c1, .slice A2 q2 c2, .bool false]
      clear s0 s1 s2 s3
      obtain ⟨s0, s1, s2, s3⟩ := DS.four
      obtain ⟨d0, d1, d2, d3⟩ := DG.four
      go_wp2_with fail
      go_ret2
      exact ⟨hb03, rfl⟩
    · have g1 : decide (k < 0) = false := decide_eq_false h1
      obtain ⟨K, rfl⟩ := Int.eq_ofNat_of_zero_le (show 0 ≤ k by omega)
      by_cases h2 : s.b ≤ K
      · rw [if_pos (.inr h2)]
        have g2 : decide (q2 ≤ K) = true := decide_eq_true (by have := HQ1.out; have := HQ2.out; omega)
        have g2' : decide ((q2 : Int) ≤ (K : Int)) = true := decide_eq_true (by have := HQ1.out; have := HQ2.out; omega)
        clear h1 h2
        clear hO hOK hx hsp hE HX
        go_enter Tryz.func75, Tryz.ntmps75
        go_wp2_with fail
        refine (HOb.out _ ((hR.below hb1).more hb1.size)).mono ?_
        rintro e w2 ⟨hb2, A1, c1, A2, c2, rfl, -, -⟩
        have hb02 := below_step hb1 hb2
        have hb03 := hb02.alloc hb02.size (.cells #[.int .i64 t, .slice A1 q1 c1, .slice A2 q2 c2, .bool false] 113)
        have DS := (DS.below hb2 DS.lt).alloc (.cells #[.int .i64 t, .slice A1 q1 c1, .slice A2 q2 c2, .bool false] 113)
        have DG := Blk.new w2 113 #[.int .i64 t, .slice A1 q1 c1, .slice A2 q2 c2, .bool false]
        clear s0 s1 s2 s3
        obtain ⟨s0, s1, s2, s3⟩ := DS.four
        obtain ⟨d0, d1, d2, d3⟩ := DG.four
        go_wp2_with fail
        go_ret2
        exact ⟨hb03, rfl⟩
      · rw [if_neg (by omega)] at hE
        exact absurd rfl hE
  · have HOb := Lib.hid (fun w hR => object_bad A n c RA rn rc PA pn pc HA hn hc S slot w hR hK h0)
    have hX : bodyE S slot k = objE S slot := by unfold bodyE; rw [if_pos h0]
    rw [hX]
    have g1 : (objE S slot != 0) = true := by simpa using h0
    generalize objE S slot = F at *
    clear hE hX h0
    go_enter Tryz.func75, Tryz.ntmps75
    go_wp2_with fail
    refine (HOb.out _ ((hR.below hb1).more hb1.size)).mono ?_
    rintro e w2 ⟨hb2, rfl⟩
    have hb02 := below_step hb1 hb2
    have hb03 := hb02.alloc hb02.size (.cells #[.int .i64 0, .slice none 0 0, .slice none 0 0, .bool false] 113)
    go_wp2_with fail
    go_ret2
    exact ⟨hb03, rfl⟩
end Go.Proofs.YtbmkbnalembbjaaGreatDoor

namespace Go.Proofs.YtbmkbnalembbjaaGreatDoor
open Go.RowKit
theorem refE_zero {S : St} {slot k other : Int} (h : refE S slot k other = 0) : StOk S ∧ ∃ (k' X K O : Nat) (s : Spot) (i : Nat), slot = k' ∧ k = K ∧ other = O ∧ S.r[k']? = some (X : Int) ∧ ObjAt S X s i ∧ (K : Int) < s.r ∧ O < S.r.length := by
  unfold refE at h
  split at h
  · rename_i h0; exact absurd h h0
  · rename_i h0
    obtain ⟨hOK, k', X, s, i, rfl, hx, hO, hsp, -, -⟩ := root_obj (by simpa using h0)
    rw [hsp] at h
    split at h
    · cases h
    · split at h
      · cases h
      · exact ⟨hOK, k', X, k.toNat, other.toNat, s, i, rfl, by omega, by omega, hx, hO, by omega, by omega⟩
theorem bodyE_zero {S : St} {slot k : Int} (h : bodyE S slot k = 0) : StOk S ∧ ∃ (k' X K : Nat) (s : Spot) (i : Nat), slot = k' ∧ k = K ∧ S.r[k']? = some (X : Int) ∧ ObjAt S X s i ∧ (K : Int) < s.b := by
  unfold bodyE at h
  split at h
  · rename_i h0; exact absurd h h0
  · rename_i h0
    obtain ⟨hOK, k', X, s, i, rfl, hx, hO, hsp, -, -⟩ := root_obj (by simpa using h0)
    rw [hsp] at h
    split at h
    · cases h
    · exact ⟨hOK, k', X, k.toNat, s, i, rfl, by omega, hx, hO, by omega⟩
theorem place_begs {S : List Spot} {y : Int} (h : y = -1 ∨ y ∈ begsL S) : (placeF S (y + 1)).isSome = true := by
  rw [placeC_some]
  rcases h with rfl | h
  · exact .inl rfl
  · right
    obtain ⟨s, hs, rfl⟩ := List.mem_map.1 h
    obtain ⟨h1, h2⟩ := List.mem_filter.1 hs
    refine ⟨s, h1, ?_⟩
    unfold isPlace
    rw [h2]
    simp
theorem root_val {S : St} (hS : StOk S) {y : Int} (hy : y ∈ S.r) : (y = -1 ∨ y ∈ begsL (spotsL S.a)) ∧ -1 ≤ y ∧ y ≤ 256 := by
  obtain ⟨h1, h2, h3, h4⟩ := rootE_ok hS.roots
  have h5 := h4 y hy
  refine ⟨?_, by omega, by omega⟩
  by_cases h0 : 0 ≤ y
  · exact .inr (hS.live _ (root_at hy h0))
  · exact .inl (by omega)
theorem StOk.same {S : St} (h : StOk S) {a' : List Int} (hc : checkE a' = 0) (hl : a'.length = S.a.length) (hs : spotsL a' = spotsL S.a) : StOk ⟨a', S.r, S.p, S.l⟩ :=
  ⟨hc, by show rootE S.r a'.length = 0; rw [hl]; exact h.roots, h.pins, h.hands, fun x hx => by show x ∈ begsL (spotsL a'); rw [hs]; exact h.live x hx⟩
theorem ObjAt.same {S S' : St} {x : Int} {s : Spot} {i : Nat} (h : ObjAt S x s i) (hs : spotsL S'.a = spotsL S.a) (hS : StOk S') : ObjAt S' x s i := by
  refine ⟨?_, by rw [hs]; exact h.at_, by rw [hs]; exact h.spot, ?_, h.loc, h.free⟩
  · have := h.ix
    unfold atIx at this ⊢
    rw [hs]
    exact this
  · exact ((parse_mem (parse_ok (checkE_ok.1 hS.arena).1).2) s (by rw [hs]; exact List.mem_of_getElem? h.at_)).1
theorem put_law {S : St} (hS : StOk S) {X K : Nat} {s : Spot} {i : Nat} (hO : ObjAt S X s i) (hk : (K : Int) < s.b) (v : Int) :
    StOk ⟨S.a.set (X + 1 + s.r.toNat + K) v, S.r, S.p, S.l⟩ ∧ PaySet S.a (S.a.set (X + 1 + s.r.toNat + K) v) s (s.r.toNat + K) v := by
  have hr := hO.ok.r0
  have hm := List.mem_of_getElem? hO.at_
  have h1 := pay_set (checkE_ok.1 hS.arena).1 hm (j := s.r.toNat + K) (by omega) v
  have hloc : s.loc.toNat = X := by rw [hO.loc]; rfl
  rw [hloc, ← Nat.add_assoc] at h1
  exact ⟨hS.same (h1.check hS.arena hm (fun h => by omega)) h1.len h1.spots, h1⟩
theorem set_law {S : St} (hS : StOk S) {X K : Nat} {s : Spot} {i : Nat} (hO : ObjAt S X s i) (hk : (K : Int) < s.r) {y : Int} (hy : y = -1 ∨ y ∈ begsL (spotsL S.a)) :
    StOk ⟨S.a.set (X + 1 + K) (y + 1), S.r, S.p, S.l⟩ ∧ PaySet S.a (S.a.set (X + 1 + K) (y + 1)) s K (y + 1) := by
  have hb := hO.ok.b0
  have hm := List.mem_of_getElem? hO.at_
  have h1 := pay_set (checkE_ok.1 hS.arena).1 hm (j := K) (by omega) (y + 1)
  have hloc : s.loc.toNat = X := by rw [hO.loc]; rfl
  rw [hloc] at h1
  exact ⟨hS.same (h1.check hS.arena hm (fun _ => place_begs hy)) h1.len h1.spots, h1⟩
theorem wf_set {a : List Int} (h : ∀ x ∈ a, (Lit.int .u64 x).wf = true) {p : Nat} {v : Int} (hv : (Lit.int .u64 v).wf = true) : ∀ x ∈ a.set p v, (Lit.int .u64 x).wf = true := fun x hx => by
  rcases List.mem_or_eq_of_mem_set hx with hx | rfl
  · exact h x hx
  · exact hv
end Go.Proofs.YtbmkbnalembbjaaGreatDoor

namespace Go.Proofs.YtbmkbnalembbjaaGreatDoor
open Go.RowKit
set_option maxRecDepth 100000 in
set_option maxHeartbeats 4000000 in
theorem get_ok (A : Option Addr) (n c : Nat) (RA : Option Addr) (rn rc : Nat) (PA : Option Addr) (pn pc : Nat) (HA : Option Addr) (hn hc : Nat) (S : St) (k X K v : Nat) (s : Spot) (i : Nat) (w : World) (hR : StR w w.heap.size A n RA rn PA pn HA hn S) (hK : StK n c rn pn hn S) (hOK : StOk S) (hx : S.r[k]? = some (X : Int)) (hO : ObjAt S X s i) (hk : (K : Int) < s.b) (hv : S.a[X + 1 + s.r.toNat + K]? = some (v : Int)) :
    Calls Tryz.prog 43 #[.agg #[.slice A n c, .slice RA rn rc, .slice PA pn pc, .slice HA hn hc], .int .i64 k, .int .i64 K] w fun e w' => Below w.heap.size w w' ∧ e = .returned (.tuple #[.int .u64 v, .int .i64 0]) := by
  obtain ⟨z1, z2, z3, z4⟩ := hR.lens
  have HB := Lib.hid (fun w hR => body_ok A n c RA rn rc PA pn pc HA hn hc S k X K s i w hR hK hOK hx hO hk)
  generalize X + 1 + s.r.toNat + K = p at *
  have hpn : p < n := by have := (List.getElem?_eq_some_iff.1 hv).1; omega
  have HV := Lib.hid hv
  clear hv hO hOK hx hk z1 z2 z3 z4
  have hb1 := below_new w (.cells #[.slice A n c, .slice RA rn rc, .slice PA pn pc, .slice HA hn hc] 28)
  have DS := Blk.new w 28 #[.slice A n c, .slice RA rn rc, .slice PA pn pc, .slice HA hn hc]
  obtain ⟨s0, s1, s2, s3⟩ := DS.four
  go_enter Tryz.func43, Tryz.ntmps43
  go_wp2_with fail
  refine (HB.out _ ((hR.below hb1).more hb1.size)).mono ?_
  rintro e w2 ⟨hb2, rfl⟩
  have hb02 := below_step hb1 hb2
  have DS2 := DS.below hb2 DS.lt
  clear s0 s1 s2 s3
  obtain ⟨s0, s1, s2, s3⟩ := DS2.four
  obtain ⟨ad, u, rfl, had, hu, cu⟩ := (hR.a.below hb02).num hpn
  obtain rfl : u = v := Option.some.inj (hu.symm.trans HV.out)
  clear hu
  go_wp2_with fail
  go_ret2
  exact ⟨hb02, rfl⟩
set_option maxRecDepth 100000 in
set_option maxHeartbeats 4000000 in
theorem get_bad (A : Option Addr) (n c : Nat) (RA : Option Addr) (rn rc : Nat) (PA : Option Addr) (pn pc : Nat) (HA : Option Addr) (hn hc : Nat) (S : St) (slot k : Int) (w : World) (hR : StR w w.heap.size A n RA rn PA pn HA hn S) (hK : StK n c rn pn hn S) (hE : bodyE S slot k ≠ 0) :
    Calls Tryz.prog 43 #[.agg #[.slice A n c, .slice RA rn rc, .slice PA pn pc, .slice HA hn hc], .int .i64 slot, .int .i64 k] w fun e w' => Below w.heap.size w w' ∧ e = .returned (.tuple #[.int .u64 0, .int .i64 (bodyE S slot k)]) := by
  have HB := Lib.hid (fun w hR => body_bad A n c RA rn rc PA pn pc HA hn hc S slot k w hR hK hE)
  have g1 : (bodyE S slot k != 0) = true := by simpa using hE
  generalize bodyE S slot k = F at *
  have hb1 := below_new w (.cells #[.slice A n c, .slice RA rn rc, .slice PA pn pc, .slice HA hn hc] 28)
  have DS := Blk.new w 28 #[.slice A n c, .slice RA rn rc, .slice PA pn pc, .slice HA hn hc]
  obtain ⟨s0, s1, s2, s3⟩ := DS.four
  go_enter Tryz.func43, Tryz.ntmps43
  go_wp2_with fail
  refine (HB.out _ ((hR.below hb1).more hb1.size)).mono ?_
  rintro e w2 ⟨hb2, rfl⟩
  have hb02 := below_step hb1 hb2
  clear s0 s1 s2 s3
  go_wp2_with fail
  go_ret2
  exact ⟨hb02, rfl⟩
set_option maxRecDepth 100000 in
set_option maxHeartbeats 4000000 in
theorem put_ok (A : Option Addr) (n c : Nat) (RA : Option Addr) (rn rc : Nat) (PA : Option Addr) (pn pc : Nat) (HA : Option Addr) (hn hc : Nat) (S : St) (k X K : Nat) (v : Int) (s : Spot) (i : Nat) (w : World) (hR : StR w w.heap.size A n RA rn PA pn HA hn S) (hK : StK n c rn pn hn S) (hOK : StOk S) (hx : S.r[k]? = some (X : Int)) (hO : ObjAt S X s i) (hk : (K : Int) < s.b) :
    Calls Tryz.prog 45 #[.agg #[.slice A n c, .slice RA rn rc, .slice PA pn pc, .slice HA hn hc], .int .i64 k, .int .i64 K, .int .u64 v] w fun e w' => Below w.heap.size w w' ∧ ∃ (A1 : Option Addr) (c1 : Nat) (A2 : Option Addr) (c2 : Nat) (A3 : Option Addr) (c3 : Nat) (A4 : Option Addr) (c4 : Nat), e = .returned (.tuple #[.agg #[.slice A1 n c1, .slice A2 rn c2, .slice A3 pn c3, .slice A4 hn c4], .int .i64 0]) ∧ StO w' w.heap.size A1 n c1 A2 rn c2 A3 pn c3 A4 hn c4 ⟨S.a.set (X + 1 + s.r.toNat + K) v, S.r, S.p, S.l⟩ := by
  obtain ⟨z1, z2, z3, z4⟩ := hR.lens
  have HCp := Lib.hid (fun w hR => copied_any A n c RA rn rc PA pn pc HA hn hc S w hR (by have := (parse_ok (checkE_ok.1 hOK.arena).1).1; omega) (by have := (rootE_ok hOK.roots).2.2.1; omega) (by have := hOK.pins.len; omega) (by have := (handE_ok.1 hOK.hands).1; omega))
  have HB := Lib.hid (fun w hR => body_ok A n c RA rn rc PA pn pc HA hn hc S k X K s i w hR hK hOK hx hO hk)
  have hfit := hO.ok.fits
  have hr0 := hO.ok.r0
  have hb0 := hO.ok.b0
  rw [hO.loc] at hfit
  unfold Spot.long at hfit
  have hpn : X + 1 + s.r.toNat + K < n := by omega
  generalize X + 1 + s.r.toNat + K = p at *
  clear hO hOK hx hk z1 z2 z3 z4 hfit hr0 hb0
  have hb0 := below_new w (.cells #[.slice A n c, .slice RA rn rc, .slice PA pn pc, .slice HA hn hc] 28)
  have hb1 := hb0.alloc hb0.size (.cells #[.slice none 0 0, .slice none 0 0, .slice none 0 0, .slice none 0 0] 28)
  have DS := (Blk.new w 28 #[.slice A n c, .slice RA rn rc, .slice PA pn pc, .slice HA hn hc]).alloc (.cells #[.slice none 0 0, .slice none 0 0, .slice none 0 0, .slice none 0 0] 28)
  have DR := Blk.new (w.alloc (.cells #[.slice A n c, .slice RA rn rc, .slice PA pn pc, .slice HA hn hc] 28)) 28 #[.slice none 0 0, .slice none 0 0, .slice none 0 0, .slice none 0 0]
  rw [World.size_alloc] at DR
  obtain ⟨s0, s1, s2, s3⟩ := DS.four
  clear hb0
  go_enter Tryz.func45, Tryz.ntmps45
  go_wp2_with fail
  refine (HB.out _ ((hR.below hb1).more hb1.size)).mono ?_
  rintro e w2 ⟨hb2, rfl⟩
  have hb02 := below_step hb1 hb2
  have DS2 := DS.below hb2 DS.lt
  have DR2 := DR.below hb2 DR.lt
  have hlt : w.heap.size + 1 < w2.heap.size := DR2.lt
  clear s0 s1 s2 s3 hb1 hb2 DS DR
  obtain ⟨s0, s1, s2, s3⟩ := DS2.four
  go_wp2_with fail
  refine (HCp.out _ ((hR.below hb02).more hb02.size)).mono ?_
  rintro e w3 ⟨hb3, A1, c1, A2, c2, A3, c3, A4, c4, rfl, hO⟩
  have hb03 := below_step hb02 hb3
  have DS3 := DS2.below hb3 DS2.lt
  have DR3 := DR2.below hb3 DR2.lt
  clear s0 s1 s2 s3 hb3
  obtain ⟨s0, s1, s2, s3⟩ := DS3.four
  obtain ⟨f0, f1, f2, f3⟩ := DS3.four_frozen
  have hO4 := hO.store DS3 (.slice A1 n c1) (.slice A2 rn c2) (.slice A3 pn c3) (.slice A4 hn c4)
  have DS4 := DS3.store4 (.slice A1 n c1) (.slice A2 rn c2) (.slice A3 pn c3) (.slice A4 hn c4)
  have DR4 := DR3.far4 (g' := w.heap.size) (by omega) (.slice A1 n c1) (.slice A2 rn c2) (.slice A3 pn c3) (.slice A4 hn c4)
  have hb04 := below_block4 (g := w.heap.size) hb03 (Nat.le_refl _) (.slice A1 n c1) (.slice A2 rn c2) (.slice A3 pn c3) (.slice A4 hn c4)
  obtain ⟨d0, d1, d2, d3⟩ := DS4.four
  obtain ⟨g, rfl, hg, cur, hB⟩ := own_some hO4.a.1 (by omega)
  have e1 : p < (S.a.map (Value.int .u64)).length := by have := hR.lens.1; rw [List.length_map]; omega
  have cc := hO4.a.1.cellAt p (by omega)
  rw [List.getElem?_eq_getElem e1] at cc
  have ff := hO4.a.1.frozenAt p
  have hO5 := (hO4.setA (p := p) (v := v) hB).mono hb02.size
  have DS5 := DS4.far (p := ⟨g, p, none⟩) (by dsimp only; omega) (.int .u64 v)
  have DR5 := DR4.far (p := ⟨g, p, none⟩) (by dsimp only; omega) (.int .u64 v)
  have hb05 := hb04.setCell (p := ⟨g, p, none⟩) (by dsimp only; have := hb02.size; omega) (.int .u64 v)
  obtain ⟨o0, o1, o2, o3⟩ := DS5.four
  obtain ⟨r0, r1, r2, r3⟩ := DR5.four
  obtain ⟨h0, h1, h2, h3⟩ := DR5.four_frozen
  clear hO4 hO hB
  go_wp2_with fail
  refine bodyPost_ret (v := .tuple #[.agg #[.slice (some ⟨g, 0, none⟩) n c1, .slice A2 rn c2, .slice A3 pn c3, .slice A4 hn c4], .int .i64 0]) ?_ rfl ⟨(below_block4 hb05 (Nat.le_succ _) _ _ _ _), _, c1, _, c2, A3, c3, A4, c4, rfl, (hO5.store DR5 _ _ _ _)⟩
  obtain ⟨z0, z1, z2, z3⟩ := (DR5.store4 (.slice (some ⟨g, 0, none⟩) n c1) (.slice A2 rn c2) (.slice A3 pn c3) (.slice A4 hn c4)).four
  simp only [results, Tryz.results45]
  go_simp
set_option maxRecDepth 100000 in
set_option maxHeartbeats 4000000 in
theorem put_bad (A : Option Addr) (n c : Nat) (RA : Option Addr) (rn rc : Nat) (PA : Option Addr) (pn pc : Nat) (HA : Option Addr) (hn hc : Nat) (S : St) (slot k v : Int) (w : World) (hR : StR w w.heap.size A n RA rn PA pn HA hn S) (hK : StK n c rn pn hn S) (hE : bodyE S slot k ≠ 0) :
    Calls Tryz.prog 45 #[.agg #[.slice A n c, .slice RA rn rc, .slice PA pn pc, .slice HA hn hc], .int .i64 slot, .int .i64 k, .int .u64 v] w fun e w' => Below w.heap.size w w' ∧ e = .returned (.tuple #[.agg #[.slice none 0 0, .slice none 0 0, .slice none 0 0, .slice none 0 0], .int .i64 (bodyE S slot k)]) := by
  have HB := Lib.hid (fun w hR => body_bad A n c RA rn rc PA pn pc HA hn hc S slot k w hR hK hE)
  have g1 : (bodyE S slot k != 0) = true := by simpa using hE
  generalize bodyE S slot k = F at *
  have hb0 := below_new w (.cells #[.slice A n c, .slice RA rn rc, .slice PA pn pc, .slice HA hn hc] 28)
  have hb1 := hb0.alloc hb0.size (.cells #[.slice none 0 0, .slice none 0 0, .slice none 0 0, .slice none 0 0] 28)
  have DS := (Blk.new w 28 #[.slice A n c, .slice RA rn rc, .slice PA pn pc, .slice HA hn hc]).alloc (.cells #[.slice none 0 0, .slice none 0 0, .slice none 0 0, .slice none 0 0] 28)
  have DR := Blk.new (w.alloc (.cells #[.slice A n c, .slice RA rn rc, .slice PA pn pc, .slice HA hn hc] 28)) 28 #[.slice none 0 0, .slice none 0 0, .slice none 0 0, .slice none 0 0]
  rw [World.size_alloc] at DR
  obtain ⟨s0, s1, s2, s3⟩ := DS.four
  clear hb0
  go_enter Tryz.func45, Tryz.ntmps45
  go_wp2_with fail
  refine (HB.out _ ((hR.below hb1).more hb1.size)).mono ?_
  rintro e w2 ⟨hb2, rfl⟩
  have hb02 := below_step hb1 hb2
  have DR2 := DR.below hb2 DR.lt
  obtain ⟨r0, r1, r2, r3⟩ := DR2.four
  obtain ⟨f0, f1, f2, f3⟩ := DR2.four_frozen
  clear s0 s1 s2 s3
  go_wp2_with fail
  refine bodyPost_ret (v := .tuple #[.agg #[.slice none 0 0, .slice none 0 0, .slice none 0 0, .slice none 0 0], .int .i64 F]) ?_ rfl ⟨below_block4 hb02 (Nat.le_succ _) _ _ _ _, rfl⟩
  obtain ⟨z0, z1, z2, z3⟩ := (DR2.store4 (.slice none 0 0) (.slice none 0 0) (.slice none 0 0) (.slice none 0 0)).four
  simp only [results, Tryz.results45]
  go_simp
set_option maxRecDepth 100000 in
set_option maxHeartbeats 4000000 in
theorem setFn_ok (A : Option Addr) (n c : Nat) (RA : Option Addr) (rn rc : Nat) (PA : Option Addr) (pn pc : Nat) (HA : Option Addr) (hn hc : Nat) (S : St) (k X K O : Nat) (y : Int) (s : Spot) (i : Nat) (w : World) (hR : StR w w.heap.size A n RA rn PA pn HA hn S) (hK : StK n c rn pn hn S) (hOK : StOk S) (hx : S.r[k]? = some (X : Int)) (hO : ObjAt S X s i) (hk : (K : Int) < s.r) (hy : S.r[O]? = some y) (hy1 : -1 ≤ y ∧ y ≤ 1000) :
    Calls Tryz.prog 42 #[.agg #[.slice A n c, .slice RA rn rc, .slice PA pn pc, .slice HA hn hc], .int .i64 k, .int .i64 K, .int .i64 O] w fun e w' => Below w.heap.size w w' ∧ ∃ (A1 : Option Addr) (c1 : Nat) (A2 : Option Addr) (c2 : Nat) (A3 : Option Addr) (c3 : Nat) (A4 : Option Addr) (c4 : Nat), e = .returned (.tuple #[.agg #[.slice A1 n c1, .slice A2 rn c2, .slice A3 pn c3, .slice A4 hn c4], .int .i64 0]) ∧ StO w' w.heap.size A1 n c1 A2 rn c2 A3 pn c3 A4 hn c4 ⟨S.a.set (X + 1 + K) (y + 1), S.r, S.p, S.l⟩ := by
  obtain ⟨z1, z2, z3, z4⟩ := hR.lens
  have HCp := Lib.hid (fun w hR => copied_any A n c RA rn rc PA pn pc HA hn hc S w hR (by have := (parse_ok (checkE_ok.1 hOK.arena).1).1; omega) (by have := (rootE_ok hOK.roots).2.2.1; omega) (by have := hOK.pins.len; omega) (by have := (handE_ok.1 hOK.hands).1; omega))
  have ho : O < S.r.length := (List.getElem?_eq_some_iff.1 hy).1
  have HB := Lib.hid (fun w hR => ref_ok A n c RA rn rc PA pn pc HA hn hc S k X K O s i w hR hK hOK hx hO hk ho)
  have hfit := hO.ok.fits
  have hr0 := hO.ok.r0
  have hb0 := hO.ok.b0
  rw [hO.loc] at hfit
  unfold Spot.long at hfit
  have hpn : X + 1 + K < n := by omega
  have hon : O < rn := by omega
  generalize X + 1 + K = p at *
  obtain ⟨Y, hY⟩ : ∃ Y : Nat, y + 1 = Y := ⟨(y + 1).toNat, by omega⟩
  rw [hY]
  have hw1 : IntKind.i64.wrap (y + 1) = Y := (IntWalk.i64_in _ (by omega)).trans hY
  have hw2 : IntKind.u64.wrap (Y : Int) = Y := IntWalk.u64_in _ (by omega)
  have HY := Lib.hid hy
  clear hO hOK hx hk z1 z2 z3 z4 hfit hr0 hb0 hY hy ho
  have hb0 := below_new w (.cells #[.slice A n c, .slice RA rn rc, .slice PA pn pc, .slice HA hn hc] 28)
  have hb1 := hb0.alloc hb0.size (.cells #[.slice none 0 0, .slice none 0 0, .slice none 0 0, .slice none 0 0] 28)
  have DS := (Blk.new w 28 #[.slice A n c, .slice RA rn rc, .slice PA pn pc, .slice HA hn hc]).alloc (.cells #[.slice none 0 0, .slice none 0 0, .slice none 0 0, .slice none 0 0] 28)
  have DR := Blk.new (w.alloc (.cells #[.slice A n c, .slice RA rn rc, .slice PA pn pc, .slice HA hn hc] 28)) 28 #[.slice none 0 0, .slice none 0 0, .slice none 0 0, .slice none 0 0]
  rw [World.size_alloc] at DR
  obtain ⟨s0, s1, s2, s3⟩ := DS.four
  clear hb0
  go_enter Tryz.func42, Tryz.ntmps42
  go_wp2_with fail
  refine (HB.out _ ((hR.below hb1).more hb1.size)).mono ?_
  rintro e w2 ⟨hb2, rfl⟩
  have hb02 := below_step hb1 hb2
  have DS2 := DS.below hb2 DS.lt
  have DR2 := DR.below hb2 DR.lt
  have hlt : w.heap.size + 1 < w2.heap.size := DR2.lt
  clear s0 s1 s2 s3 hb1 hb2 DS DR
  obtain ⟨s0, s1, s2, s3⟩ := DS2.four
  go_wp2_with fail
  refine (HCp.out _ ((hR.below hb02).more hb02.size)).mono ?_
  rintro e w3 ⟨hb3, A1, c1, A2, c2, A3, c3, A4, c4, rfl, hO⟩
  have hb03 := below_step hb02 hb3
  have DS3 := DS2.below hb3 DS2.lt
  have DR3 := DR2.below hb3 DR2.lt
  clear s0 s1 s2 s3 hb3
  obtain ⟨s0, s1, s2, s3⟩ := DS3.four
  obtain ⟨f0, f1, f2, f3⟩ := DS3.four_frozen
  have hO4 := hO.store DS3 (.slice A1 n c1) (.slice A2 rn c2) (.slice A3 pn c3) (.slice A4 hn c4)
  have DS4 := DS3.store4 (.slice A1 n c1) (.slice A2 rn c2) (.slice A3 pn c3) (.slice A4 hn c4)
  have DR4 := DR3.far4 (g' := w.heap.size) (by omega) (.slice A1 n c1) (.slice A2 rn c2) (.slice A3 pn c3) (.slice A4 hn c4)
  have hb04 := below_block4 (g := w.heap.size) hb03 (Nat.le_refl _) (.slice A1 n c1) (.slice A2 rn c2) (.slice A3 pn c3) (.slice A4 hn c4)
  obtain ⟨d0, d1, d2, d3⟩ := DS4.four
  obtain ⟨g, rfl, gh, gc, gB⟩ := own_some hO4.a.1 (by omega)
  have ge : p < (S.a.map (Value.int .u64)).length := by have := hR.lens.1; rw [List.length_map]; omega
  have gcc := hO4.a.1.cellAt p (by omega)
  rw [List.getElem?_eq_getElem ge] at gcc
  have gf := hO4.a.1.frozenAt p
  obtain ⟨q, rfl, qh, qc, qB⟩ := own_some hO4.r.1 (by omega)
  have qe : O < (S.r.map (Value.int .i64)).length := by have := hR.lens.2.1; rw [List.length_map]; omega
  have qcc := hO4.r.1.cellAt O (by omega)
  rw [List.getElem?_eq_getElem qe] at qcc
  have qf := hO4.r.1.frozenAt O
  have qv : (S.r.map (Value.int .i64))[O] = .int .i64 y := by
    have h1 := HY.out
    obtain ⟨j1, j2⟩ := List.getElem?_eq_some_iff.1 h1
    rw [List.getElem_map, j2]
  rw [qv] at qcc
  have hO5 := (hO4.setA (p := p) (v := Y) gB).mono hb02.size
  have DS5 := DS4.far (p := ⟨g, p, none⟩) (by dsimp only; omega) (.int .u64 Y)
  have DR5 := DR4.far (p := ⟨g, p, none⟩) (by dsimp only; omega) (.int .u64 Y)
  have hb05 := hb04.setCell (p := ⟨g, p, none⟩) (by dsimp only; have := hb02.size; omega) (.int .u64 Y)
  obtain ⟨o0, o1, o2, o3⟩ := DS5.four
  obtain ⟨r0, r1, r2, r3⟩ := DR5.four
  obtain ⟨h0, h1, h2, h3⟩ := DR5.four_frozen
  clear hO4 hO gB qB
  go_wp2_with fail
  go_region
  all_goals
    go_wp2_with fail
    refine bodyPost_ret (v := .tuple #[.agg #[.slice (some ⟨g, 0, none⟩) n c1, .slice (some ⟨q, 0, none⟩) rn c2, .slice A3 pn c3, .slice A4 hn c4], .int .i64 0]) ?_ rfl ⟨(below_block4 hb05 (Nat.le_succ _) _ _ _ _).drew, _, c1, _, c2, A3, c3, A4, c4, rfl, (hO5.store DR5 _ _ _ _).drew⟩
    obtain ⟨z0, z1, z2, z3⟩ := (DR5.store4 (.slice (some ⟨g, 0, none⟩) n c1) (.slice (some ⟨q, 0, none⟩) rn c2) (.slice A3 pn c3) (.slice A4 hn c4)).drew.four
    simp only [results, Tryz.results42]
    go_simp
set_option maxRecDepth 100000 in
set_option maxHeartbeats 4000000 in
theorem setFn_bad (A : Option Addr) (n c : Nat) (RA : Option Addr) (rn rc : Nat) (PA : Option Addr) (pn pc : Nat) (HA : Option Addr) (hn hc : Nat) (S : St) (slot k other : Int) (w : World) (hR : StR w w.heap.size A n RA rn PA pn HA hn S) (hK : StK n c rn pn hn S) (hE : refE S slot k other ≠ 0) :
    Calls Tryz.prog 42 #[.agg #[.slice A n c, .slice RA rn rc, .slice PA pn pc, .slice HA hn hc], .int .i64 slot, .int .i64 k, .int .i64 other] w fun e w' => Below w.heap.size w w' ∧ e = .returned (.tuple #[.agg #[.slice none 0 0, .slice none 0 0, .slice none 0 0, .slice none 0 0], .int .i64 (refE S slot k other)]) := by
  have HB := Lib.hid (fun w hR => ref_bad A n c RA rn rc PA pn pc HA hn hc S slot k other w hR hK hE)
  have g1 : (refE S slot k other != 0) = true := by simpa using hE
  generalize refE S slot k other = F at *
  have hb0 := below_new w (.cells #[.slice A n c, .slice RA rn rc, .slice PA pn pc, .slice HA hn hc] 28)
  have hb1 := hb0.alloc hb0.size (.cells #[.slice none 0 0, .slice none 0 0, .slice none 0 0, .slice none 0 0] 28)
  have DS := (Blk.new w 28 #[.slice A n c, .slice RA rn rc, .slice PA pn pc, .slice HA hn hc]).alloc (.cells #[.slice none 0 0, .slice none 0 0, .slice none 0 0, .slice none 0 0] 28)
  have DR := Blk.new (w.alloc (.cells #[.slice A n c, .slice RA rn rc, .slice PA pn pc, .slice HA hn hc] 28)) 28 #[.slice none 0 0, .slice none 0 0, .slice none 0 0, .slice none 0 0]
  rw [World.size_alloc] at DR
  obtain ⟨s0, s1, s2, s3⟩ := DS.four
  clear hb0
  go_enter Tryz.func42, Tryz.ntmps42
  go_wp2_with fail
  refine (HB.out _ ((hR.below hb1).more hb1.size)).mono ?_
  rintro e w2 ⟨hb2, rfl⟩
  have hb02 := below_step hb1 hb2
  have DR2 := DR.below hb2 DR.lt
  obtain ⟨r0, r1, r2, r3⟩ := DR2.four
  obtain ⟨f0, f1, f2, f3⟩ := DR2.four_frozen
  clear s0 s1 s2 s3
  go_wp2_with fail
  refine bodyPost_ret (v := .tuple #[.agg #[.slice none 0 0, .slice none 0 0, .slice none 0 0, .slice none 0 0], .int .i64 F]) ?_ rfl ⟨below_block4 hb02 (Nat.le_succ _) _ _ _ _, rfl⟩
  obtain ⟨z0, z1, z2, z3⟩ := (DR2.store4 (.slice none 0 0) (.slice none 0 0) (.slice none 0 0) (.slice none 0 0)).four
  simp only [results, Tryz.results42]
  go_simp
set_option maxRecDepth 100000 in
set_option maxHeartbeats 4000000 in
theorem refFn_ok (A : Option Addr) (n c : Nat) (RA : Option Addr) (rn rc : Nat) (PA : Option Addr) (pn pc : Nat) (HA : Option Addr) (hn hc : Nat) (S : St) (k X K O v : Nat) (s : Spot) (i : Nat) (w : World) (hR : StR w w.heap.size A n RA rn PA pn HA hn S) (hK : StK n c rn pn hn S) (hOK : StOk S) (hx : S.r[k]? = some (X : Int)) (hO : ObjAt S X s i) (hk : (K : Int) < s.r) (ho : O < S.r.length) (hv : S.a[X + 1 + K]? = some (v : Int)) (hv1 : v ≤ 1000) :
    Calls Tryz.prog 41 #[.agg #[.slice A n c, .slice RA rn rc, .slice PA pn pc, .slice HA hn hc], .int .i64 k, .int .i64 K, .int .i64 O] w fun e w' => Below w.heap.size w w' ∧ ∃ (A1 : Option Addr) (c1 : Nat) (A2 : Option Addr) (c2 : Nat) (A3 : Option Addr) (c3 : Nat) (A4 : Option Addr) (c4 : Nat), e = .returned (.tuple #[.agg #[.slice A1 n c1, .slice A2 rn c2, .slice A3 pn c3, .slice A4 hn c4], .int .i64 0]) ∧ StO w' w.heap.size A1 n c1 A2 rn c2 A3 pn c3 A4 hn c4 ⟨S.a, S.r.set O (v - 1), S.p, S.l⟩ := by
  obtain ⟨z1, z2, z3, z4⟩ := hR.lens
  have HCp := Lib.hid (fun w hR => copied_any A n c RA rn rc PA pn pc HA hn hc S w hR (by have := (parse_ok (checkE_ok.1 hOK.arena).1).1; omega) (by have := (rootE_ok hOK.roots).2.2.1; omega) (by have := hOK.pins.len; omega) (by have := (handE_ok.1 hOK.hands).1; omega))
  have HB := Lib.hid (fun w hR => ref_ok A n c RA rn rc PA pn pc HA hn hc S k X K O s i w hR hK hOK hx hO hk ho)
  have hfit := hO.ok.fits
  have hr0 := hO.ok.r0
  have hb0 := hO.ok.b0
  rw [hO.loc] at hfit
  unfold Spot.long at hfit
  have hpn : X + 1 + K < n := by omega
  have hon : O < rn := by omega
  generalize X + 1 + K = p at *
  have hw2 : IntKind.i64.wrap (v : Int) = v := IntWalk.i64_in _ (by omega)
  obtain ⟨Y, hY⟩ : ∃ Y : Int, (v : Int) - 1 = Y := ⟨_, rfl⟩
  rw [hY]
  have hw1 : IntKind.i64.wrap ((v : Int) - 1) = Y := (IntWalk.i64_in _ (by omega)).trans hY
  have HV := Lib.hid hv
  clear hO hOK hx hk z1 z2 z3 z4 hfit hr0 hb0 hY hv ho
  have hb0 := below_new w (.cells #[.slice A n c, .slice RA rn rc, .slice PA pn pc, .slice HA hn hc] 28)
  have hb1 := hb0.alloc hb0.size (.cells #[.slice none 0 0, .slice none 0 0, .slice none 0 0, .slice none 0 0] 28)
  have DS := (Blk.new w 28 #[.slice A n c, .slice RA rn rc, .slice PA pn pc, .slice HA hn hc]).alloc (.cells #[.slice none 0 0, .slice none 0 0, .slice none 0 0, .slice none 0 0] 28)
  have DR := Blk.new (w.alloc (.cells #[.slice A n c, .slice RA rn rc, .slice PA pn pc, .slice HA hn hc] 28)) 28 #[.slice none 0 0, .slice none 0 0, .slice none 0 0, .slice none 0 0]
  rw [World.size_alloc] at DR
  obtain ⟨s0, s1, s2, s3⟩ := DS.four
  clear hb0
  go_enter Tryz.func41, Tryz.ntmps41
  go_wp2_with fail
  refine (HB.out _ ((hR.below hb1).more hb1.size)).mono ?_
  rintro e w2 ⟨hb2, rfl⟩
  have hb02 := below_step hb1 hb2
  have DS2 := DS.below hb2 DS.lt
  have DR2 := DR.below hb2 DR.lt
  have hlt : w.heap.size + 1 < w2.heap.size := DR2.lt
  clear s0 s1 s2 s3 hb1 hb2 DS DR
  obtain ⟨s0, s1, s2, s3⟩ := DS2.four
  go_wp2_with fail
  refine (HCp.out _ ((hR.below hb02).more hb02.size)).mono ?_
  rintro e w3 ⟨hb3, A1, c1, A2, c2, A3, c3, A4, c4, rfl, hO⟩
  have hb03 := below_step hb02 hb3
  have DS3 := DS2.below hb3 DS2.lt
  have DR3 := DR2.below hb3 DR2.lt
  clear s0 s1 s2 s3 hb3
  obtain ⟨s0, s1, s2, s3⟩ := DS3.four
  obtain ⟨f0, f1, f2, f3⟩ := DS3.four_frozen
  have hO4 := hO.store DS3 (.slice A1 n c1) (.slice A2 rn c2) (.slice A3 pn c3) (.slice A4 hn c4)
  have DS4 := DS3.store4 (.slice A1 n c1) (.slice A2 rn c2) (.slice A3 pn c3) (.slice A4 hn c4)
  have DR4 := DR3.far4 (g' := w.heap.size) (by omega) (.slice A1 n c1) (.slice A2 rn c2) (.slice A3 pn c3) (.slice A4 hn c4)
  have hb04 := below_block4 (g := w.heap.size) hb03 (Nat.le_refl _) (.slice A1 n c1) (.slice A2 rn c2) (.slice A3 pn c3) (.slice A4 hn c4)
  obtain ⟨d0, d1, d2, d3⟩ := DS4.four
  obtain ⟨g, rfl, gh, gc, gB⟩ := own_some hO4.a.1 (by omega)
  have ge : p < (S.a.map (Value.int .u64)).length := by have := hR.lens.1; rw [List.length_map]; omega
  have gcc := hO4.a.1.cellAt p (by omega)
  rw [List.getElem?_eq_getElem ge] at gcc
  have gf := hO4.a.1.frozenAt p
  obtain ⟨q, rfl, qh, qc, qB⟩ := own_some hO4.r.1 (by omega)
  have qe : O < (S.r.map (Value.int .i64)).length := by have := hR.lens.2.1; rw [List.length_map]; omega
  have qcc := hO4.r.1.cellAt O (by omega)
  rw [List.getElem?_eq_getElem qe] at qcc
  have qf := hO4.r.1.frozenAt O
  have gv : (S.a.map (Value.int .u64))[p] = .int .u64 v := by
    have h1 := HV.out
    obtain ⟨j1, j2⟩ := List.getElem?_eq_some_iff.1 h1
    rw [List.getElem_map, j2]
  rw [gv] at gcc
  have hO5 := (hO4.setR (p := O) (v := Y) qB).mono hb02.size
  have DS5 := DS4.far (p := ⟨q, O, none⟩) (by dsimp only; omega) (.int .i64 Y)
  have DR5 := DR4.far (p := ⟨q, O, none⟩) (by dsimp only; omega) (.int .i64 Y)
  have hb05 := hb04.setCell (p := ⟨q, O, none⟩) (by dsimp only; have := hb02.size; omega) (.int .i64 Y)
  obtain ⟨o0, o1, o2, o3⟩ := DS5.four
  obtain ⟨r0, r1, r2, r3⟩ := DR5.four
  obtain ⟨h0, h1, h2, h3⟩ := DR5.four_frozen
  clear hO4 hO gB qB
  go_wp2_with fail
  go_region
  all_goals
    go_wp2_with fail
    refine bodyPost_ret (v := .tuple #[.agg #[.slice (some ⟨g, 0, none⟩) n c1, .slice (some ⟨q, 0, none⟩) rn c2, .slice A3 pn c3, .slice A4 hn c4], .int .i64 0]) ?_ rfl ⟨(below_block4 hb05 (Nat.le_succ _) _ _ _ _).drew, _, c1, _, c2, A3, c3, A4, c4, rfl, (hO5.store DR5 _ _ _ _).drew⟩
    obtain ⟨z0, z1, z2, z3⟩ := (DR5.store4 (.slice (some ⟨g, 0, none⟩) n c1) (.slice (some ⟨q, 0, none⟩) rn c2) (.slice A3 pn c3) (.slice A4 hn c4)).drew.four
    simp only [results, Tryz.results41]
    go_simp
set_option maxRecDepth 100000 in
set_option maxHeartbeats 4000000 in
theorem refFn_bad (A : Option Addr) (n c : Nat) (RA : Option Addr) (rn rc : Nat) (PA : Option Addr) (pn pc : Nat) (HA : Option Addr) (hn hc : Nat) (S : St) (slot k other : Int) (w : World) (hR : StR w w.heap.size A n RA rn PA pn HA hn S) (hK : StK n c rn pn hn S) (hE : refE S slot k other ≠ 0) :
    Calls Tryz.prog 41 #[.agg #[.slice A n c, .slice RA rn rc, .slice PA pn pc, .slice HA hn hc], .int .i64 slot, .int .i64 k, .int .i64 other] w fun e w' => Below w.heap.size w w' ∧ e = .returned (.tuple #[.agg #[.slice none 0 0, .slice none 0 0, .slice none 0 0, .slice none 0 0], .int .i64 (refE S slot k other)]) := by
  have HB := Lib.hid (fun w hR => ref_bad A n c RA rn rc PA pn pc HA hn hc S slot k other w hR hK hE)
  have g1 : (refE S slot k other != 0) = true := by simpa using hE
  generalize refE S slot k other = F at *
  have hb0 := below_new w (.cells #[.slice A n c, .slice RA rn rc, .slice PA pn pc, .slice HA hn hc] 28)
  have hb1 := hb0.alloc hb0.size (.cells #[.slice none 0 0, .slice none 0 0, .slice none 0 0, .slice none 0 0] 28)
  have DS := (Blk.new w 28 #[.slice A n c, .slice RA rn rc, .slice PA pn pc, .slice HA hn hc]).alloc (.cells #[.slice none 0 0, .slice none 0 0, .slice none 0 0, .slice none 0 0] 28)
  have DR := Blk.new (w.alloc (.cells #[.slice A n c, .slice RA rn rc, .slice PA pn pc, .slice HA hn hc] 28)) 28 #[.slice none 0 0, .slice none 0 0, .slice none 0 0, .slice none 0 0]
  rw [World.size_alloc] at DR
  obtain ⟨s0, s1, s2, s3⟩ := DS.four
  clear hb0
  go_enter Tryz.func41, Tryz.ntmps41
  go_wp2_with fail
  refine (HB.out _ ((hR.below hb1).more hb1.size)).mono ?_
  rintro e w2 ⟨hb2, rfl⟩
  have hb02 := below_step hb1 hb2
  have DR2 := DR.below hb2 DR.lt
  obtain ⟨r0, r1, r2, r3⟩ := DR2.four
  obtain ⟨f0, f1, f2, f3⟩ := DR2.four_frozen
  clear s0 s1 s2 s3
  go_wp2_with fail
  refine bodyPost_ret (v := .tuple #[.agg #[.slice none 0 0, .slice none 0 0, .slice none 0 0, .slice none 0 0], .int .i64 F]) ?_ rfl ⟨below_block4 hb02 (Nat.le_succ _) _ _ _ _, rfl⟩
  obtain ⟨z0, z1, z2, z3⟩ := (DR2.store4 (.slice none 0 0) (.slice none 0 0) (.slice none 0 0) (.slice none 0 0)).four
  simp only [results, Tryz.results41]
  go_simp
end Go.Proofs.YtbmkbnalembbjaaGreatDoor
