/-
  Texts joined: QStPin QStUse QStLaw4.
-/
import Derived.Test.YtbmkbnalembbjaaGreatDoorQ1
import Derived.Test.YtbmkbnalembbjaaGreatDoorQ5
import Derived.Test.YtbmkbnalembbjaaGreatDoorQ11
import Derived.Test.YtbmkbnalembbjaaGreatDoorQ17
namespace Go.Proofs.YtbmkbnalembbjaaGreatDoor
open Go.RowKit
theorem hands_len {S : St} (h : StOk S) : S.a.length ≤ 256 ∧ S.r.length ≤ 32 ∧ S.p.length ≤ 16 ∧ S.l.length ≤ 16 := ⟨(parse_ok (checkE_ok.1 h.arena).1).1, (rootE_ok h.roots).2.2.1, h.pins.len, (handE_ok.1 h.hands).1⟩
def PinOk (S : St) (X : Int) (j : Nat) : Prop := PlaceOf S.p X j ∧ countP S.p X < 1000000 ∧ (hasAt S.p X j = true ∨ S.p.length < 16)
set_option maxRecDepth 100000 in
set_option maxHeartbeats 4000000 in
theorem pinFn_obj (A : Option Addr) (n c : Nat) (RA : Option Addr) (rn rc : Nat) (PA : Option Addr) (pn pc : Nat) (HA : Option Addr) (hn hc : Nat) (S : St) (k X : Nat) (s : Spot) (i : Nat) (w : World) (hR : StR w w.heap.size A n RA rn PA pn HA hn S) (hK : StK n c rn pn hn S) (hOK : StOk S) (hx : S.r[k]? = some (X : Int)) (hO : ObjAt S X s i) :
    Calls Tryz.prog 46 #[.agg #[.slice A n c, .slice RA rn rc, .slice PA pn pc, .slice HA hn hc], .int .i64 k] w fun e w' => Below w.heap.size w w' ∧
      ((∃ j : Nat, PinOk S X j ∧ ∃ (A1 : Option Addr) (c1 : Nat) (A2 : Option Addr) (c2 : Nat) (A3 : Option Addr) (m c3 : Nat) (A4 : Option Addr) (c4 : Nat), e = .returned (.tuple #[.agg #[.slice A1 n c1, .slice A2 rn c2, .slice A3 m c3, .slice A4 hn c4], .int .i64 X, .int .i64 0]) ∧ StO w' w.heap.size A1 n c1 A2 rn c2 A3 m c3 A4 hn c4 ⟨S.a, S.r, moreP S.p X j (countP S.p X + 1), S.l⟩) ∨
       ((∀ j, ¬ PinOk S X j) ∧ addE S.p X ≠ 0 ∧ e = .returned (.tuple #[.agg #[.slice none 0 0, .slice none 0 0, .slice none 0 0, .slice none 0 0], .int .i64 0, .int .i64 (addE S.p X)]))) := by
  have HOb := Lib.hid (fun w hR => object_ok A n c RA rn rc PA pn pc HA hn hc S k X s i w hR hK hOK hx (by omega) hO)
  have hX := begs_lt hOK.arena (hOK.live _ (root_at (List.mem_of_getElem? hx) (by omega)))
  obtain ⟨z1, z2, z3, z4⟩ := hR.lens
  obtain ⟨v1, v2, v3, v4⟩ := hands_len hOK
  have HCp := Lib.hid (fun w hR => copied_any A n c RA rn rc PA pn pc HA hn hc S w hR (by omega) (by omega) (by omega) (by omega))
  have HAd := Lib.hid (fun w hr => paddT_all PA pn pc S.p X w hr (by omega))
  have HF : Hid (findE S.p X = 0) := findE_zero.2 ⟨hOK.pins, by simp [thereB]; omega⟩
  generalize s.t = t at *
  generalize (refIx (spotsL S.a) S.a s).map (Value.int .i64) = l1 at *
  generalize (bodyOf S.a s).map (Value.int .u64) = l2 at *
  generalize s.r.toNat = q1 at *
  generalize s.b.toNat = q2 at *
  generalize moreP S.p X = mp at *
  generalize addE S.p X = ae at *
  clear hOK hx hO z1 z2 z3 z4 v1 v2 v3 v4 hX
  have hb0 := below_new w (.cells #[.slice A n c, .slice RA rn rc, .slice PA pn pc, .slice HA hn hc] 28)
  have hb1 := hb0.alloc hb0.size (.cells #[.slice none 0 0, .slice none 0 0, .slice none 0 0, .slice none 0 0] 28)
  have DS := (Blk.new w 28 #[.slice A n c, .slice RA rn rc, .slice PA pn pc, .slice HA hn hc]).alloc (.cells #[.slice none 0 0, .slice none 0 0, .slice none 0 0, .slice none 0 0] 28)
  have DR := Blk.new (w.alloc (.cells #[.slice A n c, .slice RA rn rc, .slice PA pn pc, .slice HA hn hc] 28)) 28 #[.slice none 0 0, .slice none 0 0, .slice none 0 0, .slice none 0 0]
  rw [World.size_alloc] at DR
  obtain ⟨s0, s1, s2, s3⟩ := DS.four
  clear hb0
  go_enter Tryz.func46, Tryz.ntmps46
  go_wp2_with fail
  refine (HOb.out _ ((hR.below hb1).more hb1.size)).mono ?_
  rintro e w2 ⟨hb2, B1, d1, B2, d2, rfl, -, -⟩
  have hb02 := (below_step hb1 hb2).alloc (below_step hb1 hb2).size (.cells #[.int .i64 t, .slice B1 q1 d1, .slice B2 q2 d2, .bool false] 113)
  have DS2 := (DS.below hb2 DS.lt).alloc (.cells #[.int .i64 t, .slice B1 q1 d1, .slice B2 q2 d2, .bool false] 113)
  have DR2 := (DR.below hb2 DR.lt).alloc (.cells #[.int .i64 t, .slice B1 q1 d1, .slice B2 q2 d2, .bool false] 113)
  clear s0 s1 s2 s3 hb1 hb2 DS DR
  obtain ⟨s0, s1, s2, s3⟩ := DS2.four
  go_wp2_with fail
  refine (HAd.out _ ((hR.p.below hb02).more hb02.size)).mono ?_
  rintro e w4 ⟨hb4, ⟨-, j, hj1, hj2, hj3, A5, c5, rfl, hN⟩ | ⟨hno, er, her, rfl, rfl⟩⟩
  · have hPO := Lib.hid (show PinOk S X j from ⟨hj1, hj2, hj3⟩)
    have hb0x := below_step hb02 hb4
    have DSx := DS2.below hb4 DS2.lt
    have DRx := DR2.below hb4 DR2.lt
    have hlt : w.heap.size + 1 < w4.heap.size := DRx.lt
    obtain ⟨m, hm⟩ : ∃ m, m = (mp j (countP S.p X + 1)).length := ⟨_, rfl⟩
    rw [← hm] at hN
    rw [← hm]
    clear hm hj1 hj2 hj3 s0 s1 s2 s3
    obtain ⟨s0, s1, s2, s3⟩ := DSx.four
    go_wp2_with fail
    refine (HCp.out _ ((hR.below hb0x).more hb0x.size)).mono ?_
    rintro e wc ⟨hbc, A1, c1, A2, c2, A3, c3, A4, c4, rfl, hO⟩
    have hb03 := below_step hb0x hbc
    have DS3 := DSx.below hbc DSx.lt
    have DR3 := DRx.below hbc DRx.lt
    have hN3 := own_belowT hN hbc
    clear s0 s1 s2 s3
    obtain ⟨s0, s1, s2, s3⟩ := DS3.four
    obtain ⟨f0, f1, f2, f3⟩ := DS3.four_frozen
    have hO4 := (hO.store DS3 (.slice A1 n c1) (.slice A2 rn c2) (.slice A3 pn c3) (.slice A4 hn c4)).mono hb0x.size
    have hN4 := own_monoT (own_block4T hN3 DS3 (by decide) (.slice A1 n c1) (.slice A2 rn c2) (.slice A3 pn c3) (.slice A4 hn c4)) hb02.size
    have DS4 := DS3.store4 (.slice A1 n c1) (.slice A2 rn c2) (.slice A3 pn c3) (.slice A4 hn c4)
    have DR4 := DR3.far4 (g' := w.heap.size) (by omega) (.slice A1 n c1) (.slice A2 rn c2) (.slice A3 pn c3) (.slice A4 hn c4)
    have hb04 := below_block4 (g := w.heap.size) hb03 (Nat.le_refl _) (.slice A1 n c1) (.slice A2 rn c2) (.slice A3 pn c3) (.slice A4 hn c4)
    obtain ⟨d0, d1, d2, d3⟩ := DS4.four
    obtain ⟨k0, k1, k2, k3⟩ := DS4.four_frozen
    have DS5 := DS4.set_ 2 (.slice A5 m c5)
    have DR5 := DR4.far (p := ⟨w.heap.size, 2, none⟩) (by dsimp only; omega) (.slice A5 m c5)
    have hb05 := hb04.setCell (p := ⟨w.heap.size, 2, none⟩) (Nat.le_refl _) (.slice A5 m c5)
    have p5 : ∀ {base e size ok k v xs}, OwnT _ base e size ok v k xs → e ≠ 28 → OwnT _ base e size ok v k xs := fun {base e size ok k v xs} (h : OwnT _ base e size ok v k xs) hne => own_apartT h (p := ⟨w.heap.size, 2, none⟩) (own_blkT h DS4 hne) (.slice A5 m c5)
    have hO5 : StO _ w.heap.size A1 n c1 A2 rn c2 A5 m c5 A4 hn c4 ⟨S.a, S.r, mp j (countP S.p X + 1), S.l⟩ := ⟨p5 hO4.a (by decide), p5 hO4.r (by decide), p5 hN4 (by decide), p5 hO4.l (by decide)⟩
    obtain ⟨o0, o1, o2, o3⟩ := DS5.four
    obtain ⟨r0, r1, r2, r3⟩ := DR5.four
    obtain ⟨h0, h1, h2, h3⟩ := DR5.four_frozen
    clear hO4 hO hN3 hN4 p5
    go_wp2_with fail
    refine bodyPost_ret (v := .tuple #[.agg #[.slice A1 n c1, .slice A2 rn c2, .slice A5 m c5, .slice A4 hn c4], .int .i64 X, .int .i64 0]) ?_ rfl ⟨below_block4 hb05 (Nat.le_succ _) _ _ _ _, .inl ⟨j, hPO.out, A1, c1, A2, c2, A5, m, c5, A4, c4, rfl, hO5.store DR5 _ _ _ _⟩⟩
    obtain ⟨z0, z1, z2, z3⟩ := (DR5.store4 (.slice A1 n c1) (.slice A2 rn c2) (.slice A5 m c5) (.slice A4 hn c4)).four
    simp only [results, Tryz.results46]
    go_simp
  · have hb0x := below_step hb02 hb4
    have DRx := DR2.below hb4 DR2.lt
    have HNo : Hid (∀ j, ¬ PinOk S X j) := fun j h => hno ⟨HF.out, j, h⟩
    have HA : Hid (er ≠ 0) := by show _ ≠ _; simpa using her
    clear hno s0 s1 s2 s3
    obtain ⟨r0, r1, r2, r3⟩ := DRx.four
    obtain ⟨f0, f1, f2, f3⟩ := DRx.four_frozen
    go_wp2_with fail
    refine bodyPost_ret (v := .tuple #[.agg #[.slice none 0 0, .slice none 0 0, .slice none 0 0, .slice none 0 0], .int .i64 0, .int .i64 er]) ?_ rfl ⟨below_block4 hb0x (Nat.le_succ _) _ _ _ _, .inr ⟨HNo.out, HA.out, rfl⟩⟩
    obtain ⟨z0, z1, z2, z3⟩ := (DRx.store4 (.slice none 0 0) (.slice none 0 0) (.slice none 0 0) (.slice none 0 0)).four
    simp only [results, Tryz.results46]
    go_simp
set_option maxRecDepth 100000 in
set_option maxHeartbeats 4000000 in
theorem pinFn_bad (A : Option Addr) (n c : Nat) (RA : Option Addr) (rn rc : Nat) (PA : Option Addr) (pn pc : Nat) (HA : Option Addr) (hn hc : Nat) (S : St) (slot : Int) (w : World) (hR : StR w w.heap.size A n RA rn PA pn HA hn S) (hK : StK n c rn pn hn S) (hE : objE S slot ≠ 0) :
    Calls Tryz.prog 46 #[.agg #[.slice A n c, .slice RA rn rc, .slice PA pn pc, .slice HA hn hc], .int .i64 slot] w fun e w' => Below w.heap.size w w' ∧ e = .returned (.tuple #[.agg #[.slice none 0 0, .slice none 0 0, .slice none 0 0, .slice none 0 0], .int .i64 0, .int .i64 (objE S slot)]) := by
  have HB := Lib.hid (fun w hR => object_bad A n c RA rn rc PA pn pc HA hn hc S slot w hR hK hE)
  have g1 : (objE S slot != 0) = true := by simpa using hE
  generalize objE S slot = F at *
  have hb0 := below_new w (.cells #[.slice A n c, .slice RA rn rc, .slice PA pn pc, .slice HA hn hc] 28)
  have hb1 := hb0.alloc hb0.size (.cells #[.slice none 0 0, .slice none 0 0, .slice none 0 0, .slice none 0 0] 28)
  have DS := (Blk.new w 28 #[.slice A n c, .slice RA rn rc, .slice PA pn pc, .slice HA hn hc]).alloc (.cells #[.slice none 0 0, .slice none 0 0, .slice none 0 0, .slice none 0 0] 28)
  have DR := Blk.new (w.alloc (.cells #[.slice A n c, .slice RA rn rc, .slice PA pn pc, .slice HA hn hc] 28)) 28 #[.slice none 0 0, .slice none 0 0, .slice none 0 0, .slice none 0 0]
  rw [World.size_alloc] at DR
  obtain ⟨s0, s1, s2, s3⟩ := DS.four
  clear hb0
  go_enter Tryz.func46, Tryz.ntmps46
  go_wp2_with fail
  refine (HB.out _ ((hR.below hb1).more hb1.size)).mono ?_
  rintro e w2 ⟨hb2, rfl⟩
  have hb02 := (below_step hb1 hb2).alloc (below_step hb1 hb2).size (.cells #[.int .i64 0, .slice none 0 0, .slice none 0 0, .bool false] 113)
  have DR2 := (DR.below hb2 DR.lt).alloc (.cells #[.int .i64 0, .slice none 0 0, .slice none 0 0, .bool false] 113)
  clear s0 s1 s2 s3
  obtain ⟨r0, r1, r2, r3⟩ := DR2.four
  obtain ⟨f0, f1, f2, f3⟩ := DR2.four_frozen
  go_wp2_with fail
  refine bodyPost_ret (v := .tuple #[.agg #[.slice none 0 0, .slice none 0 0, .slice none 0 0, .slice none 0 0], .int .i64 0, .int .i64 F]) ?_ rfl ⟨below_block4 hb02 (Nat.le_succ _) _ _ _ _, rfl⟩
  obtain ⟨z0, z1, z2, z3⟩ := (DR2.store4 (.slice none 0 0) (.slice none 0 0) (.slice none 0 0) (.slice none 0 0)).four
  simp only [results, Tryz.results46]
  go_simp
def UnpinOk (S : St) (x : Int) (j : Nat) : Prop := findE S.p x = 0 ∧ PlaceOf S.p x j ∧ hasAt S.p x j = true
set_option maxRecDepth 100000 in
set_option maxHeartbeats 4000000 in
theorem unpinFn_ok (A : Option Addr) (n c : Nat) (RA : Option Addr) (rn rc : Nat) (PA : Option Addr) (pn pc : Nat) (HA : Option Addr) (hn hc : Nat) (S : St) (x : Int) (w : World) (hR : StR w w.heap.size A n RA rn PA pn HA hn S) (hK : StK n c rn pn hn S) (hOK : StOk S) :
    Calls Tryz.prog 47 #[.agg #[.slice A n c, .slice RA rn rc, .slice PA pn pc, .slice HA hn hc], .int .i64 x] w fun e w' => Below w.heap.size w w' ∧
      ((∃ j : Nat, UnpinOk S x j ∧ ∃ (A1 : Option Addr) (c1 : Nat) (A2 : Option Addr) (c2 : Nat) (A3 : Option Addr) (m c3 : Nat) (A4 : Option Addr) (c4 : Nat), e = .returned (.tuple #[.agg #[.slice A1 n c1, .slice A2 rn c2, .slice A3 m c3, .slice A4 hn c4], .int .i64 0]) ∧ StO w' w.heap.size A1 n c1 A2 rn c2 A3 m c3 A4 hn c4 ⟨S.a, S.r, lessP S.p j x (countP S.p x - 1), S.l⟩) ∨
       ((∀ j, ¬ UnpinOk S x j) ∧ dropE S.p x ≠ 0 ∧ e = .returned (.tuple #[.agg #[.slice none 0 0, .slice none 0 0, .slice none 0 0, .slice none 0 0], .int .i64 (dropE S.p x)]))) := by
  have HCk := Lib.hid (fun w hR => stcheck_any A n c RA rn rc PA pn pc HA hn hc S w hR hK)
  rw [stE_ok.2 hOK] at HCk
  obtain ⟨z1, z2, z3, z4⟩ := hR.lens
  obtain ⟨v1, v2, v3, v4⟩ := hands_len hOK
  have HCp := Lib.hid (fun w hR => copied_any A n c RA rn rc PA pn pc HA hn hc S w hR (by omega) (by omega) (by omega) (by omega))
  have HAd := Lib.hid (fun w hr => pdropT_all PA pn pc S.p x w hr (by omega))
  generalize dropE S.p x = ae at *
  generalize hmp : (fun j => lessP S.p j x (countP S.p x - 1)) = mp
  have HMP : Hid (∀ j, lessP S.p j x (countP S.p x - 1) = mp j) := fun j => by rw [← hmp]
  clear hOK z1 z2 z3 z4 v1 v2 v3 v4 hmp
  have hb0 := below_new w (.cells #[.slice A n c, .slice RA rn rc, .slice PA pn pc, .slice HA hn hc] 28)
  have hb1 := hb0.alloc hb0.size (.cells #[.slice none 0 0, .slice none 0 0, .slice none 0 0, .slice none 0 0] 28)
  have DS := (Blk.new w 28 #[.slice A n c, .slice RA rn rc, .slice PA pn pc, .slice HA hn hc]).alloc (.cells #[.slice none 0 0, .slice none 0 0, .slice none 0 0, .slice none 0 0] 28)
  have DR := Blk.new (w.alloc (.cells #[.slice A n c, .slice RA rn rc, .slice PA pn pc, .slice HA hn hc] 28)) 28 #[.slice none 0 0, .slice none 0 0, .slice none 0 0, .slice none 0 0]
  rw [World.size_alloc] at DR
  obtain ⟨s0, s1, s2, s3⟩ := DS.four
  clear hb0
  go_enter Tryz.func47, Tryz.ntmps47
  go_wp2_with fail
  refine (HCk.out _ ((hR.below hb1).more hb1.size)).mono ?_
  rintro e w2 ⟨rfl, hb2⟩
  have hb02 := below_step hb1 hb2
  have DS2 := DS.below hb2 DS.lt
  have DR2 := DR.below hb2 DR.lt
  clear s0 s1 s2 s3 hb1 hb2 DS DR
  obtain ⟨s0, s1, s2, s3⟩ := DS2.four
  go_wp2_with fail
  refine (HAd.out _ ((hR.p.below hb02).more hb02.size)).mono ?_
  rintro e w4 ⟨hb4, ⟨hF, j, hj1, hj2, A5, c5, rfl, hN⟩ | ⟨hno, er, her, rfl, rfl⟩⟩
  · have hPO := Lib.hid (show UnpinOk S x j from ⟨hF, hj1, hj2⟩)
    have hb0x := below_step hb02 hb4
    have DSx := DS2.below hb4 DS2.lt
    have DRx := DR2.below hb4 DR2.lt
    have hlt : w.heap.size + 1 < w4.heap.size := DRx.lt
    rw [HMP.out] at hN
    rw [HMP.out]
    obtain ⟨m, hm⟩ : ∃ m, m = (mp j).length := ⟨_, rfl⟩
    rw [← hm] at hN
    rw [← hm]
    clear hm hF hj1 hj2 s0 s1 s2 s3
    obtain ⟨s0, s1, s2, s3⟩ := DSx.four
    go_wp2_with fail
    refine (HCp.out _ ((hR.below hb0x).more hb0x.size)).mono ?_
    rintro e wc ⟨hbc, A1, c1, A2, c2, A3, c3, A4, c4, rfl, hO⟩
    have hb03 := below_step hb0x hbc
    have DS3 := DSx.below hbc DSx.lt
    have DR3 := DRx.below hbc DRx.lt
    have hN3 := own_belowT hN hbc
    clear s0 s1 s2 s3
    obtain ⟨s0, s1, s2, s3⟩ := DS3.four
    obtain ⟨f0, f1, f2, f3⟩ := DS3.four_frozen
    have hO4 := (hO.store DS3 (.slice A1 n c1) (.slice A2 rn c2) (.slice A3 pn c3) (.slice A4 hn c4)).mono hb0x.size
    have hN4 := own_monoT (own_block4T hN3 DS3 (by decide) (.slice A1 n c1) (.slice A2 rn c2) (.slice A3 pn c3) (.slice A4 hn c4)) hb02.size
    have DS4 := DS3.store4 (.slice A1 n c1) (.slice A2 rn c2) (.slice A3 pn c3) (.slice A4 hn c4)
    have DR4 := DR3.far4 (g' := w.heap.size) (by omega) (.slice A1 n c1) (.slice A2 rn c2) (.slice A3 pn c3) (.slice A4 hn c4)
    have hb04 := below_block4 (g := w.heap.size) hb03 (Nat.le_refl _) (.slice A1 n c1) (.slice A2 rn c2) (.slice A3 pn c3) (.slice A4 hn c4)
    obtain ⟨d0, d1, d2, d3⟩ := DS4.four
    obtain ⟨k0, k1, k2, k3⟩ := DS4.four_frozen
    have DS5 := DS4.set_ 2 (.slice A5 m c5)
    have DR5 := DR4.far (p := ⟨w.heap.size, 2, none⟩) (by dsimp only; omega) (.slice A5 m c5)
    have hb05 := hb04.setCell (p := ⟨w.heap.size, 2, none⟩) (Nat.le_refl _) (.slice A5 m c5)
    have p5 : ∀ {base e size ok k v xs}, OwnT _ base e size ok v k xs → e ≠ 28 → OwnT _ base e size ok v k xs := fun {base e size ok k v xs} (h : OwnT _ base e size ok v k xs) hne => own_apartT h (p := ⟨w.heap.size, 2, none⟩) (own_blkT h DS4 hne) (.slice A5 m c5)
    have hO5 : StO _ w.heap.size A1 n c1 A2 rn c2 A5 m c5 A4 hn c4 ⟨S.a, S.r, mp j, S.l⟩ := ⟨p5 hO4.a (by decide), p5 hO4.r (by decide), p5 hN4 (by decide), p5 hO4.l (by decide)⟩
    obtain ⟨o0, o1, o2, o3⟩ := DS5.four
    obtain ⟨r0, r1, r2, r3⟩ := DR5.four
    obtain ⟨h0, h1, h2, h3⟩ := DR5.four_frozen
    clear hO4 hO hN3 hN4 p5
    go_wp2_with fail
    refine bodyPost_ret (v := .tuple #[.agg #[.slice A1 n c1, .slice A2 rn c2, .slice A5 m c5, .slice A4 hn c4], .int .i64 0]) ?_ rfl ⟨below_block4 hb05 (Nat.le_succ _) _ _ _ _, .inl ⟨j, hPO.out, A1, c1, A2, c2, A5, m, c5, A4, c4, rfl, ?_⟩⟩
    · obtain ⟨z0, z1, z2, z3⟩ := (DR5.store4 (.slice A1 n c1) (.slice A2 rn c2) (.slice A5 m c5) (.slice A4 hn c4)).four
      simp only [results, Tryz.results47]
      go_simp
    · rw [HMP.out]
      exact hO5.store DR5 _ _ _ _
  · have hb0x := below_step hb02 hb4
    have DRx := DR2.below hb4 DR2.lt
    have HNo : Hid (∀ j, ¬ UnpinOk S x j) := fun j h => hno ⟨h.1, j, h.2.1, h.2.2⟩
    have HA : Hid (er ≠ 0) := by show _ ≠ _; simpa using her
    clear hno s0 s1 s2 s3
    obtain ⟨r0, r1, r2, r3⟩ := DRx.four
    obtain ⟨f0, f1, f2, f3⟩ := DRx.four_frozen
    go_wp2_with fail
    refine bodyPost_ret (v := .tuple #[.agg #[.slice none 0 0, .slice none 0 0, .slice none 0 0, .slice none 0 0], .int .i64 er]) ?_ rfl ⟨below_block4 hb0x (Nat.le_succ _) _ _ _ _, .inr ⟨HNo.out, HA.out, rfl⟩⟩
    obtain ⟨z0, z1, z2, z3⟩ := (DRx.store4 (.slice none 0 0) (.slice none 0 0) (.slice none 0 0) (.slice none 0 0)).four
    simp only [results, Tryz.results47]
    go_simp
set_option maxRecDepth 100000 in
set_option maxHeartbeats 4000000 in
theorem unpinFn_bad (A : Option Addr) (n c : Nat) (RA : Option Addr) (rn rc : Nat) (PA : Option Addr) (pn pc : Nat) (HA : Option Addr) (hn hc : Nat) (S : St) (x : Int) (w : World) (hR : StR w w.heap.size A n RA rn PA pn HA hn S) (hK : StK n c rn pn hn S) (hE : stE S ≠ 0) :
    Calls Tryz.prog 47 #[.agg #[.slice A n c, .slice RA rn rc, .slice PA pn pc, .slice HA hn hc], .int .i64 x] w fun e w' => Below w.heap.size w w' ∧ e = .returned (.tuple #[.agg #[.slice none 0 0, .slice none 0 0, .slice none 0 0, .slice none 0 0], .int .i64 (stE S)]) := by
  have HB := Lib.hid (fun w hR => stcheck_any A n c RA rn rc PA pn pc HA hn hc S w hR hK)
  have g1 : (stE S != 0) = true := by simpa using hE
  generalize stE S = F at *
  have hb0 := below_new w (.cells #[.slice A n c, .slice RA rn rc, .slice PA pn pc, .slice HA hn hc] 28)
  have hb1 := hb0.alloc hb0.size (.cells #[.slice none 0 0, .slice none 0 0, .slice none 0 0, .slice none 0 0] 28)
  have DS := (Blk.new w 28 #[.slice A n c, .slice RA rn rc, .slice PA pn pc, .slice HA hn hc]).alloc (.cells #[.slice none 0 0, .slice none 0 0, .slice none 0 0, .slice none 0 0] 28)
  have DR := Blk.new (w.alloc (.cells #[.slice A n c, .slice RA rn rc, .slice PA pn pc, .slice HA hn hc] 28)) 28 #[.slice none 0 0, .slice none 0 0, .slice none 0 0, .slice none 0 0]
  rw [World.size_alloc] at DR
  obtain ⟨s0, s1, s2, s3⟩ := DS.four
  clear hb0
  go_enter Tryz.func47, Tryz.ntmps47
  go_wp2_with fail
  refine (HB.out _ ((hR.below hb1).more hb1.size)).mono ?_
  rintro e w2 ⟨rfl, hb2⟩
  have hb02 := below_step hb1 hb2
  have DR2 := DR.below hb2 DR.lt
  clear s0 s1 s2 s3
  obtain ⟨r0, r1, r2, r3⟩ := DR2.four
  obtain ⟨f0, f1, f2, f3⟩ := DR2.four_frozen
  go_wp2_with fail
  refine bodyPost_ret (v := .tuple #[.agg #[.slice none 0 0, .slice none 0 0, .slice none 0 0, .slice none 0 0], .int .i64 F]) ?_ rfl ⟨below_block4 hb02 (Nat.le_succ _) _ _ _ _, rfl⟩
  obtain ⟨z0, z1, z2, z3⟩ := (DR2.store4 (.slice none 0 0) (.slice none 0 0) (.slice none 0 0) (.slice none 0 0)).four
  simp only [results, Tryz.results47]
  go_simp
set_option maxRecDepth 100000 in
set_option maxHeartbeats 4000000 in
theorem openFn_ok (A : Option Addr) (n c : Nat) (RA : Option Addr) (rn rc : Nat) (PA : Option Addr) (pn pc : Nat) (HA : Option Addr) (hn hc : Nat) (S : St) (k X : Nat) (s : Spot) (i j : Nat) (sl : Slot) (w : World) (hR : StR w w.heap.size A n RA rn PA pn HA hn S) (hK : StK n c rn pn hn S) (hOK : StOk S) (hx : S.r[k]? = some (X : Int)) (hO : ObjAt S X s i) (hE : openE S.l X = 0) (hj : freeIx S.l = j) (hs : S.l[j]? = some sl) (hfr : slotFree sl = true) :
    Calls Tryz.prog 49 #[.agg #[.slice A n c, .slice RA rn rc, .slice PA pn pc, .slice HA hn hc], .int .i64 k] w fun e w' => Below w.heap.size w w' ∧
      ∃ (A1 : Option Addr) (c1 : Nat) (A2 : Option Addr) (c2 : Nat) (A3 : Option Addr) (c3 : Nat) (A4 : Option Addr) (c4 : Nat), e = .returned (.tuple #[.agg #[.slice A1 n c1, .slice A2 rn c2, .slice A3 pn c3, .slice A4 hn c4], .int .u64 (j + (sl.gen + 1) * 65536), .int .i64 0]) ∧ StO w' w.heap.size A1 n c1 A2 rn c2 A3 pn c3 A4 hn c4 ⟨S.a, S.r, S.p, S.l.set j ⟨sl.gen + 1, true, (X : Int)⟩⟩ := by
  have HOb := Lib.hid (fun w hR => object_ok A n c RA rn rc PA pn pc HA hn hc S k X s i w hR hK hOK hx (by omega) hO)
  obtain ⟨z1, z2, z3, z4⟩ := hR.lens
  obtain ⟨v1, v2, v3, v4⟩ := hands_len hOK
  have HCp := Lib.hid (fun w hR => copied_any A n c RA rn rc PA pn pc HA hn hc S w hR (by omega) (by omega) (by omega) (by omega))
  have HAd := Lib.hid (fun w (hr : Reads w w.heap.size 3 HA hn (slotsC S.l)) => openT_ok HA hn hc w.heap.size S.l X j sl w hr (Nat.le_refl _) hE hj hs hfr)
  generalize s.t = t at *
  generalize (refIx (spotsL S.a) S.a s).map (Value.int .i64) = l1 at *
  generalize (bodyOf S.a s).map (Value.int .u64) = l2 at *
  generalize s.r.toNat = q1 at *
  generalize s.b.toNat = q2 at *
  generalize S.l.set j ⟨sl.gen + 1, true, (X : Int)⟩ = nl at *
  generalize (j : Int) + (sl.gen + 1) * 65536 = nm at *
  clear hOK hx hO z1 z2 z3 z4 v1 v2 v3 v4 hE hj hs hfr
  have hb0 := below_new w (.cells #[.slice A n c, .slice RA rn rc, .slice PA pn pc, .slice HA hn hc] 28)
  have hb1 := hb0.alloc hb0.size (.cells #[.slice none 0 0, .slice none 0 0, .slice none 0 0, .slice none 0 0] 28)
  have DS := (Blk.new w 28 #[.slice A n c, .slice RA rn rc, .slice PA pn pc, .slice HA hn hc]).alloc (.cells #[.slice none 0 0, .slice none 0 0, .slice none 0 0, .slice none 0 0] 28)
  have DR := Blk.new (w.alloc (.cells #[.slice A n c, .slice RA rn rc, .slice PA pn pc, .slice HA hn hc] 28)) 28 #[.slice none 0 0, .slice none 0 0, .slice none 0 0, .slice none 0 0]
  rw [World.size_alloc] at DR
  obtain ⟨s0, s1, s2, s3⟩ := DS.four
  clear hb0
  go_enter Tryz.func49, Tryz.ntmps49
  go_wp2_with fail
  refine (HOb.out _ ((hR.below hb1).more hb1.size)).mono ?_
  rintro e w2 ⟨hb2, B1, d1, B2, d2, rfl, -, -⟩
  have hb02 := (below_step hb1 hb2).alloc (below_step hb1 hb2).size (.cells #[.int .i64 t, .slice B1 q1 d1, .slice B2 q2 d2, .bool false] 113)
  have DS2 := (DS.below hb2 DS.lt).alloc (.cells #[.int .i64 t, .slice B1 q1 d1, .slice B2 q2 d2, .bool false] 113)
  have DR2 := (DR.below hb2 DR.lt).alloc (.cells #[.int .i64 t, .slice B1 q1 d1, .slice B2 q2 d2, .bool false] 113)
  clear s0 s1 s2 s3 hb1 hb2 DS DR
  obtain ⟨s0, s1, s2, s3⟩ := DS2.four
  go_wp2_with fail
  refine (HAd.out _ ((hR.l.below hb02).more hb02.size)).mono ?_
  rintro e w4 ⟨hb4, A5, c5, rfl, hN⟩
  have hb0x := below_step hb02 hb4
  have DSx := DS2.below hb4 DS2.lt
  have DRx := DR2.below hb4 DR2.lt
  have hlt : w.heap.size + 1 < w4.heap.size := DRx.lt
  clear s0 s1 s2 s3
  obtain ⟨s0, s1, s2, s3⟩ := DSx.four
  go_wp2_with fail
  refine (HCp.out _ ((hR.below hb0x).more hb0x.size)).mono ?_
  rintro e wc ⟨hbc, A1, c1, A2, c2, A3, c3, A4, c4, rfl, hO⟩
  have hb03 := below_step hb0x hbc
  have DS3 := DSx.below hbc DSx.lt
  have DR3 := DRx.below hbc DRx.lt
  have hN3 := own_belowT hN hbc
  clear s0 s1 s2 s3
  obtain ⟨s0, s1, s2, s3⟩ := DS3.four
  obtain ⟨f0, f1, f2, f3⟩ := DS3.four_frozen
  have hO4 := (hO.store DS3 (.slice A1 n c1) (.slice A2 rn c2) (.slice A3 pn c3) (.slice A4 hn c4)).mono hb0x.size
  have hN4 := own_monoT (own_block4T hN3 DS3 (by decide) (.slice A1 n c1) (.slice A2 rn c2) (.slice A3 pn c3) (.slice A4 hn c4)) hb02.size
  have DS4 := DS3.store4 (.slice A1 n c1) (.slice A2 rn c2) (.slice A3 pn c3) (.slice A4 hn c4)
  have DR4 := DR3.far4 (g' := w.heap.size) (by omega) (.slice A1 n c1) (.slice A2 rn c2) (.slice A3 pn c3) (.slice A4 hn c4)
  have hb04 := below_block4 (g := w.heap.size) hb03 (Nat.le_refl _) (.slice A1 n c1) (.slice A2 rn c2) (.slice A3 pn c3) (.slice A4 hn c4)
  obtain ⟨d0, d1, d2, d3⟩ := DS4.four
  obtain ⟨k0, k1, k2, k3⟩ := DS4.four_frozen
  have DS5 := DS4.set_ 3 (.slice A5 hn c5)
  have DR5 := DR4.far (p := ⟨w.heap.size, 3, none⟩) (by dsimp only; omega) (.slice A5 hn c5)
  have hb05 := hb04.setCell (p := ⟨w.heap.size, 3, none⟩) (Nat.le_refl _) (.slice A5 hn c5)
  have p5 : ∀ {base e size ok k v xs}, OwnT _ base e size ok v k xs → e ≠ 28 → OwnT _ base e size ok v k xs := fun {base e size ok k v xs} (h : OwnT _ base e size ok v k xs) hne => own_apartT h (p := ⟨w.heap.size, 3, none⟩) (own_blkT h DS4 hne) (.slice A5 hn c5)
  have hO5 : StO _ w.heap.size A1 n c1 A2 rn c2 A3 pn c3 A5 hn c5 ⟨S.a, S.r, S.p, nl⟩ := ⟨p5 hO4.a (by decide), p5 hO4.r (by decide), p5 hO4.p (by decide), p5 hN4 (by decide)⟩
  obtain ⟨o0, o1, o2, o3⟩ := DS5.four
  obtain ⟨r0, r1, r2, r3⟩ := DR5.four
  obtain ⟨h0, h1, h2, h3⟩ := DR5.four_frozen
  clear hO4 hO hN3 hN4 p5
  go_wp2_with fail
  refine bodyPost_ret (v := .tuple #[.agg #[.slice A1 n c1, .slice A2 rn c2, .slice A3 pn c3, .slice A5 hn c5], .int .u64 nm, .int .i64 0]) ?_ rfl ⟨below_block4 hb05 (Nat.le_succ _) _ _ _ _, A1, c1, A2, c2, A3, c3, A5, c5, rfl, hO5.store DR5 _ _ _ _⟩
  obtain ⟨z0, z1, z2, z3⟩ := (DR5.store4 (.slice A1 n c1) (.slice A2 rn c2) (.slice A3 pn c3) (.slice A5 hn c5)).four
  simp only [results, Tryz.results49]
  go_simp
set_option maxRecDepth 100000 in
set_option maxHeartbeats 4000000 in
theorem openFn_full (A : Option Addr) (n c : Nat) (RA : Option Addr) (rn rc : Nat) (PA : Option Addr) (pn pc : Nat) (HA : Option Addr) (hn hc : Nat) (S : St) (k X : Nat) (s : Spot) (i : Nat) (w : World) (hR : StR w w.heap.size A n RA rn PA pn HA hn S) (hK : StK n c rn pn hn S) (hOK : StOk S) (hx : S.r[k]? = some (X : Int)) (hO : ObjAt S X s i) (hE : openE S.l X ≠ 0) :
    Calls Tryz.prog 49 #[.agg #[.slice A n c, .slice RA rn rc, .slice PA pn pc, .slice HA hn hc], .int .i64 k] w fun e w' => Below w.heap.size w w' ∧ e = .returned (.tuple #[.agg #[.slice none 0 0, .slice none 0 0, .slice none 0 0, .slice none 0 0], .int .u64 0, .int .i64 (openE S.l X)]) := by
  have HOb := Lib.hid (fun w hR => object_ok A n c RA rn rc PA pn pc HA hn hc S k X s i w hR hK hOK hx (by omega) hO)
  have HAd := Lib.hid (fun w (hr : Reads w w.heap.size 3 HA hn (slotsC S.l)) => open_bad HA hn hc w.heap.size S.l X w hr (Nat.le_refl _) hE)
  have g1 : (openE S.l X != 0) = true := by simpa using hE
  generalize s.t = t at *
  generalize (refIx (spotsL S.a) S.a s).map (Value.int .i64) = l1 at *
  generalize (bodyOf S.a s).map (Value.int .u64) = l2 at *
  generalize s.r.toNat = q1 at *
  generalize s.b.toNat = q2 at *
  generalize openE S.l X = F at *
  clear hOK hx hO hE
  have hb0 := below_new w (.cells #[.slice A n c, .slice RA rn rc, .slice PA pn pc, .slice HA hn hc] 28)
  have hb1 := hb0.alloc hb0.size (.cells #[.slice none 0 0, .slice none 0 0, .slice none 0 0, .slice none 0 0] 28)
  have DS := (Blk.new w 28 #[.slice A n c, .slice RA rn rc, .slice PA pn pc, .slice HA hn hc]).alloc (.cells #[.slice none 0 0, .slice none 0 0, .slice none 0 0, .slice none 0 0] 28)
  have DR := Blk.new (w.alloc (.cells #[.slice A n c, .slice RA rn rc, .slice PA pn pc, .slice HA hn hc] 28)) 28 #[.slice none 0 0, .slice none 0 0, .slice none 0 0, .slice none 0 0]
  rw [World.size_alloc] at DR
  obtain ⟨s0, s1, s2, s3⟩ := DS.four
  clear hb0
  go_enter Tryz.func49, Tryz.ntmps49
  go_wp2_with fail
  refine (HOb.out _ ((hR.below hb1).more hb1.size)).mono ?_
  rintro e w2 ⟨hb2, B1, d1, B2, d2, rfl, -, -⟩
  have hb02 := (below_step hb1 hb2).alloc (below_step hb1 hb2).size (.cells #[.int .i64 t, .slice B1 q1 d1, .slice B2 q2 d2, .bool false] 113)
  have DS2 := (DS.below hb2 DS.lt).alloc (.cells #[.int .i64 t, .slice B1 q1 d1, .slice B2 q2 d2, .bool false] 113)
  have DR2 := (DR.below hb2 DR.lt).alloc (.cells #[.int .i64 t, .slice B1 q1 d1, .slice B2 q2 d2, .bool false] 113)
  clear s0 s1 s2 s3 hb1 hb2 DS DR
  obtain ⟨s0, s1, s2, s3⟩ := DS2.four
  go_wp2_with fail
  refine (HAd.out _ ((hR.l.below hb02).more hb02.size)).mono ?_
  rintro e w4 ⟨rfl, hb4⟩
  have hb0x := below_step hb02 hb4
  have DRx := DR2.below hb4 DR2.lt
  clear s0 s1 s2 s3
  obtain ⟨r0, r1, r2, r3⟩ := DRx.four
  obtain ⟨f0, f1, f2, f3⟩ := DRx.four_frozen
  go_wp2_with fail
  refine bodyPost_ret (v := .tuple #[.agg #[.slice none 0 0, .slice none 0 0, .slice none 0 0, .slice none 0 0], .int .u64 0, .int .i64 F]) ?_ rfl ⟨below_block4 hb0x (Nat.le_succ _) _ _ _ _, rfl⟩
  obtain ⟨z0, z1, z2, z3⟩ := (DRx.store4 (.slice none 0 0) (.slice none 0 0) (.slice none 0 0) (.slice none 0 0)).four
  simp only [results, Tryz.results49]
  go_simp
set_option maxRecDepth 100000 in
set_option maxHeartbeats 4000000 in
theorem openFn_bad (A : Option Addr) (n c : Nat) (RA : Option Addr) (rn rc : Nat) (PA : Option Addr) (pn pc : Nat) (HA : Option Addr) (hn hc : Nat) (S : St) (slot : Int) (w : World) (hR : StR w w.heap.size A n RA rn PA pn HA hn S) (hK : StK n c rn pn hn S) (hE : objE S slot ≠ 0) :
    Calls Tryz.prog 49 #[.agg #[.slice A n c, .slice RA rn rc, .slice PA pn pc, .slice HA hn hc], .int .i64 slot] w fun e w' => Below w.heap.size w w' ∧ e = .returned (.tuple #[.agg #[.slice none 0 0, .slice none 0 0, .slice none 0 0, .slice none 0 0], .int .u64 0, .int .i64 (objE S slot)]) := by
  have HB := Lib.hid (fun w hR => object_bad A n c RA rn rc PA pn pc HA hn hc S slot w hR hK hE)
  have g1 : (objE S slot != 0) = true := by simpa using hE
  generalize objE S slot = F at *
  have hb0 := below_new w (.cells #[.slice A n c, .slice RA rn rc, .slice PA pn pc, .slice HA hn hc] 28)
  have hb1 := hb0.alloc hb0.size (.cells #[.slice none 0 0, .slice none 0 0, .slice none 0 0, .slice none 0 0] 28)
  have DS := (Blk.new w 28 #[.slice A n c, .slice RA rn rc, .slice PA pn pc, .slice HA hn hc]).alloc (.cells #[.slice none 0 0, .slice none 0 0, .slice none 0 0, .slice none 0 0] 28)
  have DR := Blk.new (w.alloc (.cells #[.slice A n c, .slice RA rn rc, .slice PA pn pc, .slice HA hn hc] 28)) 28 #[.slice none 0 0, .slice none 0 0, .slice none 0 0, .slice none 0 0]
  rw [World.size_alloc] at DR
  obtain ⟨s0, s1, s2, s3⟩ := DS.four
  clear hb0
  go_enter Tryz.func49, Tryz.ntmps49
  go_wp2_with fail
  refine (HB.out _ ((hR.below hb1).more hb1.size)).mono ?_
  rintro e w2 ⟨hb2, rfl⟩
  have hb02 := (below_step hb1 hb2).alloc (below_step hb1 hb2).size (.cells #[.int .i64 0, .slice none 0 0, .slice none 0 0, .bool false] 113)
  have DR2 := (DR.below hb2 DR.lt).alloc (.cells #[.int .i64 0, .slice none 0 0, .slice none 0 0, .bool false] 113)
  clear s0 s1 s2 s3
  obtain ⟨r0, r1, r2, r3⟩ := DR2.four
  obtain ⟨f0, f1, f2, f3⟩ := DR2.four_frozen
  go_wp2_with fail
  refine bodyPost_ret (v := .tuple #[.agg #[.slice none 0 0, .slice none 0 0, .slice none 0 0, .slice none 0 0], .int .u64 0, .int .i64 F]) ?_ rfl ⟨below_block4 hb02 (Nat.le_succ _) _ _ _ _, rfl⟩
  obtain ⟨z0, z1, z2, z3⟩ := (DR2.store4 (.slice none 0 0) (.slice none 0 0) (.slice none 0 0) (.slice none 0 0)).four
  simp only [results, Tryz.results49]
  go_simp
set_option maxRecDepth 100000 in
set_option maxHeartbeats 4000000 in
theorem shutFn_ok (A : Option Addr) (n c : Nat) (RA : Option Addr) (rn rc : Nat) (PA : Option Addr) (pn pc : Nat) (HA : Option Addr) (hn hc : Nat) (S : St) (x : Int) (j : Nat) (sl : Slot) (w : World) (hR : StR w w.heap.size A n RA rn PA pn HA hn S) (hK : StK n c rn pn hn S) (hOK : StOk S) (x0 : 0 ≤ x) (x1 : x < 18446744073709551616) (hf : Found S.l x j sl) :
    Calls Tryz.prog 51 #[.agg #[.slice A n c, .slice RA rn rc, .slice PA pn pc, .slice HA hn hc], .int .u64 x] w fun e w' => Below w.heap.size w w' ∧
      ∃ (A1 : Option Addr) (c1 : Nat) (A2 : Option Addr) (c2 : Nat) (A3 : Option Addr) (c3 : Nat) (A4 : Option Addr) (c4 : Nat), e = .returned (.tuple #[.agg #[.slice A1 n c1, .slice A2 rn c2, .slice A3 pn c3, .slice A4 hn c4], .int .i64 0]) ∧ StO w' w.heap.size A1 n c1 A2 rn c2 A3 pn c3 A4 hn c4 ⟨S.a, S.r, S.p, S.l.set j ⟨sl.gen, false, 0⟩⟩ := by
  have HCk := Lib.hid (fun w hR => stcheck_any A n c RA rn rc PA pn pc HA hn hc S w hR hK)
  rw [stE_ok.2 hOK] at HCk
  obtain ⟨z1, z2, z3, z4⟩ := hR.lens
  obtain ⟨v1, v2, v3, v4⟩ := hands_len hOK
  have HCp := Lib.hid (fun w hR => copied_any A n c RA rn rc PA pn pc HA hn hc S w hR (by omega) (by omega) (by omega) (by omega))
  have HAd := Lib.hid (fun w (hr : Reads w w.heap.size 3 HA hn (slotsC S.l)) => closeT_ok HA hn hc w.heap.size S.l x j sl w hr (Nat.le_refl _) hOK.hands x0 x1 hf)
  generalize S.l.set j ⟨sl.gen, false, 0⟩ = nl at *
  clear hOK z1 z2 z3 z4 v1 v2 v3 v4 hf
  have hb0 := below_new w (.cells #[.slice A n c, .slice RA rn rc, .slice PA pn pc, .slice HA hn hc] 28)
  have hb1 := hb0.alloc hb0.size (.cells #[.slice none 0 0, .slice none 0 0, .slice none 0 0, .slice none 0 0] 28)
  have DS := (Blk.new w 28 #[.slice A n c, .slice RA rn rc, .slice PA pn pc, .slice HA hn hc]).alloc (.cells #[.slice none 0 0, .slice none 0 0, .slice none 0 0, .slice none 0 0] 28)
  have DR := Blk.new (w.alloc (.cells #[.slice A n c, .slice RA rn rc, .slice PA pn pc, .slice HA hn hc] 28)) 28 #[.slice none 0 0, .slice none 0 0, .slice none 0 0, .slice none 0 0]
  rw [World.size_alloc] at DR
  obtain ⟨s0, s1, s2, s3⟩ := DS.four
  clear hb0
  go_enter Tryz.func51, Tryz.ntmps51
  go_wp2_with fail
  refine (HCk.out _ ((hR.below hb1).more hb1.size)).mono ?_
  rintro e w2 ⟨rfl, hb2⟩
  have hb02 := below_step hb1 hb2
  have DS2 := DS.below hb2 DS.lt
  have DR2 := DR.below hb2 DR.lt
  clear s0 s1 s2 s3 hb1 hb2 DS DR
  obtain ⟨s0, s1, s2, s3⟩ := DS2.four
  go_wp2_with fail
  refine (HAd.out _ ((hR.l.below hb02).more hb02.size)).mono ?_
  rintro e w4 ⟨hb4, A5, c5, rfl, hN⟩
  have hb0x := below_step hb02 hb4
  have DSx := DS2.below hb4 DS2.lt
  have DRx := DR2.below hb4 DR2.lt
  have hlt : w.heap.size + 1 < w4.heap.size := DRx.lt
  clear s0 s1 s2 s3
  obtain ⟨s0, s1, s2, s3⟩ := DSx.four
  go_wp2_with fail
  refine (HCp.out _ ((hR.below hb0x).more hb0x.size)).mono ?_
  rintro e wc ⟨hbc, A1, c1, A2, c2, A3, c3, A4, c4, rfl, hO⟩
  have hb03 := below_step hb0x hbc
  have DS3 := DSx.below hbc DSx.lt
  have DR3 := DRx.below hbc DRx.lt
  have hN3 := own_belowT hN hbc
  clear s0 s1 s2 s3
  obtain ⟨s0, s1, s2, s3⟩ := DS3.four
  obtain ⟨f0, f1, f2, f3⟩ := DS3.four_frozen
  have hO4 := (hO.store DS3 (.slice A1 n c1) (.slice A2 rn c2) (.slice A3 pn c3) (.slice A4 hn c4)).mono hb0x.size
  have hN4 := own_monoT (own_block4T hN3 DS3 (by decide) (.slice A1 n c1) (.slice A2 rn c2) (.slice A3 pn c3) (.slice A4 hn c4)) hb02.size
  have DS4 := DS3.store4 (.slice A1 n c1) (.slice A2 rn c2) (.slice A3 pn c3) (.slice A4 hn c4)
  have DR4 := DR3.far4 (g' := w.heap.size) (by omega) (.slice A1 n c1) (.slice A2 rn c2) (.slice A3 pn c3) (.slice A4 hn c4)
  have hb04 := below_block4 (g := w.heap.size) hb03 (Nat.le_refl _) (.slice A1 n c1) (.slice A2 rn c2) (.slice A3 pn c3) (.slice A4 hn c4)
  obtain ⟨d0, d1, d2, d3⟩ := DS4.four
  obtain ⟨k0, k1, k2, k3⟩ := DS4.four_frozen
  have DS5 := DS4.set_ 3 (.slice A5 hn c5)
  have DR5 := DR4.far (p := ⟨w.heap.size, 3, none⟩) (by dsimp only; omega) (.slice A5 hn c5)
  have hb05 := hb04.setCell (p := ⟨w.heap.size, 3, none⟩) (Nat.le_refl _) (.slice A5 hn c5)
  have p5 : ∀ {base e size ok k v xs}, OwnT _ base e size ok v k xs → e ≠ 28 → OwnT _ base e size ok v k xs := fun {base e size ok k v xs} (h : OwnT _ base e size ok v k xs) hne => own_apartT h (p := ⟨w.heap.size, 3, none⟩) (own_blkT h DS4 hne) (.slice A5 hn c5)
  have hO5 : StO _ w.heap.size A1 n c1 A2 rn c2 A3 pn c3 A5 hn c5 ⟨S.a, S.r, S.p, nl⟩ := ⟨p5 hO4.a (by decide), p5 hO4.r (by decide), p5 hO4.p (by decide), p5 hN4 (by decide)⟩
  obtain ⟨o0, o1, o2, o3⟩ := DS5.four
  obtain ⟨r0, r1, r2, r3⟩ := DR5.four
  obtain ⟨h0, h1, h2, h3⟩ := DR5.four_frozen
  clear hO4 hO hN3 hN4 p5
  go_wp2_with fail
  refine bodyPost_ret (v := .tuple #[.agg #[.slice A1 n c1, .slice A2 rn c2, .slice A3 pn c3, .slice A5 hn c5], .int .i64 0]) ?_ rfl ⟨below_block4 hb05 (Nat.le_succ _) _ _ _ _, A1, c1, A2, c2, A3, c3, A5, c5, rfl, hO5.store DR5 _ _ _ _⟩
  obtain ⟨z0, z1, z2, z3⟩ := (DR5.store4 (.slice A1 n c1) (.slice A2 rn c2) (.slice A3 pn c3) (.slice A5 hn c5)).four
  simp only [results, Tryz.results51]
  go_simp
set_option maxRecDepth 100000 in
set_option maxHeartbeats 4000000 in
theorem shutFn_stale (A : Option Addr) (n c : Nat) (RA : Option Addr) (rn rc : Nat) (PA : Option Addr) (pn pc : Nat) (HA : Option Addr) (hn hc : Nat) (S : St) (x : Int) (w : World) (hR : StR w w.heap.size A n RA rn PA pn HA hn S) (hK : StK n c rn pn hn S) (hOK : StOk S) (x0 : 0 ≤ x) (x1 : x < 18446744073709551616) (hf : ∀ j sl, ¬ Found S.l x j sl) :
    Calls Tryz.prog 51 #[.agg #[.slice A n c, .slice RA rn rc, .slice PA pn pc, .slice HA hn hc], .int .u64 x] w fun e w' => Below w.heap.size w w' ∧ e = .returned (.tuple #[.agg #[.slice none 0 0, .slice none 0 0, .slice none 0 0, .slice none 0 0], .int .i64 9]) := by
  have HCk := Lib.hid (fun w hR => stcheck_any A n c RA rn rc PA pn pc HA hn hc S w hR hK)
  rw [stE_ok.2 hOK] at HCk
  have HAd := Lib.hid (fun w (hr : Reads w w.heap.size 3 HA hn (slotsC S.l)) => close_stale HA hn hc w.heap.size S.l x w hr (Nat.le_refl _) hOK.hands x0 x1 hf)
  clear hOK hf
  have hb0 := below_new w (.cells #[.slice A n c, .slice RA rn rc, .slice PA pn pc, .slice HA hn hc] 28)
  have hb1 := hb0.alloc hb0.size (.cells #[.slice none 0 0, .slice none 0 0, .slice none 0 0, .slice none 0 0] 28)
  have DS := (Blk.new w 28 #[.slice A n c, .slice RA rn rc, .slice PA pn pc, .slice HA hn hc]).alloc (.cells #[.slice none 0 0, .slice none 0 0, .slice none 0 0, .slice none 0 0] 28)
  have DR := Blk.new (w.alloc (.cells #[.slice A n c, .slice RA rn rc, .slice PA pn pc, .slice HA hn hc] 28)) 28 #[.slice none 0 0, .slice none 0 0, .slice none 0 0, .slice none 0 0]
  rw [World.size_alloc] at DR
  obtain ⟨s0, s1, s2, s3⟩ := DS.four
  clear hb0
  go_enter Tryz.func51, Tryz.ntmps51
  go_wp2_with fail
  refine (HCk.out _ ((hR.below hb1).more hb1.size)).mono ?_
  rintro e w2 ⟨rfl, hb2⟩
  have hb02 := below_step hb1 hb2
  have DS2 := DS.below hb2 DS.lt
  have DR2 := DR.below hb2 DR.lt
  clear s0 s1 s2 s3 hb1 hb2 DS DR
  obtain ⟨s0, s1, s2, s3⟩ := DS2.four
  go_wp2_with fail
  refine (HAd.out _ ((hR.l.below hb02).more hb02.size)).mono ?_
  rintro e w4 ⟨rfl, hb4⟩
  have hb0x := below_step hb02 hb4
  have DRx := DR2.below hb4 DR2.lt
  clear s0 s1 s2 s3
  obtain ⟨r0, r1, r2, r3⟩ := DRx.four
  obtain ⟨f0, f1, f2, f3⟩ := DRx.four_frozen
  go_wp2_with fail
  refine bodyPost_ret (v := .tuple #[.agg #[.slice none 0 0, .slice none 0 0, .slice none 0 0, .slice none 0 0], .int .i64 9]) ?_ rfl ⟨below_block4 hb0x (Nat.le_succ _) _ _ _ _, rfl⟩
  obtain ⟨z0, z1, z2, z3⟩ := (DRx.store4 (.slice none 0 0) (.slice none 0 0) (.slice none 0 0) (.slice none 0 0)).four
  simp only [results, Tryz.results51]
  go_simp
set_option maxRecDepth 100000 in
set_option maxHeartbeats 4000000 in
theorem shutFn_bad (A : Option Addr) (n c : Nat) (RA : Option Addr) (rn rc : Nat) (PA : Option Addr) (pn pc : Nat) (HA : Option Addr) (hn hc : Nat) (S : St) (x : Int) (w : World) (hR : StR w w.heap.size A n RA rn PA pn HA hn S) (hK : StK n c rn pn hn S) (hE : stE S ≠ 0) :
    Calls Tryz.prog 51 #[.agg #[.slice A n c, .slice RA rn rc, .slice PA pn pc, .slice HA hn hc], .int .u64 x] w fun e w' => Below w.heap.size w w' ∧ e = .returned (.tuple #[.agg #[.slice none 0 0, .slice none 0 0, .slice none 0 0, .slice none 0 0], .int .i64 (stE S)]) := by
  have HB := Lib.hid (fun w hR => stcheck_any A n c RA rn rc PA pn pc HA hn hc S w hR hK)
  have g1 : (stE S != 0) = true := by simpa using hE
  generalize stE S = F at *
  have hb0 := below_new w (.cells #[.slice A n c, .slice RA rn rc, .slice PA pn pc, .slice HA hn hc] 28)
  have hb1 := hb0.alloc hb0.size (.cells #[.slice none 0 0, .slice none 0 0, .slice none 0 0, .slice none 0 0] 28)
  have DS := (Blk.new w 28 #[.slice A n c, .slice RA rn rc, .slice PA pn pc, .slice HA hn hc]).alloc (.cells #[.slice none 0 0, .slice none 0 0, .slice none 0 0, .slice none 0 0] 28)
  have DR := Blk.new (w.alloc (.cells #[.slice A n c, .slice RA rn rc, .slice PA pn pc, .slice HA hn hc] 28)) 28 #[.slice none 0 0, .slice none 0 0, .slice none 0 0, .slice none 0 0]
  rw [World.size_alloc] at DR
  obtain ⟨s0, s1, s2, s3⟩ := DS.four
  clear hb0
  go_enter Tryz.func51, Tryz.ntmps51
  go_wp2_with fail
  refine (HB.out _ ((hR.below hb1).more hb1.size)).mono ?_
  rintro e w2 ⟨rfl, hb2⟩
  have hb02 := below_step hb1 hb2
  have DR2 := DR.below hb2 DR.lt
  clear s0 s1 s2 s3
  obtain ⟨r0, r1, r2, r3⟩ := DR2.four
  obtain ⟨f0, f1, f2, f3⟩ := DR2.four_frozen
  go_wp2_with fail
  refine bodyPost_ret (v := .tuple #[.agg #[.slice none 0 0, .slice none 0 0, .slice none 0 0, .slice none 0 0], .int .i64 F]) ?_ rfl ⟨below_block4 hb02 (Nat.le_succ _) _ _ _ _, rfl⟩
  obtain ⟨z0, z1, z2, z3⟩ := (DR2.store4 (.slice none 0 0) (.slice none 0 0) (.slice none 0 0) (.slice none 0 0)).four
  simp only [results, Tryz.results51]
  go_simp
end Go.Proofs.YtbmkbnalembbjaaGreatDoor

namespace Go.Proofs.YtbmkbnalembbjaaGreatDoor
open Go.RowKit
def slotTE (S : St) (slot : Int) : Int := if stE S ≠ 0 then stE S else if slot < 0 ∨ (S.r.length : Int) ≤ slot then 5 else 0
theorem slotTE_zero {S : St} {slot : Int} (h : slotTE S slot = 0) : StOk S ∧ ∃ k : Nat, slot = k ∧ k < S.r.length := by
  unfold slotTE at h
  split at h
  · rename_i h0; exact absurd h h0
  · rename_i h0
    split at h
    · cases h
    · exact ⟨stE_ok.1 (by simpa using h0), slot.toNat, by omega, by omega⟩
theorem slotTE_of {S : St} {k : Nat} (h : StOk S) (hk : k < S.r.length) : slotTE S k = 0 := by
  unfold slotTE
  rw [if_neg (by rw [stE_ok.2 h]; decide), if_neg (by omega)]
set_option maxRecDepth 100000 in
set_option maxHeartbeats 4000000 in
theorem slotted_any (A : Option Addr) (n c : Nat) (RA : Option Addr) (rn rc : Nat) (PA : Option Addr) (pn pc : Nat) (HA : Option Addr) (hn hc : Nat) (S : St) (slot : Int) (w : World) (hR : StR w w.heap.size A n RA rn PA pn HA hn S) (hK : StK n c rn pn hn S) :
    Calls Tryz.prog 81 #[.agg #[.slice A n c, .slice RA rn rc, .slice PA pn pc, .slice HA hn hc], .int .i64 slot] w fun e w' => Below w.heap.size w w' ∧ e = .returned (.int .i64 (slotTE S slot)) := by
  have HCk := Lib.hid (fun w hR => stcheck_any A n c RA rn rc PA pn pc HA hn hc S w hR hK)
  obtain ⟨-, hl, -, -⟩ := hR.lens
  have HX : Hid (slotTE S slot = if stE S ≠ 0 then stE S else if slot < 0 ∨ (rn : Int) ≤ slot then 5 else 0) := by
    show _ = _
    rw [← hl]
    rfl
  generalize slotTE S slot = F at *
  generalize stE S = E at *
  clear hl
  have hb1 := below_new w (.cells #[.slice A n c, .slice RA rn rc, .slice PA pn pc, .slice HA hn hc] 28)
  have DS := Blk.new w 28 #[.slice A n c, .slice RA rn rc, .slice PA pn pc, .slice HA hn hc]
  obtain ⟨s0, s1, s2, s3⟩ := DS.four
  go_enter Tryz.func81, Tryz.ntmps81
  go_wp2_with fail
  refine (HCk.out _ ((hR.below hb1).more hb1.size)).mono ?_
  rintro e w2 ⟨rfl, hb2⟩
  have hb02 := below_step hb1 hb2
  have DS2 := DS.below hb2 DS.lt
  clear s0 s1 s2 s3 hb1 hb2 DS
  obtain ⟨s0, s1, s2, s3⟩ := DS2.four
  by_cases h0 : E = 0
  · subst h0
    by_cases h1 : slot < 0
    · have g1 : decide (slot < 0) = true := decide_eq_true h1
      have HF : Hid (F = 5) := by show _ = _; rw [HX.out, if_neg (by decide), if_pos (.inl h1)]
      clear h1
      go_wp2_with fail
      go_ret
      exact ⟨hb02, by rw [HF.out]; rfl⟩
    · have g1 : decide (slot < 0) = false := decide_eq_false h1
      obtain ⟨k, rfl⟩ := Int.eq_ofNat_of_zero_le (show 0 ≤ slot by omega)
      by_cases h2 : rn ≤ k
      · have g2 : decide (rn ≤ k) = true := decide_eq_true h2
        have HF : Hid (F = 5) := by show _ = _; rw [HX.out, if_neg (by decide), if_pos (.inr (by omega))]
        clear h1 h2
        go_wp2_with fail
        go_ret
        exact ⟨hb02, by rw [HF.out]; rfl⟩
      · have g2 : decide (rn ≤ k) = false := decide_eq_false h2
        have HF : Hid (F = 0) := by show _ = _; rw [HX.out, if_neg (by decide), if_neg (by omega)]
        clear h1 h2
        go_wp2_with fail
        go_ret
        exact ⟨hb02, by rw [HF.out]; rfl⟩
  · have g1 : (E == 0) = false := by simpa using h0
    have HF : Hid (F = E) := by show _ = _; rw [HX.out, if_pos h0]
    clear h0
    go_wp2_with fail
    go_ret
    exact ⟨hb02, by rw [HF.out]; rfl⟩
set_option maxRecDepth 100000 in
set_option maxHeartbeats 4000000 in
theorem dropFn_ok (A : Option Addr) (n c : Nat) (RA : Option Addr) (rn rc : Nat) (PA : Option Addr) (pn pc : Nat) (HA : Option Addr) (hn hc : Nat) (S : St) (k : Nat) (w : World) (hR : StR w w.heap.size A n RA rn PA pn HA hn S) (hK : StK n c rn pn hn S) (hOK : StOk S) (hk : k < S.r.length) :
    Calls Tryz.prog 52 #[.agg #[.slice A n c, .slice RA rn rc, .slice PA pn pc, .slice HA hn hc], .int .i64 k] w fun e w' => Below w.heap.size w w' ∧ ∃ (A1 : Option Addr) (c1 : Nat) (A2 : Option Addr) (c2 : Nat) (A3 : Option Addr) (c3 : Nat) (A4 : Option Addr) (c4 : Nat), e = .returned (.tuple #[.agg #[.slice A1 n c1, .slice A2 rn c2, .slice A3 pn c3, .slice A4 hn c4], .int .i64 0]) ∧ StO w' w.heap.size A1 n c1 A2 rn c2 A3 pn c3 A4 hn c4 ⟨S.a, S.r.set k (-1), S.p, S.l⟩ := by
  have HSl := Lib.hid (fun w hR => slotted_any A n c RA rn rc PA pn pc HA hn hc S k w hR hK)
  rw [slotTE_of hOK hk] at HSl
  obtain ⟨z1, z2, z3, z4⟩ := hR.lens
  obtain ⟨v1, v2, v3, v4⟩ := hands_len hOK
  have HCp := Lib.hid (fun w hR => copied_any A n c RA rn rc PA pn pc HA hn hc S w hR (by omega) (by omega) (by omega) (by omega))
  have hkn : k < rn := by omega
  clear hOK z1 z2 z3 z4 v1 v2 v3 v4 hk
  have hb0 := below_new w (.cells #[.slice A n c, .slice RA rn rc, .slice PA pn pc, .slice HA hn hc] 28)
  have hb1 := hb0.alloc hb0.size (.cells #[.slice none 0 0, .slice none 0 0, .slice none 0 0, .slice none 0 0] 28)
  have DS := (Blk.new w 28 #[.slice A n c, .slice RA rn rc, .slice PA pn pc, .slice HA hn hc]).alloc (.cells #[.slice none 0 0, .slice none 0 0, .slice none 0 0, .slice none 0 0] 28)
  have DR := Blk.new (w.alloc (.cells #[.slice A n c, .slice RA rn rc, .slice PA pn pc, .slice HA hn hc] 28)) 28 #[.slice none 0 0, .slice none 0 0, .slice none 0 0, .slice none 0 0]
  rw [World.size_alloc] at DR
  obtain ⟨s0, s1, s2, s3⟩ := DS.four
  clear hb0
  go_enter Tryz.func52, Tryz.ntmps52
  go_wp2_with fail
  refine (HSl.out _ ((hR.below hb1).more hb1.size)).mono ?_
  rintro e w2 ⟨hb2, rfl⟩
  have hb02 := below_step hb1 hb2
  have DS2 := DS.below hb2 DS.lt
  have DR2 := DR.below hb2 DR.lt
  clear s0 s1 s2 s3 hb1 hb2 DS DR
  obtain ⟨s0, s1, s2, s3⟩ := DS2.four
  have hb0x := hb02
  have DSx := DS2
  have DRx := DR2
  have hlt : w.heap.size + 1 < w2.heap.size := DRx.lt
  clear s0 s1 s2 s3
  obtain ⟨s0, s1, s2, s3⟩ := DSx.four
  go_wp2_with fail
  refine (HCp.out _ ((hR.below hb0x).more hb0x.size)).mono ?_
  rintro e wc ⟨hbc, A1, c1, A2, c2, A3, c3, A4, c4, rfl, hO⟩
  have hb03 := below_step hb0x hbc
  have DS3 := DSx.below hbc DSx.lt
  have DR3 := DRx.below hbc DRx.lt
  clear s0 s1 s2 s3
  obtain ⟨s0, s1, s2, s3⟩ := DS3.four
  obtain ⟨f0, f1, f2, f3⟩ := DS3.four_frozen
  have hO4 := hO.store DS3 (.slice A1 n c1) (.slice A2 rn c2) (.slice A3 pn c3) (.slice A4 hn c4)
  have DS4 := DS3.store4 (.slice A1 n c1) (.slice A2 rn c2) (.slice A3 pn c3) (.slice A4 hn c4)
  have DR4 := DR3.far4 (g' := w.heap.size) (by omega) (.slice A1 n c1) (.slice A2 rn c2) (.slice A3 pn c3) (.slice A4 hn c4)
  have hb04 := below_block4 (g := w.heap.size) hb03 (Nat.le_refl _) (.slice A1 n c1) (.slice A2 rn c2) (.slice A3 pn c3) (.slice A4 hn c4)
  obtain ⟨d0, d1, d2, d3⟩ := DS4.four
  obtain ⟨q, rfl, qh, qc, qB⟩ := own_some hO4.r.1 (by omega)
  have qe : k < (S.r.map (Value.int .i64)).length := by have := hR.lens.2.1; rw [List.length_map]; omega
  have qcc := hO4.r.1.cellAt k (by omega)
  rw [List.getElem?_eq_getElem qe] at qcc
  have qf := hO4.r.1.frozenAt k
  have hO5 := (hO4.setR (p := k) (v := -1) qB).mono hb0x.size
  have DS5 := DS4.far (p := ⟨q, k, none⟩) (by dsimp only; omega) (.int .i64 (-1))
  have DR5 := DR4.far (p := ⟨q, k, none⟩) (by dsimp only; omega) (.int .i64 (-1))
  have hb05 := hb04.setCell (p := ⟨q, k, none⟩) (by dsimp only; have := hb0x.size; omega) (.int .i64 (-1))
  obtain ⟨o0, o1, o2, o3⟩ := DS5.four
  obtain ⟨r0, r1, r2, r3⟩ := DR5.four
  obtain ⟨h0, h1, h2, h3⟩ := DR5.four_frozen
  clear hO4 hO qB
  go_wp2_with fail
  refine bodyPost_ret (v := .tuple #[.agg #[.slice A1 n c1, .slice (some ⟨q, 0, none⟩) rn c2, .slice A3 pn c3, .slice A4 hn c4], .int .i64 0]) ?_ rfl ⟨below_block4 hb05 (Nat.le_succ _) _ _ _ _, A1, c1, _, c2, A3, c3, A4, c4, rfl, hO5.store DR5 _ _ _ _⟩
  obtain ⟨z0, z1, z2, z3⟩ := (DR5.store4 (.slice A1 n c1) (.slice (some ⟨q, 0, none⟩) rn c2) (.slice A3 pn c3) (.slice A4 hn c4)).four
  simp only [results, Tryz.results52]
  go_simp
set_option maxRecDepth 100000 in
set_option maxHeartbeats 4000000 in
theorem dropFn_bad (A : Option Addr) (n c : Nat) (RA : Option Addr) (rn rc : Nat) (PA : Option Addr) (pn pc : Nat) (HA : Option Addr) (hn hc : Nat) (S : St) (slot : Int) (w : World) (hR : StR w w.heap.size A n RA rn PA pn HA hn S) (hK : StK n c rn pn hn S) (hE : slotTE S slot ≠ 0) :
    Calls Tryz.prog 52 #[.agg #[.slice A n c, .slice RA rn rc, .slice PA pn pc, .slice HA hn hc], .int .i64 slot] w fun e w' => Below w.heap.size w w' ∧ e = .returned (.tuple #[.agg #[.slice none 0 0, .slice none 0 0, .slice none 0 0, .slice none 0 0], .int .i64 (slotTE S slot)]) := by
  have HSl := Lib.hid (fun w hR => slotted_any A n c RA rn rc PA pn pc HA hn hc S slot w hR hK)
  have g1 : (slotTE S slot != 0) = true := by simpa using hE
  generalize slotTE S slot = F at *
  have hb0 := below_new w (.cells #[.slice A n c, .slice RA rn rc, .slice PA pn pc, .slice HA hn hc] 28)
  have hb1 := hb0.alloc hb0.size (.cells #[.slice none 0 0, .slice none 0 0, .slice none 0 0, .slice none 0 0] 28)
  have DS := (Blk.new w 28 #[.slice A n c, .slice RA rn rc, .slice PA pn pc, .slice HA hn hc]).alloc (.cells #[.slice none 0 0, .slice none 0 0, .slice none 0 0, .slice none 0 0] 28)
  have DR := Blk.new (w.alloc (.cells #[.slice A n c, .slice RA rn rc, .slice PA pn pc, .slice HA hn hc] 28)) 28 #[.slice none 0 0, .slice none 0 0, .slice none 0 0, .slice none 0 0]
  rw [World.size_alloc] at DR
  obtain ⟨s0, s1, s2, s3⟩ := DS.four
  clear hb0
  go_enter Tryz.func52, Tryz.ntmps52
  go_wp2_with fail
  refine (HSl.out _ ((hR.below hb1).more hb1.size)).mono ?_
  rintro e w2 ⟨hb2, rfl⟩
  have hb02 := below_step hb1 hb2
  have DR2 := DR.below hb2 DR.lt
  clear s0 s1 s2 s3
  obtain ⟨r0, r1, r2, r3⟩ := DR2.four
  obtain ⟨f0, f1, f2, f3⟩ := DR2.four_frozen
  go_wp2_with fail
  refine bodyPost_ret (v := .tuple #[.agg #[.slice none 0 0, .slice none 0 0, .slice none 0 0, .slice none 0 0], .int .i64 F]) ?_ rfl ⟨below_block4 hb02 (Nat.le_succ _) _ _ _ _, rfl⟩
  obtain ⟨z0, z1, z2, z3⟩ := (DR2.store4 (.slice none 0 0) (.slice none 0 0) (.slice none 0 0) (.slice none 0 0)).four
  simp only [results, Tryz.results52]
  go_simp
set_option maxRecDepth 100000 in
set_option maxHeartbeats 4000000 in
theorem useFn_ok (A : Option Addr) (n c : Nat) (RA : Option Addr) (rn rc : Nat) (PA : Option Addr) (pn pc : Nat) (HA : Option Addr) (hn hc : Nat) (S : St) (x : Int) (k : Nat) (sl : Slot) (w : World) (hR : StR w w.heap.size A n RA rn PA pn HA hn S) (hK : StK n c rn pn hn S) (hOK : StOk S) (hk : k < S.r.length) (x0 : 0 ≤ x) (x1 : x < 18446744073709551616) (hf : findS S.l x = some sl) :
    Calls Tryz.prog 50 #[.agg #[.slice A n c, .slice RA rn rc, .slice PA pn pc, .slice HA hn hc], .int .u64 x, .int .i64 k] w fun e w' => Below w.heap.size w w' ∧ ∃ (A1 : Option Addr) (c1 : Nat) (A2 : Option Addr) (c2 : Nat) (A3 : Option Addr) (c3 : Nat) (A4 : Option Addr) (c4 : Nat), e = .returned (.tuple #[.agg #[.slice A1 n c1, .slice A2 rn c2, .slice A3 pn c3, .slice A4 hn c4], .int .i64 0]) ∧ StO w' w.heap.size A1 n c1 A2 rn c2 A3 pn c3 A4 hn c4 ⟨S.a, S.r.set k sl.loc, S.p, S.l⟩ := by
  have HSl := Lib.hid (fun w hR => slotted_any A n c RA rn rc PA pn pc HA hn hc S k w hR hK)
  rw [slotTE_of hOK hk] at HSl
  obtain ⟨z1, z2, z3, z4⟩ := hR.lens
  obtain ⟨v1, v2, v3, v4⟩ := hands_len hOK
  have HCp := Lib.hid (fun w hR => copied_any A n c RA rn rc PA pn pc HA hn hc S w hR (by omega) (by omega) (by omega) (by omega))
  have HLk := Lib.hid (fun w (hr : Reads w w.heap.size 3 HA hn (slotsC S.l)) => look_any HA hn hc w.heap.size S.l x w hr (Nat.le_refl _) x0 x1)
  have e1 : lookV S.l x = sl.loc := by unfold lookV; rw [if_neg (by simp [hOK.hands]), hf]
  have e2 : lookE S.l x = 0 := by unfold lookE; rw [if_neg (by simp [hOK.hands]), hf]
  rw [e1, e2] at HLk
  generalize sl.loc = y at *
  have hkn : k < rn := by omega
  clear hOK z1 z2 z3 z4 v1 v2 v3 v4 hk e1 e2 hf
  have hb0 := below_new w (.cells #[.slice A n c, .slice RA rn rc, .slice PA pn pc, .slice HA hn hc] 28)
  have hb1 := hb0.alloc hb0.size (.cells #[.slice none 0 0, .slice none 0 0, .slice none 0 0, .slice none 0 0] 28)
  have DS := (Blk.new w 28 #[.slice A n c, .slice RA rn rc, .slice PA pn pc, .slice HA hn hc]).alloc (.cells #[.slice none 0 0, .slice none 0 0, .slice none 0 0, .slice none 0 0] 28)
  have DR := Blk.new (w.alloc (.cells #[.slice A n c, .slice RA rn rc, .slice PA pn pc, .slice HA hn hc] 28)) 28 #[.slice none 0 0, .slice none 0 0, .slice none 0 0, .slice none 0 0]
  rw [World.size_alloc] at DR
  obtain ⟨s0, s1, s2, s3⟩ := DS.four
  clear hb0
  go_enter Tryz.func50, Tryz.ntmps50
  go_wp2_with fail
  refine (HSl.out _ ((hR.below hb1).more hb1.size)).mono ?_
  rintro e w2 ⟨hb2, rfl⟩
  have hb02 := below_step hb1 hb2
  have DS2 := DS.below hb2 DS.lt
  have DR2 := DR.below hb2 DR.lt
  clear s0 s1 s2 s3 hb1 hb2 DS DR
  obtain ⟨s0, s1, s2, s3⟩ := DS2.four
  go_wp2_with fail
  refine (HLk.out _ ((hR.l.below hb02).more hb02.size)).mono ?_
  rintro e w4 ⟨rfl, hb4⟩
  have hb0x := below_step hb02 hb4
  have DSx := DS2.below hb4 DS2.lt
  have DRx := DR2.below hb4 DR2.lt
  have hlt : w.heap.size + 1 < w4.heap.size := DRx.lt
  clear s0 s1 s2 s3
  obtain ⟨s0, s1, s2, s3⟩ := DSx.four
  go_wp2_with fail
  refine (HCp.out _ ((hR.below hb0x).more hb0x.size)).mono ?_
  rintro e wc ⟨hbc, A1, c1, A2, c2, A3, c3, A4, c4, rfl, hO⟩
  have hb03 := below_step hb0x hbc
  have DS3 := DSx.below hbc DSx.lt
  have DR3 := DRx.below hbc DRx.lt
  clear s0 s1 s2 s3
  obtain ⟨s0, s1, s2, s3⟩ := DS3.four
  obtain ⟨f0, f1, f2, f3⟩ := DS3.four_frozen
  have hO4 := hO.store DS3 (.slice A1 n c1) (.slice A2 rn c2) (.slice A3 pn c3) (.slice A4 hn c4)
  have DS4 := DS3.store4 (.slice A1 n c1) (.slice A2 rn c2) (.slice A3 pn c3) (.slice A4 hn c4)
  have DR4 := DR3.far4 (g' := w.heap.size) (by omega) (.slice A1 n c1) (.slice A2 rn c2) (.slice A3 pn c3) (.slice A4 hn c4)
  have hb04 := below_block4 (g := w.heap.size) hb03 (Nat.le_refl _) (.slice A1 n c1) (.slice A2 rn c2) (.slice A3 pn c3) (.slice A4 hn c4)
  obtain ⟨d0, d1, d2, d3⟩ := DS4.four
  obtain ⟨q, rfl, qh, qc, qB⟩ := own_some hO4.r.1 (by omega)
  have qe : k < (S.r.map (Value.int .i64)).length := by have := hR.lens.2.1; rw [List.length_map]; omega
  have qcc := hO4.r.1.cellAt k (by omega)
  rw [List.getElem?_eq_getElem qe] at qcc
  have qf := hO4.r.1.frozenAt k
  have hO5 := (hO4.setR (p := k) (v := y) qB).mono hb0x.size
  have DS5 := DS4.far (p := ⟨q, k, none⟩) (by dsimp only; omega) (.int .i64 (y))
  have DR5 := DR4.far (p := ⟨q, k, none⟩) (by dsimp only; omega) (.int .i64 (y))
  have hb05 := hb04.setCell (p := ⟨q, k, none⟩) (by dsimp only; have := hb0x.size; omega) (.int .i64 (y))
  obtain ⟨o0, o1, o2, o3⟩ := DS5.four
  obtain ⟨r0, r1, r2, r3⟩ := DR5.four
  obtain ⟨h0, h1, h2, h3⟩ := DR5.four_frozen
  clear hO4 hO qB
  go_wp2_with fail
  refine bodyPost_ret (v := .tuple #[.agg #[.slice A1 n c1, .slice (some ⟨q, 0, none⟩) rn c2, .slice A3 pn c3, .slice A4 hn c4], .int .i64 0]) ?_ rfl ⟨below_block4 hb05 (Nat.le_succ _) _ _ _ _, A1, c1, _, c2, A3, c3, A4, c4, rfl, hO5.store DR5 _ _ _ _⟩
  obtain ⟨z0, z1, z2, z3⟩ := (DR5.store4 (.slice A1 n c1) (.slice (some ⟨q, 0, none⟩) rn c2) (.slice A3 pn c3) (.slice A4 hn c4)).four
  simp only [results, Tryz.results50]
  go_simp
set_option maxRecDepth 100000 in
set_option maxHeartbeats 4000000 in
theorem useFn_stale (A : Option Addr) (n c : Nat) (RA : Option Addr) (rn rc : Nat) (PA : Option Addr) (pn pc : Nat) (HA : Option Addr) (hn hc : Nat) (S : St) (x : Int) (k : Nat) (w : World) (hR : StR w w.heap.size A n RA rn PA pn HA hn S) (hK : StK n c rn pn hn S) (hOK : StOk S) (hk : k < S.r.length) (x0 : 0 ≤ x) (x1 : x < 18446744073709551616) (hf : findS S.l x = none) :
    Calls Tryz.prog 50 #[.agg #[.slice A n c, .slice RA rn rc, .slice PA pn pc, .slice HA hn hc], .int .u64 x, .int .i64 k] w fun e w' => Below w.heap.size w w' ∧ e = .returned (.tuple #[.agg #[.slice none 0 0, .slice none 0 0, .slice none 0 0, .slice none 0 0], .int .i64 9]) := by
  have HSl := Lib.hid (fun w hR => slotted_any A n c RA rn rc PA pn pc HA hn hc S k w hR hK)
  rw [slotTE_of hOK hk] at HSl
  have HLk := Lib.hid (fun w (hr : Reads w w.heap.size 3 HA hn (slotsC S.l)) => look_any HA hn hc w.heap.size S.l x w hr (Nat.le_refl _) x0 x1)
  have e1 : lookV S.l x = 0 := by unfold lookV; rw [if_neg (by simp [hOK.hands]), hf]
  have e2 : lookE S.l x = 9 := by unfold lookE; rw [if_neg (by simp [hOK.hands]), hf]
  rw [e1, e2] at HLk
  clear hOK hk e1 e2 hf
  have hb0 := below_new w (.cells #[.slice A n c, .slice RA rn rc, .slice PA pn pc, .slice HA hn hc] 28)
  have hb1 := hb0.alloc hb0.size (.cells #[.slice none 0 0, .slice none 0 0, .slice none 0 0, .slice none 0 0] 28)
  have DS := (Blk.new w 28 #[.slice A n c, .slice RA rn rc, .slice PA pn pc, .slice HA hn hc]).alloc (.cells #[.slice none 0 0, .slice none 0 0, .slice none 0 0, .slice none 0 0] 28)
  have DR := Blk.new (w.alloc (.cells #[.slice A n c, .slice RA rn rc, .slice PA pn pc, .slice HA hn hc] 28)) 28 #[.slice none 0 0, .slice none 0 0, .slice none 0 0, .slice none 0 0]
  rw [World.size_alloc] at DR
  obtain ⟨s0, s1, s2, s3⟩ := DS.four
  clear hb0
  go_enter Tryz.func50, Tryz.ntmps50
  go_wp2_with fail
  refine (HSl.out _ ((hR.below hb1).more hb1.size)).mono ?_
  rintro e w2 ⟨hb2, rfl⟩
  have hb02 := below_step hb1 hb2
  have DS2 := DS.below hb2 DS.lt
  have DR2 := DR.below hb2 DR.lt
  clear s0 s1 s2 s3 hb1 hb2 DS DR
  obtain ⟨s0, s1, s2, s3⟩ := DS2.four
  go_wp2_with fail
  refine (HLk.out _ ((hR.l.below hb02).more hb02.size)).mono ?_
  rintro e w4 ⟨rfl, hb4⟩
  have hb0x := below_step hb02 hb4
  have DRx := DR2.below hb4 DR2.lt
  clear s0 s1 s2 s3
  obtain ⟨r0, r1, r2, r3⟩ := DRx.four
  obtain ⟨f0, f1, f2, f3⟩ := DRx.four_frozen
  go_wp2_with fail
  refine bodyPost_ret (v := .tuple #[.agg #[.slice none 0 0, .slice none 0 0, .slice none 0 0, .slice none 0 0], .int .i64 9]) ?_ rfl ⟨below_block4 hb0x (Nat.le_succ _) _ _ _ _, rfl⟩
  obtain ⟨z0, z1, z2, z3⟩ := (DRx.store4 (.slice none 0 0) (.slice none 0 0) (.slice none 0 0) (.slice none 0 0)).four
  simp only [results, Tryz.results50]
  go_simp
set_option maxRecDepth 100000 in
set_option maxHeartbeats 4000000 in
theorem useFn_bad (A : Option Addr) (n c : Nat) (RA : Option Addr) (rn rc : Nat) (PA : Option Addr) (pn pc : Nat) (HA : Option Addr) (hn hc : Nat) (S : St) (x slot : Int) (w : World) (hR : StR w w.heap.size A n RA rn PA pn HA hn S) (hK : StK n c rn pn hn S) (hE : slotTE S slot ≠ 0) :
    Calls Tryz.prog 50 #[.agg #[.slice A n c, .slice RA rn rc, .slice PA pn pc, .slice HA hn hc], .int .u64 x, .int .i64 slot] w fun e w' => Below w.heap.size w w' ∧ e = .returned (.tuple #[.agg #[.slice none 0 0, .slice none 0 0, .slice none 0 0, .slice none 0 0], .int .i64 (slotTE S slot)]) := by
  have HSl := Lib.hid (fun w hR => slotted_any A n c RA rn rc PA pn pc HA hn hc S slot w hR hK)
  have g1 : (slotTE S slot != 0) = true := by simpa using hE
  generalize slotTE S slot = F at *
  have hb0 := below_new w (.cells #[.slice A n c, .slice RA rn rc, .slice PA pn pc, .slice HA hn hc] 28)
  have hb1 := hb0.alloc hb0.size (.cells #[.slice none 0 0, .slice none 0 0, .slice none 0 0, .slice none 0 0] 28)
  have DS := (Blk.new w 28 #[.slice A n c, .slice RA rn rc, .slice PA pn pc, .slice HA hn hc]).alloc (.cells #[.slice none 0 0, .slice none 0 0, .slice none 0 0, .slice none 0 0] 28)
  have DR := Blk.new (w.alloc (.cells #[.slice A n c, .slice RA rn rc, .slice PA pn pc, .slice HA hn hc] 28)) 28 #[.slice none 0 0, .slice none 0 0, .slice none 0 0, .slice none 0 0]
  rw [World.size_alloc] at DR
  obtain ⟨s0, s1, s2, s3⟩ := DS.four
  clear hb0
  go_enter Tryz.func50, Tryz.ntmps50
  go_wp2_with fail
  refine (HSl.out _ ((hR.below hb1).more hb1.size)).mono ?_
  rintro e w2 ⟨hb2, rfl⟩
  have hb02 := below_step hb1 hb2
  have DR2 := DR.below hb2 DR.lt
  clear s0 s1 s2 s3
  obtain ⟨r0, r1, r2, r3⟩ := DR2.four
  obtain ⟨f0, f1, f2, f3⟩ := DR2.four_frozen
  go_wp2_with fail
  refine bodyPost_ret (v := .tuple #[.agg #[.slice none 0 0, .slice none 0 0, .slice none 0 0, .slice none 0 0], .int .i64 F]) ?_ rfl ⟨below_block4 hb02 (Nat.le_succ _) _ _ _ _, rfl⟩
  obtain ⟨z0, z1, z2, z3⟩ := (DR2.store4 (.slice none 0 0) (.slice none 0 0) (.slice none 0 0) (.slice none 0 0)).four
  simp only [results, Tryz.results50]
  go_simp
end Go.Proofs.YtbmkbnalembbjaaGreatDoor

namespace Go.Proofs.YtbmkbnalembbjaaGreatDoor
open Go.RowKit
theorem StOk.slots {S : St} (h : StOk S) {j : Nat} {u : Slot} (hu : slotE u = 0) (ho : u.opn = true → u.loc ∈ S.begs) : StOk ⟨S.a, S.r, S.p, S.l.set j u⟩ := by
  refine ⟨h.arena, h.roots, h.pins, handE_set h.hands hu, fun x hx => ?_⟩
  rcases fromL_mem.1 hx with h1 | ⟨s, h1, h2, rfl⟩ | ⟨y, h1, rfl⟩
  · exact h.live x (root_at h1.1 h1.2)
  · rcases List.mem_or_eq_of_mem_set h1 with h1 | rfl
    · exact h.live _ (open_at h1 h2)
    · exact h.live _ (ho h2)
  · exact h.live _ (pin_at h1)
theorem StOk.rootsSet {S : St} (h : StOk S) {k : Nat} {y : Int} (hy : y = -1 ∨ y ∈ S.begs) : StOk ⟨S.a, S.r.set k y, S.p, S.l⟩ := by
  obtain ⟨h1, h2, h3, h4⟩ := rootE_ok h.roots
  have hyr : -1 ≤ y ∧ y < S.a.length := by
    rcases hy with rfl | hy
    · omega
    · have := begs_lt h.arena (h.live y hy); omega
  refine ⟨h.arena, rootE_of h1 h2 (by rw [List.length_set]; exact h3) (fun v hv => ?_), h.pins, h.hands, fun x hx => ?_⟩
  · rcases List.mem_or_eq_of_mem_set hv with hv | rfl
    · exact h4 v hv
    · exact hyr
  · rcases fromL_mem.1 hx with ⟨q1, q2⟩ | ⟨s, q1, q2, rfl⟩ | ⟨z, q1, rfl⟩
    · rcases List.mem_or_eq_of_mem_set q1 with q1 | rfl
      · exact h.live _ (root_at q1 q2)
      · rcases hy with hy | hy
        · omega
        · exact h.live _ hy
    · exact h.live _ (open_at q1 q2)
    · exact h.live _ (pin_at q1)
theorem StOk.pinsSet {S : St} (h : StOk S) {p : List Rn} (hp : PinsOk p) (hl : ∀ y ∈ p, y.loc ∈ S.begs) : StOk ⟨S.a, S.r, p, S.l⟩ := by
  refine ⟨h.arena, h.roots, hp, h.hands, fun x hx => ?_⟩
  rcases fromL_mem.1 hx with h1 | ⟨s, h1, h2, rfl⟩ | ⟨y, h1, rfl⟩
  · exact h.live x (root_at h1.1 h1.2)
  · exact h.live _ (open_at h1 h2)
  · exact h.live _ (hl y h1)
theorem slot_open {g x : Int} (h0 : 0 ≤ g) (h1 : g < 65535) (hx : 0 ≤ x ∧ x < 256) : slotE ⟨g + 1, true, x⟩ = 0 := by
  unfold slotE
  rw [if_neg (by simp only; omega), if_neg (by simp only; simp; omega)]
theorem slot_shut {g : Int} (h0 : 0 ≤ g) (h1 : g ≤ 65535) : slotE ⟨g, false, 0⟩ = 0 := by
  unfold slotE
  rw [if_neg (by simp only; omega), if_neg (by simp)]
theorem slotE_gen {s : Slot} (h : slotE s = 0) : 0 ≤ s.gen ∧ s.gen ≤ 65535 := by
  unfold slotE at h
  split at h
  · cases h
  · omega
theorem slotFree_ok {s : Slot} (h : slotFree s = true) : s.opn = false ∧ s.gen < 65535 := by
  unfold slotFree at h
  simp only [Bool.and_eq_true, Bool.not_eq_true', decide_eq_true_eq] at h
  exact h
structure Opens (S : St) (X : Int) (j : Nat) (sl : Slot) : Prop where
  ix : freeIx S.l = j
  at_ : S.l[j]? = some sl
  free : slotFree sl = true
theorem open_cases {S : St} (hS : StOk S) {X : Int} (hX : X ∈ S.begs) : (openE S.l X = 0 ∧ ∃ j sl, Opens S X j sl ∧ 0 ≤ sl.gen ∧ sl.gen < 65535 ∧ sl.opn = false ∧ j < 16) ∨ openE S.l X = 7 := by
  have h1 := begs_lt hS.arena (hS.live X hX)
  have h2 := (parse_ok (checkE_ok.1 hS.arena).1).1
  unfold openE
  rw [if_neg (by simp [hS.hands]), if_neg (by omega)]
  rcases freeIx_cases S.l with ⟨e, -⟩ | ⟨i, s, e, e2, e3⟩
  · exact .inr (by rw [if_pos e])
  · left
    rw [if_neg (by omega)]
    have h3 := slotE_gen (slotE_of hS.hands e2)
    have h4 := slotFree_ok e3
    have h5 := (handE_ok.1 hS.hands).1
    exact ⟨rfl, i, s, ⟨e, e2, e3⟩, h3.1, h4.2, h4.1, by have := (List.getElem?_eq_some_iff.1 e2).1; omega⟩
theorem Coll.root {S S' : St} {fr : Int} {L Y now : List Int} (h : Coll S S' fr L Y now) (hS : StOk S) {k : Nat} {x : Int} (hx : S.r[k]? = some x) (h0 : 0 ≤ x) : S'.r[k]? = some (posL L Y x) ∧ 0 ≤ posL L Y x := by
  rw [h.r' hS, List.getElem?_map, hx]
  refine ⟨?_, (h.pos (root_at (List.mem_of_getElem? hx) h0)).1⟩
  simp only [Option.map_some, phiV, if_pos h0]
theorem Coll.slot {S S' : St} {fr : Int} {L Y now : List Int} (h : Coll S S' fr L Y now) (hS : StOk S) {j : Nat} {g x : Int} (hs : S.l[j]? = some ⟨g, true, x⟩) : S'.l[j]? = some ⟨g, true, posL L Y x⟩ := by
  rw [h.l' hS, List.getElem?_map, hs]
  simp [phiS]
end Go.Proofs.YtbmkbnalembbjaaGreatDoor
