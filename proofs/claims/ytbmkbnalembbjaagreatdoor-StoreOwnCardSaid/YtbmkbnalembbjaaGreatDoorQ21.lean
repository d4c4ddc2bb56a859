/-
  Texts joined: QDoFn.
-/
import Derived.Test.YtbmkbnalembbjaaGreatDoorQ20
namespace Go.Proofs.YtbmkbnalembbjaaGreatDoor
open Go.RowKit
theorem coll_told (S : St) : (collO S).er = 0 → ∃ N : Nat, (collO S).told = N ∧ N < 18446744073709551616 := by
  unfold collO
  split
  · rename_i h; intro h0; exact absurd h0 h
  · intro _
    by_cases hx : ∃ p : St × Int, ∃ L Y now : List Int, Coll S p.1 p.2 L Y now
    · obtain ⟨⟨S', fr⟩, L, Y, now, hC⟩ := hx
      rw [hC.sweep]
      obtain ⟨f0, f1, f2, -⟩ := hC.free
      simp only at f0 f1
      exact ⟨fr.toNat, by simp only; omega, by omega⟩
    · have e : sweep S = (S, 0) := dif_neg hx
      rw [e]
      exact ⟨0, rfl, by decide⟩
theorem pin_told (S : St) (x : Int) : (pinO S x).er = 0 → ∃ N : Nat, (pinO S x).told = N ∧ N < 18446744073709551616 := by
  intro h
  have hE : objE S x = 0 := by
    refine Classical.byContradiction fun h0 => ?_
    unfold pinO at h
    rw [if_pos h0] at h
    exact h0 h
  obtain ⟨hOK, k, X, s, i, rfl, hx, hO, -, h1, -⟩ := root_obj hE
  have h2 := (parse_ok (checkE_ok.1 hOK.arena).1).1
  by_cases hP : ∃ j, PinOk S X j
  · obtain ⟨j, hP⟩ := hP
    rw [pinO_ok hE hx hP]
    exact ⟨X, rfl, by omega⟩
  · rw [pinO_no hE hx (fun j hj => hP ⟨j, hj⟩)]
    exact ⟨0, rfl, by decide⟩
theorem get_right (S : St) (x y : Int) : (getO S x y).er = 0 → StOk S := by
  unfold getO
  split
  · rename_i h; intro h0; exact absurd h0 h
  · rename_i h
    intro _
    exact (bodyE_zero (by simpa using h)).1
theorem peek_right (S : St) (x y : Int) : (peekO S x y).er = 0 → StOk S := by
  unfold peekO
  split
  · rename_i h; intro h0; exact absurd h0 h
  · rename_i h
    intro _
    exact stE_ok.1 (by simpa using h)
theorem make_told (S : St) (x r b t : Int) : (makeO S x r b t).told = 0 ∨ (makeO S x r b t).told = 1 := by
  unfold makeO
  repeat' split
  all_goals first | exact .inl rfl | exact .inr rfl
def DoPost (w : World) (X : Out) (e : Ending) (w' : World) : Prop := Below w.heap.size w w' ∧
  ((X.er = 0 ∧ ∃ (B1 : Option Addr) (n1 d1 : Nat) (B2 : Option Addr) (n2 d2 : Nat) (B3 : Option Addr) (n3 d3 : Nat) (B4 : Option Addr) (n4 d4 : Nat), e = .returned (.tuple #[.agg #[.slice B1 n1 d1, .slice B2 n2 d2, .slice B3 n3 d3, .slice B4 n4 d4], .int .u64 X.told, .int .i64 0]) ∧ StO w' w.heap.size B1 n1 d1 B2 n2 d2 B3 n3 d3 B4 n4 d4 X.st) ∨
   (X.er ≠ 0 ∧ e = .returned (.tuple #[.agg #[.slice none 0 0, .slice none 0 0, .slice none 0 0, .slice none 0 0], .int .u64 0, .int .i64 X.er])))
theorem told_if {p : Prop} [Decidable p] {a b : Out} (ha : a.told = 0) (hb : b.told = 0) : (if p then a else b).told = 0 := by split <;> assumption
set_option maxRecDepth 100000 in
set_option maxHeartbeats 4000000 in
theorem do_ref (A : Option Addr) (n c : Nat) (RA : Option Addr) (rn rc : Nat) (PA : Option Addr) (pn pc : Nat) (HA : Option Addr) (hn hc : Nat) (S : St) (a b cc v : Int) (w : World) (hR : StR w w.heap.size A n RA rn PA pn HA hn S) (hK : StK n c rn pn hn S) (hT : FTab w) (hrt : rightB ⟨3, a, b, cc, v⟩ = true) :
    Calls Tryz.prog 21 #[.agg #[.slice A n c, .slice RA rn rc, .slice PA pn pc, .slice HA hn hc], .agg #[.int .i64 3, .int .i64 a, .int .i64 b, .int .i64 cc, .int .u64 v]] w (DoPost w (refO S a b cc)) := by
  have HX := Lib.hid (fun w hR => ref_out A n c RA rn rc PA pn pc HA hn hc S a b cc w hR hK)
  have HT0 : Hid ((refO S a b cc).told = 0) := by show _ = _; unfold refO; exact told_if rfl rfl
  generalize refO S a b cc = X at *
  have HRt := Lib.hid (fun w hT => right_any 3 a b cc v w hT)
  rw [hrt] at HRt
  have HT := Lib.hid hT
  have hb0 := below_new w (.cells #[.slice A n c, .slice RA rn rc, .slice PA pn pc, .slice HA hn hc] 28)
  have hb00 := hb0.alloc hb0.size (.cells #[.int .i64 3, .int .i64 a, .int .i64 b, .int .i64 cc, .int .u64 v] 52)
  have hb1 := hb00.alloc hb00.size (.cells #[.slice none 0 0, .slice none 0 0, .slice none 0 0, .slice none 0 0] 28)
  have DS := ((Blk.new w 28 #[.slice A n c, .slice RA rn rc, .slice PA pn pc, .slice HA hn hc]).alloc (.cells #[.int .i64 3, .int .i64 a, .int .i64 b, .int .i64 cc, .int .u64 v] 52)).alloc (.cells #[.slice none 0 0, .slice none 0 0, .slice none 0 0, .slice none 0 0] 28)
  have DO := (Blk.new (w.alloc (.cells #[.slice A n c, .slice RA rn rc, .slice PA pn pc, .slice HA hn hc] 28)) 52 #[.int .i64 3, .int .i64 a, .int .i64 b, .int .i64 cc, .int .u64 v]).alloc (.cells #[.slice none 0 0, .slice none 0 0, .slice none 0 0, .slice none 0 0] 28)
  have DR := Blk.new ((w.alloc (.cells #[.slice A n c, .slice RA rn rc, .slice PA pn pc, .slice HA hn hc] 28)).alloc (.cells #[.int .i64 3, .int .i64 a, .int .i64 b, .int .i64 cc, .int .u64 v] 52)) 28 #[.slice none 0 0, .slice none 0 0, .slice none 0 0, .slice none 0 0]
  simp only [World.size_alloc] at DO DR
  obtain ⟨m0, m1, m2, m3, m4⟩ := DO.five
  clear hrt hT hb0 hb00
  go_enter Tryz.func21, Tryz.ntmps21
  go_wp2_with fail
  refine (HRt.out _ (HT.out.below hb1)).mono ?_
  rintro e w2 ⟨hb2, rfl⟩
  have hb02 := below_step hb1 hb2
  have DS2 := DS.below hb2 DS.lt
  have DO2 := DO.below hb2 DO.lt
  have DR2 := DR.below hb2 DR.lt
  clear m0 m1 m2 m3 m4 DS DO DR hb1 hb2 HRt
  obtain ⟨s0, s1, s2, s3⟩ := DS2.four
  obtain ⟨m0, m1, m2, m3, m4⟩ := DO2.five
  go_wp2_with fail
  refine (HX.out _ ((hR.below hb02).more hb02.size)).mono ?_
  rintro e w3 ⟨hb3, ⟨hz, B1, n1, d1, B2, n2, d2, B3, n3, d3, B4, n4, d4, rfl, hO⟩ | ⟨hnz, rfl⟩⟩
  · have hb03 := below_step hb02 hb3
    have DR3 := DR2.below hb3 DR2.lt
    have hlt : w.heap.size + 2 < w2.heap.size := DR2.lt
    clear s0 s1 s2 s3 m0 m1 m2 m3 m4 HX DS2 DO2
    go_wp2_with fail
    refine (only_any B1 n1 d1 B2 n2 d2 B3 n3 d3 B4 n4 d4 0 _).mono ?_
    rintro e w4 ⟨hb4, rfl⟩
    have hb04 := below_step hb03 hb4
    have DR4 := DR3.below hb4 DR3.lt
    have hO4 := (hO.below hb4).mono hb02.size
    obtain ⟨r0, r1, r2, r3⟩ := DR4.four
    obtain ⟨f0, f1, f2, f3⟩ := DR4.four_frozen
    go_wp2_with fail
    refine bodyPost_ret (v := .tuple #[.agg #[.slice B1 n1 d1, .slice B2 n2 d2, .slice B3 n3 d3, .slice B4 n4 d4], .int .u64 0, .int .i64 0]) ?_ rfl ⟨below_block4 hb04 (by omega) _ _ _ _, .inl ⟨hz, B1, n1, d1, B2, n2, d2, B3, n3, d3, B4, n4, d4, by rw [HT0.out], hO4.store DR4 _ _ _ _⟩⟩
    obtain ⟨z0, z1, z2, z3⟩ := (DR4.store4 (.slice B1 n1 d1) (.slice B2 n2 d2) (.slice B3 n3 d3) (.slice B4 n4 d4)).four
    simp only [results, Tryz.results21]
    go_simp
  · have hb03 := below_step hb02 hb3
    have DR3 := DR2.below hb3 DR2.lt
    have hlt : w.heap.size + 2 < w2.heap.size := DR2.lt
    clear s0 s1 s2 s3 m0 m1 m2 m3 m4 HX DS2 DO2
    go_wp2_with fail
    refine (only_any none 0 0 none 0 0 none 0 0 none 0 0 X.er _).mono ?_
    rintro e w4 ⟨hb4, rfl⟩
    have hb04 := below_step hb03 hb4
    have DR4 := DR3.below hb4 DR3.lt
    obtain ⟨r0, r1, r2, r3⟩ := DR4.four
    obtain ⟨f0, f1, f2, f3⟩ := DR4.four_frozen
    go_wp2_with fail
    refine bodyPost_ret (v := .tuple #[.agg #[.slice none 0 0, .slice none 0 0, .slice none 0 0, .slice none 0 0], .int .u64 0, .int .i64 X.er]) ?_ rfl ⟨below_block4 hb04 (by omega) _ _ _ _, .inr ⟨hnz, rfl⟩⟩
    obtain ⟨z0, z1, z2, z3⟩ := (DR4.store4 (.slice none 0 0) (.slice none 0 0) (.slice none 0 0) (.slice none 0 0)).four
    simp only [results, Tryz.results21]
    go_simp
set_option maxRecDepth 100000 in
set_option maxHeartbeats 4000000 in
theorem do_set (A : Option Addr) (n c : Nat) (RA : Option Addr) (rn rc : Nat) (PA : Option Addr) (pn pc : Nat) (HA : Option Addr) (hn hc : Nat) (S : St) (a b cc v : Int) (w : World) (hR : StR w w.heap.size A n RA rn PA pn HA hn S) (hK : StK n c rn pn hn S) (hT : FTab w) (hrt : rightB ⟨4, a, b, cc, v⟩ = true) :
    Calls Tryz.prog 21 #[.agg #[.slice A n c, .slice RA rn rc, .slice PA pn pc, .slice HA hn hc], .agg #[.int .i64 4, .int .i64 a, .int .i64 b, .int .i64 cc, .int .u64 v]] w (DoPost w (setO S a b cc)) := by
  have HX := Lib.hid (fun w hR => set_out A n c RA rn rc PA pn pc HA hn hc S a b cc w hR hK)
  have HT0 : Hid ((setO S a b cc).told = 0) := by show _ = _; unfold setO; exact told_if rfl rfl
  generalize setO S a b cc = X at *
  have HRt := Lib.hid (fun w hT => right_any 4 a b cc v w hT)
  rw [hrt] at HRt
  have HT := Lib.hid hT
  have hb0 := below_new w (.cells #[.slice A n c, .slice RA rn rc, .slice PA pn pc, .slice HA hn hc] 28)
  have hb00 := hb0.alloc hb0.size (.cells #[.int .i64 4, .int .i64 a, .int .i64 b, .int .i64 cc, .int .u64 v] 52)
  have hb1 := hb00.alloc hb00.size (.cells #[.slice none 0 0, .slice none 0 0, .slice none 0 0, .slice none 0 0] 28)
  have DS := ((Blk.new w 28 #[.slice A n c, .slice RA rn rc, .slice PA pn pc, .slice HA hn hc]).alloc (.cells #[.int .i64 4, .int .i64 a, .int .i64 b, .int .i64 cc, .int .u64 v] 52)).alloc (.cells #[.slice none 0 0, .slice none 0 0, .slice none 0 0, .slice none 0 0] 28)
  have DO := (Blk.new (w.alloc (.cells #[.slice A n c, .slice RA rn rc, .slice PA pn pc, .slice HA hn hc] 28)) 52 #[.int .i64 4, .int .i64 a, .int .i64 b, .int .i64 cc, .int .u64 v]).alloc (.cells #[.slice none 0 0, .slice none 0 0, .slice none 0 0, .slice none 0 0] 28)
  have DR := Blk.new ((w.alloc (.cells #[.slice A n c, .slice RA rn rc, .slice PA pn pc, .slice HA hn hc] 28)).alloc (.cells #[.int .i64 4, .int .i64 a, .int .i64 b, .int .i64 cc, .int .u64 v] 52)) 28 #[.slice none 0 0, .slice none 0 0, .slice none 0 0, .slice none 0 0]
  simp only [World.size_alloc] at DO DR
  obtain ⟨m0, m1, m2, m3, m4⟩ := DO.five
  clear hrt hT hb0 hb00
  go_enter Tryz.func21, Tryz.ntmps21
  go_wp2_with fail
  refine (HRt.out _ (HT.out.below hb1)).mono ?_
  rintro e w2 ⟨hb2, rfl⟩
  have hb02 := below_step hb1 hb2
  have DS2 := DS.below hb2 DS.lt
  have DO2 := DO.below hb2 DO.lt
  have DR2 := DR.below hb2 DR.lt
  clear m0 m1 m2 m3 m4 DS DO DR hb1 hb2 HRt
  obtain ⟨s0, s1, s2, s3⟩ := DS2.four
  obtain ⟨m0, m1, m2, m3, m4⟩ := DO2.five
  go_wp2_with fail
  refine (HX.out _ ((hR.below hb02).more hb02.size)).mono ?_
  rintro e w3 ⟨hb3, ⟨hz, B1, n1, d1, B2, n2, d2, B3, n3, d3, B4, n4, d4, rfl, hO⟩ | ⟨hnz, rfl⟩⟩
  · have hb03 := below_step hb02 hb3
    have DR3 := DR2.below hb3 DR2.lt
    have hlt : w.heap.size + 2 < w2.heap.size := DR2.lt
    clear s0 s1 s2 s3 m0 m1 m2 m3 m4 HX DS2 DO2
    go_wp2_with fail
    refine (only_any B1 n1 d1 B2 n2 d2 B3 n3 d3 B4 n4 d4 0 _).mono ?_
    rintro e w4 ⟨hb4, rfl⟩
    have hb04 := below_step hb03 hb4
    have DR4 := DR3.below hb4 DR3.lt
    have hO4 := (hO.below hb4).mono hb02.size
    obtain ⟨r0, r1, r2, r3⟩ := DR4.four
    obtain ⟨f0, f1, f2, f3⟩ := DR4.four_frozen
    go_wp2_with fail
    refine bodyPost_ret (v := .tuple #[.agg #[.slice B1 n1 d1, .slice B2 n2 d2, .slice B3 n3 d3, .slice B4 n4 d4], .int .u64 0, .int .i64 0]) ?_ rfl ⟨below_block4 hb04 (by omega) _ _ _ _, .inl ⟨hz, B1, n1, d1, B2, n2, d2, B3, n3, d3, B4, n4, d4, by rw [HT0.out], hO4.store DR4 _ _ _ _⟩⟩
    obtain ⟨z0, z1, z2, z3⟩ := (DR4.store4 (.slice B1 n1 d1) (.slice B2 n2 d2) (.slice B3 n3 d3) (.slice B4 n4 d4)).four
    simp only [results, Tryz.results21]
    go_simp
  · have hb03 := below_step hb02 hb3
    have DR3 := DR2.below hb3 DR2.lt
    have hlt : w.heap.size + 2 < w2.heap.size := DR2.lt
    clear s0 s1 s2 s3 m0 m1 m2 m3 m4 HX DS2 DO2
    go_wp2_with fail
    refine (only_any none 0 0 none 0 0 none 0 0 none 0 0 X.er _).mono ?_
    rintro e w4 ⟨hb4, rfl⟩
    have hb04 := below_step hb03 hb4
    have DR4 := DR3.below hb4 DR3.lt
    obtain ⟨r0, r1, r2, r3⟩ := DR4.four
    obtain ⟨f0, f1, f2, f3⟩ := DR4.four_frozen
    go_wp2_with fail
    refine bodyPost_ret (v := .tuple #[.agg #[.slice none 0 0, .slice none 0 0, .slice none 0 0, .slice none 0 0], .int .u64 0, .int .i64 X.er]) ?_ rfl ⟨below_block4 hb04 (by omega) _ _ _ _, .inr ⟨hnz, rfl⟩⟩
    obtain ⟨z0, z1, z2, z3⟩ := (DR4.store4 (.slice none 0 0) (.slice none 0 0) (.slice none 0 0) (.slice none 0 0)).four
    simp only [results, Tryz.results21]
    go_simp
set_option maxRecDepth 100000 in
set_option maxHeartbeats 4000000 in
theorem do_put (A : Option Addr) (n c : Nat) (RA : Option Addr) (rn rc : Nat) (PA : Option Addr) (pn pc : Nat) (HA : Option Addr) (hn hc : Nat) (S : St) (a b cc v : Int) (w : World) (hR : StR w w.heap.size A n RA rn PA pn HA hn S) (hK : StK n c rn pn hn S) (hT : FTab w) (hrt : rightB ⟨6, a, b, cc, v⟩ = true) :
    Calls Tryz.prog 21 #[.agg #[.slice A n c, .slice RA rn rc, .slice PA pn pc, .slice HA hn hc], .agg #[.int .i64 6, .int .i64 a, .int .i64 b, .int .i64 cc, .int .u64 v]] w (DoPost w (putO S a b v)) := by
  have HX := Lib.hid (fun w hR => put_out A n c RA rn rc PA pn pc HA hn hc S a b v w hR hK)
  have HT0 : Hid ((putO S a b v).told = 0) := by show _ = _; unfold putO; exact told_if rfl rfl
  generalize putO S a b v = X at *
  have HRt := Lib.hid (fun w hT => right_any 6 a b cc v w hT)
  rw [hrt] at HRt
  have HT := Lib.hid hT
  have hb0 := below_new w (.cells #[.slice A n c, .slice RA rn rc, .slice PA pn pc, .slice HA hn hc] 28)
  have hb00 := hb0.alloc hb0.size (.cells #[.int .i64 6, .int .i64 a, .int .i64 b, .int .i64 cc, .int .u64 v] 52)
  have hb1 := hb00.alloc hb00.size (.cells #[.slice none 0 0, .slice none 0 0, .slice none 0 0, .slice none 0 0] 28)
  have DS := ((Blk.new w 28 #[.slice A n c, .slice RA rn rc, .slice PA pn pc, .slice HA hn hc]).alloc (.cells #[.int .i64 6, .int .i64 a, .int .i64 b, .int .i64 cc, .int .u64 v] 52)).alloc (.cells #[.slice none 0 0, .slice none 0 0, .slice none 0 0, .slice none 0 0] 28)
  have DO := (Blk.new (w.alloc (.cells #[.slice A n c, .slice RA rn rc, .slice PA pn pc, .slice HA hn hc] 28)) 52 #[.int .i64 6, .int .i64 a, .int .i64 b, .int .i64 cc, .int .u64 v]).alloc (.cells #[.slice none 0 0, .slice none 0 0, .slice none 0 0, .slice none 0 0] 28)
  have DR := Blk.new ((w.alloc (.cells #[.slice A n c, .slice RA rn rc, .slice PA pn pc, .slice HA hn hc] 28)).alloc (.cells #[.int .i64 6, .int .i64 a, .int .i64 b, .int .i64 cc, .int .u64 v] 52)) 28 #[.slice none 0 0, .slice none 0 0, .slice none 0 0, .slice none 0 0]
  simp only [World.size_alloc] at DO DR
  obtain ⟨m0, m1, m2, m3, m4⟩ := DO.five
  clear hrt hT hb0 hb00
  go_enter Tryz.func21, Tryz.ntmps21
  go_wp2_with fail
  refine (HRt.out _ (HT.out.below hb1)).mono ?_
  rintro e w2 ⟨hb2, rfl⟩
  have hb02 := below_step hb1 hb2
  have DS2 := DS.below hb2 DS.lt
  have DO2 := DO.below hb2 DO.lt
  have DR2 := DR.below hb2 DR.lt
  clear m0 m1 m2 m3 m4 DS DO DR hb1 hb2 HRt
  obtain ⟨s0, s1, s2, s3⟩ := DS2.four
  obtain ⟨m0, m1, m2, m3, m4⟩ := DO2.five
  go_wp2_with fail
  refine (HX.out _ ((hR.below hb02).more hb02.size)).mono ?_
  rintro e w3 ⟨hb3, ⟨hz, B1, n1, d1, B2, n2, d2, B3, n3, d3, B4, n4, d4, rfl, hO⟩ | ⟨hnz, rfl⟩⟩
  · have hb03 := below_step hb02 hb3
    have DR3 := DR2.below hb3 DR2.lt
    have hlt : w.heap.size + 2 < w2.heap.size := DR2.lt
    clear s0 s1 s2 s3 m0 m1 m2 m3 m4 HX DS2 DO2
    go_wp2_with fail
    refine (only_any B1 n1 d1 B2 n2 d2 B3 n3 d3 B4 n4 d4 0 _).mono ?_
    rintro e w4 ⟨hb4, rfl⟩
    have hb04 := below_step hb03 hb4
    have DR4 := DR3.below hb4 DR3.lt
    have hO4 := (hO.below hb4).mono hb02.size
    obtain ⟨r0, r1, r2, r3⟩ := DR4.four
    obtain ⟨f0, f1, f2, f3⟩ := DR4.four_frozen
    go_wp2_with fail
    refine bodyPost_ret (v := .tuple #[.agg #[.slice B1 n1 d1, .slice B2 n2 d2, .slice B3 n3 d3, .slice B4 n4 d4], .int .u64 0, .int .i64 0]) ?_ rfl ⟨below_block4 hb04 (by omega) _ _ _ _, .inl ⟨hz, B1, n1, d1, B2, n2, d2, B3, n3, d3, B4, n4, d4, by rw [HT0.out], hO4.store DR4 _ _ _ _⟩⟩
    obtain ⟨z0, z1, z2, z3⟩ := (DR4.store4 (.slice B1 n1 d1) (.slice B2 n2 d2) (.slice B3 n3 d3) (.slice B4 n4 d4)).four
    simp only [results, Tryz.results21]
    go_simp
  · have hb03 := below_step hb02 hb3
    have DR3 := DR2.below hb3 DR2.lt
    have hlt : w.heap.size + 2 < w2.heap.size := DR2.lt
    clear s0 s1 s2 s3 m0 m1 m2 m3 m4 HX DS2 DO2
    go_wp2_with fail
    refine (only_any none 0 0 none 0 0 none 0 0 none 0 0 X.er _).mono ?_
    rintro e w4 ⟨hb4, rfl⟩
    have hb04 := below_step hb03 hb4
    have DR4 := DR3.below hb4 DR3.lt
    obtain ⟨r0, r1, r2, r3⟩ := DR4.four
    obtain ⟨f0, f1, f2, f3⟩ := DR4.four_frozen
    go_wp2_with fail
    refine bodyPost_ret (v := .tuple #[.agg #[.slice none 0 0, .slice none 0 0, .slice none 0 0, .slice none 0 0], .int .u64 0, .int .i64 X.er]) ?_ rfl ⟨below_block4 hb04 (by omega) _ _ _ _, .inr ⟨hnz, rfl⟩⟩
    obtain ⟨z0, z1, z2, z3⟩ := (DR4.store4 (.slice none 0 0) (.slice none 0 0) (.slice none 0 0) (.slice none 0 0)).four
    simp only [results, Tryz.results21]
    go_simp
set_option maxRecDepth 100000 in
set_option maxHeartbeats 4000000 in
theorem do_unpin (A : Option Addr) (n c : Nat) (RA : Option Addr) (rn rc : Nat) (PA : Option Addr) (pn pc : Nat) (HA : Option Addr) (hn hc : Nat) (S : St) (a b cc v : Int) (w : World) (hR : StR w w.heap.size A n RA rn PA pn HA hn S) (hK : StK n c rn pn hn S) (hT : FTab w) (hrt : rightB ⟨8, a, b, cc, v⟩ = true) :
    Calls Tryz.prog 21 #[.agg #[.slice A n c, .slice RA rn rc, .slice PA pn pc, .slice HA hn hc], .agg #[.int .i64 8, .int .i64 a, .int .i64 b, .int .i64 cc, .int .u64 v]] w (DoPost w (unpinO S a)) := by
  have HX := Lib.hid (fun w hR => unpin_out A n c RA rn rc PA pn pc HA hn hc S a w hR hK)
  have HT0 : Hid ((unpinO S a).told = 0) := by show _ = _; unfold unpinO; exact told_if rfl (told_if rfl rfl)
  generalize unpinO S a = X at *
  have HRt := Lib.hid (fun w hT => right_any 8 a b cc v w hT)
  rw [hrt] at HRt
  have HT := Lib.hid hT
  have hb0 := below_new w (.cells #[.slice A n c, .slice RA rn rc, .slice PA pn pc, .slice HA hn hc] 28)
  have hb00 := hb0.alloc hb0.size (.cells #[.int .i64 8, .int .i64 a, .int .i64 b, .int .i64 cc, .int .u64 v] 52)
  have hb1 := hb00.alloc hb00.size (.cells #[.slice none 0 0, .slice none 0 0, .slice none 0 0, .slice none 0 0] 28)
  have DS := ((Blk.new w 28 #[.slice A n c, .slice RA rn rc, .slice PA pn pc, .slice HA hn hc]).alloc (.cells #[.int .i64 8, .int .i64 a, .int .i64 b, .int .i64 cc, .int .u64 v] 52)).alloc (.cells #[.slice none 0 0, .slice none 0 0, .slice none 0 0, .slice none 0 0] 28)
  have DO := (Blk.new (w.alloc (.cells #[.slice A n c, .slice RA rn rc, .slice PA pn pc, .slice HA hn hc] 28)) 52 #[.int .i64 8, .int .i64 a, .int .i64 b, .int .i64 cc, .int .u64 v]).alloc (.cells #[.slice none 0 0, .slice none 0 0, .slice none 0 0, .slice none 0 0] 28)
  have DR := Blk.new ((w.alloc (.cells #[.slice A n c, .slice RA rn rc, .slice PA pn pc, .slice HA hn hc] 28)).alloc (.cells #[.int .i64 8, .int .i64 a, .int .i64 b, .int .i64 cc, .int .u64 v] 52)) 28 #[.slice none 0 0, .slice none 0 0, .slice none 0 0, .slice none 0 0]
  simp only [World.size_alloc] at DO DR
  obtain ⟨m0, m1, m2, m3, m4⟩ := DO.five
  clear hrt hT hb0 hb00
  go_enter Tryz.func21, Tryz.ntmps21
  go_wp2_with fail
  refine (HRt.out _ (HT.out.below hb1)).mono ?_
  rintro e w2 ⟨hb2, rfl⟩
  have hb02 := below_step hb1 hb2
  have DS2 := DS.below hb2 DS.lt
  have DO2 := DO.below hb2 DO.lt
  have DR2 := DR.below hb2 DR.lt
  clear m0 m1 m2 m3 m4 DS DO DR hb1 hb2 HRt
  obtain ⟨s0, s1, s2, s3⟩ := DS2.four
  obtain ⟨m0, m1, m2, m3, m4⟩ := DO2.five
  go_wp2_with fail
  refine (HX.out _ ((hR.below hb02).more hb02.size)).mono ?_
  rintro e w3 ⟨hb3, ⟨hz, B1, n1, d1, B2, n2, d2, B3, n3, d3, B4, n4, d4, rfl, hO⟩ | ⟨hnz, rfl⟩⟩
  · have hb03 := below_step hb02 hb3
    have DR3 := DR2.below hb3 DR2.lt
    have hlt : w.heap.size + 2 < w2.heap.size := DR2.lt
    clear s0 s1 s2 s3 m0 m1 m2 m3 m4 HX DS2 DO2
    go_wp2_with fail
    refine (only_any B1 n1 d1 B2 n2 d2 B3 n3 d3 B4 n4 d4 0 _).mono ?_
    rintro e w4 ⟨hb4, rfl⟩
    have hb04 := below_step hb03 hb4
    have DR4 := DR3.below hb4 DR3.lt
    have hO4 := (hO.below hb4).mono hb02.size
    obtain ⟨r0, r1, r2, r3⟩ := DR4.four
    obtain ⟨f0, f1, f2, f3⟩ := DR4.four_frozen
    go_wp2_with fail
    refine bodyPost_ret (v := .tuple #[.agg #[.slice B1 n1 d1, .slice B2 n2 d2, .slice B3 n3 d3, .slice B4 n4 d4], .int .u64 0, .int .i64 0]) ?_ rfl ⟨below_block4 hb04 (by omega) _ _ _ _, .inl ⟨hz, B1, n1, d1, B2, n2, d2, B3, n3, d3, B4, n4, d4, by rw [HT0.out], hO4.store DR4 _ _ _ _⟩⟩
    obtain ⟨z0, z1, z2, z3⟩ := (DR4.store4 (.slice B1 n1 d1) (.slice B2 n2 d2) (.slice B3 n3 d3) (.slice B4 n4 d4)).four
    simp only [results, Tryz.results21]
    go_simp
  · have hb03 := below_step hb02 hb3
    have DR3 := DR2.below hb3 DR2.lt
    have hlt : w.heap.size + 2 < w2.heap.size := DR2.lt
    clear s0 s1 s2 s3 m0 m1 m2 m3 m4 HX DS2 DO2
    go_wp2_with fail
    refine (only_any none 0 0 none 0 0 none 0 0 none 0 0 X.er _).mono ?_
    rintro e w4 ⟨hb4, rfl⟩
    have hb04 := below_step hb03 hb4
    have DR4 := DR3.below hb4 DR3.lt
    obtain ⟨r0, r1, r2, r3⟩ := DR4.four
    obtain ⟨f0, f1, f2, f3⟩ := DR4.four_frozen
    go_wp2_with fail
    refine bodyPost_ret (v := .tuple #[.agg #[.slice none 0 0, .slice none 0 0, .slice none 0 0, .slice none 0 0], .int .u64 0, .int .i64 X.er]) ?_ rfl ⟨below_block4 hb04 (by omega) _ _ _ _, .inr ⟨hnz, rfl⟩⟩
    obtain ⟨z0, z1, z2, z3⟩ := (DR4.store4 (.slice none 0 0) (.slice none 0 0) (.slice none 0 0) (.slice none 0 0)).four
    simp only [results, Tryz.results21]
    go_simp
set_option maxRecDepth 100000 in
set_option maxHeartbeats 4000000 in
theorem do_use (A : Option Addr) (n c : Nat) (RA : Option Addr) (rn rc : Nat) (PA : Option Addr) (pn pc : Nat) (HA : Option Addr) (hn hc : Nat) (S : St) (a b cc v : Int) (v0 : 0 ≤ v) (v1 : v < 18446744073709551616) (w : World) (hR : StR w w.heap.size A n RA rn PA pn HA hn S) (hK : StK n c rn pn hn S) (hT : FTab w) (hrt : rightB ⟨11, a, b, cc, v⟩ = true) :
    Calls Tryz.prog 21 #[.agg #[.slice A n c, .slice RA rn rc, .slice PA pn pc, .slice HA hn hc], .agg #[.int .i64 11, .int .i64 a, .int .i64 b, .int .i64 cc, .int .u64 v]] w (DoPost w (useO S v a)) := by
  have HX := Lib.hid (fun w hR => use_out A n c RA rn rc PA pn pc HA hn hc S v a v0 v1 w hR hK)
  have HT0 : Hid ((useO S v a).told = 0) := by show _ = _; unfold useO; refine told_if rfl ?_; split <;> rfl
  generalize useO S v a = X at *
  have HRt := Lib.hid (fun w hT => right_any 11 a b cc v w hT)
  rw [hrt] at HRt
  have HT := Lib.hid hT
  have hb0 := below_new w (.cells #[.slice A n c, .slice RA rn rc, .slice PA pn pc, .slice HA hn hc] 28)
  have hb00 := hb0.alloc hb0.size (.cells #[.int .i64 11, .int .i64 a, .int .i64 b, .int .i64 cc, .int .u64 v] 52)
  have hb1 := hb00.alloc hb00.size (.cells #[.slice none 0 0, .slice none 0 0, .slice none 0 0, .slice none 0 0] 28)
  have DS := ((Blk.new w 28 #[.slice A n c, .slice RA rn rc, .slice PA pn pc, .slice HA hn hc]).alloc (.cells #[.int .i64 11, .int .i64 a, .int .i64 b, .int .i64 cc, .int .u64 v] 52)).alloc (.cells #[.slice none 0 0, .slice none 0 0, .slice none 0 0, .slice none 0 0] 28)
  have DO := (Blk.new (w.alloc (.cells #[.slice A n c, .slice RA rn rc, .slice PA pn pc, .slice HA hn hc] 28)) 52 #[.int .i64 11, .int .i64 a, .int .i64 b, .int .i64 cc, .int .u64 v]).alloc (.cells #[.slice none 0 0, .slice none 0 0, .slice none 0 0, .slice none 0 0] 28)
  have DR := Blk.new ((w.alloc (.cells #[.slice A n c, .slice RA rn rc, .slice PA pn pc, .slice HA hn hc] 28)).alloc (.cells #[.int .i64 11, .int .i64 a, .int .i64 b, .int .i64 cc, .int .u64 v] 52)) 28 #[.slice none 0 0, .slice none 0 0, .slice none 0 0, .slice none 0 0]
  simp only [World.size_alloc] at DO DR
  obtain ⟨m0, m1, m2, m3, m4⟩ := DO.five
  clear hrt hT hb0 hb00
  go_enter Tryz.func21, Tryz.ntmps21
  go_wp2_with fail
  refine (HRt.out _ (HT.out.below hb1)).mono ?_
  rintro e w2 ⟨hb2, rfl⟩
  have hb02 := below_step hb1 hb2
  have DS2 := DS.below hb2 DS.lt
  have DO2 := DO.below hb2 DO.lt
  have DR2 := DR.below hb2 DR.lt
  clear m0 m1 m2 m3 m4 DS DO DR hb1 hb2 HRt
  obtain ⟨s0, s1, s2, s3⟩ := DS2.four
  obtain ⟨m0, m1, m2, m3, m4⟩ := DO2.five
  go_wp2_with fail
  refine (HX.out _ ((hR.below hb02).more hb02.size)).mono ?_
  rintro e w3 ⟨hb3, ⟨hz, B1, n1, d1, B2, n2, d2, B3, n3, d3, B4, n4, d4, rfl, hO⟩ | ⟨hnz, rfl⟩⟩
  · have hb03 := below_step hb02 hb3
    have DR3 := DR2.below hb3 DR2.lt
    have hlt : w.heap.size + 2 < w2.heap.size := DR2.lt
    clear s0 s1 s2 s3 m0 m1 m2 m3 m4 HX DS2 DO2
    go_wp2_with fail
    refine (only_any B1 n1 d1 B2 n2 d2 B3 n3 d3 B4 n4 d4 0 _).mono ?_
    rintro e w4 ⟨hb4, rfl⟩
    have hb04 := below_step hb03 hb4
    have DR4 := DR3.below hb4 DR3.lt
    have hO4 := (hO.below hb4).mono hb02.size
    obtain ⟨r0, r1, r2, r3⟩ := DR4.four
    obtain ⟨f0, f1, f2, f3⟩ := DR4.four_frozen
    go_wp2_with fail
    refine bodyPost_ret (v := .tuple #[.agg #[.slice B1 n1 d1, .slice B2 n2 d2, .slice B3 n3 d3, .slice B4 n4 d4], .int .u64 0, .int .i64 0]) ?_ rfl ⟨below_block4 hb04 (by omega) _ _ _ _, .inl ⟨hz, B1, n1, d1, B2, n2, d2, B3, n3, d3, B4, n4, d4, by rw [HT0.out], hO4.store DR4 _ _ _ _⟩⟩
    obtain ⟨z0, z1, z2, z3⟩ := (DR4.store4 (.slice B1 n1 d1) (.slice B2 n2 d2) (.slice B3 n3 d3) (.slice B4 n4 d4)).four
    simp only [results, Tryz.results21]
    go_simp
  · have hb03 := below_step hb02 hb3
    have DR3 := DR2.below hb3 DR2.lt
    have hlt : w.heap.size + 2 < w2.heap.size := DR2.lt
    clear s0 s1 s2 s3 m0 m1 m2 m3 m4 HX DS2 DO2
    go_wp2_with fail
    refine (only_any none 0 0 none 0 0 none 0 0 none 0 0 X.er _).mono ?_
    rintro e w4 ⟨hb4, rfl⟩
    have hb04 := below_step hb03 hb4
    have DR4 := DR3.below hb4 DR3.lt
    obtain ⟨r0, r1, r2, r3⟩ := DR4.four
    obtain ⟨f0, f1, f2, f3⟩ := DR4.four_frozen
    go_wp2_with fail
    refine bodyPost_ret (v := .tuple #[.agg #[.slice none 0 0, .slice none 0 0, .slice none 0 0, .slice none 0 0], .int .u64 0, .int .i64 X.er]) ?_ rfl ⟨below_block4 hb04 (by omega) _ _ _ _, .inr ⟨hnz, rfl⟩⟩
    obtain ⟨z0, z1, z2, z3⟩ := (DR4.store4 (.slice none 0 0) (.slice none 0 0) (.slice none 0 0) (.slice none 0 0)).four
    simp only [results, Tryz.results21]
    go_simp
set_option maxRecDepth 100000 in
set_option maxHeartbeats 4000000 in
theorem do_shut (A : Option Addr) (n c : Nat) (RA : Option Addr) (rn rc : Nat) (PA : Option Addr) (pn pc : Nat) (HA : Option Addr) (hn hc : Nat) (S : St) (a b cc v : Int) (v0 : 0 ≤ v) (v1 : v < 18446744073709551616) (w : World) (hR : StR w w.heap.size A n RA rn PA pn HA hn S) (hK : StK n c rn pn hn S) (hT : FTab w) (hrt : rightB ⟨12, a, b, cc, v⟩ = true) :
    Calls Tryz.prog 21 #[.agg #[.slice A n c, .slice RA rn rc, .slice PA pn pc, .slice HA hn hc], .agg #[.int .i64 12, .int .i64 a, .int .i64 b, .int .i64 cc, .int .u64 v]] w (DoPost w (shutO S v)) := by
  have HX := Lib.hid (fun w hR => shut_out A n c RA rn rc PA pn pc HA hn hc S v v0 v1 w hR hK)
  have HT0 : Hid ((shutO S v).told = 0) := by show _ = _; unfold shutO; refine told_if rfl ?_; split <;> rfl
  generalize shutO S v = X at *
  have HRt := Lib.hid (fun w hT => right_any 12 a b cc v w hT)
  rw [hrt] at HRt
  have HT := Lib.hid hT
  have hb0 := below_new w (.cells #[.slice A n c, .slice RA rn rc, .slice PA pn pc, .slice HA hn hc] 28)
  have hb00 := hb0.alloc hb0.size (.cells #[.int .i64 12, .int .i64 a, .int .i64 b, .int .i64 cc, .int .u64 v] 52)
  have hb1 := hb00.alloc hb00.size (.cells #[.slice none 0 0, .slice none 0 0, .slice none 0 0, .slice none 0 0] 28)
  have DS := ((Blk.new w 28 #[.slice A n c, .slice RA rn rc, .slice PA pn pc, .slice HA hn hc]).alloc (.cells #[.int .i64 12, .int .i64 a, .int .i64 b, .int .i64 cc, .int .u64 v] 52)).alloc (.cells #[.slice none 0 0, .slice none 0 0, .slice none 0 0, .slice none 0 0] 28)
  have DO := (Blk.new (w.alloc (.cells #[.slice A n c, .slice RA rn rc, .slice PA pn pc, .slice HA hn hc] 28)) 52 #[.int .i64 12, .int .i64 a, .int .i64 b, .int .i64 cc, .int .u64 v]).alloc (.cells #[.slice none 0 0, .slice none 0 0, .slice none 0 0, .slice none 0 0] 28)
  have DR := Blk.new ((w.alloc (.cells #[.slice A n c, .slice RA rn rc, .slice PA pn pc, .slice HA hn hc] 28)).alloc (.cells #[.int .i64 12, .int .i64 a, .int .i64 b, .int .i64 cc, .int .u64 v] 52)) 28 #[.slice none 0 0, .slice none 0 0, .slice none 0 0, .slice none 0 0]
  simp only [World.size_alloc] at DO DR
  obtain ⟨m0, m1, m2, m3, m4⟩ := DO.five
  clear hrt hT hb0 hb00
  go_enter Tryz.func21, Tryz.ntmps21
  go_wp2_with fail
  refine (HRt.out _ (HT.out.below hb1)).mono ?_
  rintro e w2 ⟨hb2, rfl⟩
  have hb02 := below_step hb1 hb2
  have DS2 := DS.below hb2 DS.lt
  have DO2 := DO.below hb2 DO.lt
  have DR2 := DR.below hb2 DR.lt
  clear m0 m1 m2 m3 m4 DS DO DR hb1 hb2 HRt
  obtain ⟨s0, s1, s2, s3⟩ := DS2.four
  obtain ⟨m0, m1, m2, m3, m4⟩ := DO2.five
  go_wp2_with fail
  refine (HX.out _ ((hR.below hb02).more hb02.size)).mono ?_
  rintro e w3 ⟨hb3, ⟨hz, B1, n1, d1, B2, n2, d2, B3, n3, d3, B4, n4, d4, rfl, hO⟩ | ⟨hnz, rfl⟩⟩
  · have hb03 := below_step hb02 hb3
    have DR3 := DR2.below hb3 DR2.lt
    have hlt : w.heap.size + 2 < w2.heap.size := DR2.lt
    clear s0 s1 s2 s3 m0 m1 m2 m3 m4 HX DS2 DO2
    go_wp2_with fail
    refine (only_any B1 n1 d1 B2 n2 d2 B3 n3 d3 B4 n4 d4 0 _).mono ?_
    rintro e w4 ⟨hb4, rfl⟩
    have hb04 := below_step hb03 hb4
    have DR4 := DR3.below hb4 DR3.lt
    have hO4 := (hO.below hb4).mono hb02.size
    obtain ⟨r0, r1, r2, r3⟩ := DR4.four
    obtain ⟨f0, f1, f2, f3⟩ := DR4.four_frozen
    go_wp2_with fail
    refine bodyPost_ret (v := .tuple #[.agg #[.slice B1 n1 d1, .slice B2 n2 d2, .slice B3 n3 d3, .slice B4 n4 d4], .int .u64 0, .int .i64 0]) ?_ rfl ⟨below_block4 hb04 (by omega) _ _ _ _, .inl ⟨hz, B1, n1, d1, B2, n2, d2, B3, n3, d3, B4, n4, d4, by rw [HT0.out], hO4.store DR4 _ _ _ _⟩⟩
    obtain ⟨z0, z1, z2, z3⟩ := (DR4.store4 (.slice B1 n1 d1) (.slice B2 n2 d2) (.slice B3 n3 d3) (.slice B4 n4 d4)).four
    simp only [results, Tryz.results21]
    go_simp
  · have hb03 := below_step hb02 hb3
    have DR3 := DR2.below hb3 DR2.lt
    have hlt : w.heap.size + 2 < w2.heap.size := DR2.lt
    clear s0 s1 s2 s3 m0 m1 m2 m3 m4 HX DS2 DO2
    go_wp2_with fail
    refine (only_any none 0 0 none 0 0 none 0 0 none 0 0 X.er _).mono ?_
    rintro e w4 ⟨hb4, rfl⟩
    have hb04 := below_step hb03 hb4
    have DR4 := DR3.below hb4 DR3.lt
    obtain ⟨r0, r1, r2, r3⟩ := DR4.four
    obtain ⟨f0, f1, f2, f3⟩ := DR4.four_frozen
    go_wp2_with fail
    refine bodyPost_ret (v := .tuple #[.agg #[.slice none 0 0, .slice none 0 0, .slice none 0 0, .slice none 0 0], .int .u64 0, .int .i64 X.er]) ?_ rfl ⟨below_block4 hb04 (by omega) _ _ _ _, .inr ⟨hnz, rfl⟩⟩
    obtain ⟨z0, z1, z2, z3⟩ := (DR4.store4 (.slice none 0 0) (.slice none 0 0) (.slice none 0 0) (.slice none 0 0)).four
    simp only [results, Tryz.results21]
    go_simp
set_option maxRecDepth 100000 in
set_option maxHeartbeats 4000000 in
theorem do_drop (A : Option Addr) (n c : Nat) (RA : Option Addr) (rn rc : Nat) (PA : Option Addr) (pn pc : Nat) (HA : Option Addr) (hn hc : Nat) (S : St) (a b cc v : Int) (w : World) (hR : StR w w.heap.size A n RA rn PA pn HA hn S) (hK : StK n c rn pn hn S) (hT : FTab w) (hrt : rightB ⟨13, a, b, cc, v⟩ = true) :
    Calls Tryz.prog 21 #[.agg #[.slice A n c, .slice RA rn rc, .slice PA pn pc, .slice HA hn hc], .agg #[.int .i64 13, .int .i64 a, .int .i64 b, .int .i64 cc, .int .u64 v]] w (DoPost w (dropO S a)) := by
  have HX := Lib.hid (fun w hR => drop_out A n c RA rn rc PA pn pc HA hn hc S a w hR hK)
  have HT0 : Hid ((dropO S a).told = 0) := by show _ = _; unfold dropO; exact told_if rfl rfl
  generalize dropO S a = X at *
  have HRt := Lib.hid (fun w hT => right_any 13 a b cc v w hT)
  rw [hrt] at HRt
  have HT := Lib.hid hT
  have hb0 := below_new w (.cells #[.slice A n c, .slice RA rn rc, .slice PA pn pc, .slice HA hn hc] 28)
  have hb00 := hb0.alloc hb0.size (.cells #[.int .i64 13, .int .i64 a, .int .i64 b, .int .i64 cc, .int .u64 v] 52)
  have hb1 := hb00.alloc hb00.size (.cells #[.slice none 0 0, .slice none 0 0, .slice none 0 0, .slice none 0 0] 28)
  have DS := ((Blk.new w 28 #[.slice A n c, .slice RA rn rc, .slice PA pn pc, .slice HA hn hc]).alloc (.cells #[.int .i64 13, .int .i64 a, .int .i64 b, .int .i64 cc, .int .u64 v] 52)).alloc (.cells #[.slice none 0 0, .slice none 0 0, .slice none 0 0, .slice none 0 0] 28)
  have DO := (Blk.new (w.alloc (.cells #[.slice A n c, .slice RA rn rc, .slice PA pn pc, .slice HA hn hc] 28)) 52 #[.int .i64 13, .int .i64 a, .int .i64 b, .int .i64 cc, .int .u64 v]).alloc (.cells #[.slice none 0 0, .slice none 0 0, .slice none 0 0, .slice none 0 0] 28)
  have DR := Blk.new ((w.alloc (.cells #[.slice A n c, .slice RA rn rc, .slice PA pn pc, .slice HA hn hc] 28)).alloc (.cells #[.int .i64 13, .int .i64 a, .int .i64 b, .int .i64 cc, .int .u64 v] 52)) 28 #[.slice none 0 0, .slice none 0 0, .slice none 0 0, .slice none 0 0]
  simp only [World.size_alloc] at DO DR
  obtain ⟨m0, m1, m2, m3, m4⟩ := DO.five
  clear hrt hT hb0 hb00
  go_enter Tryz.func21, Tryz.ntmps21
  go_wp2_with fail
  refine (HRt.out _ (HT.out.below hb1)).mono ?_
  rintro e w2 ⟨hb2, rfl⟩
  have hb02 := below_step hb1 hb2
  have DS2 := DS.below hb2 DS.lt
  have DO2 := DO.below hb2 DO.lt
  have DR2 := DR.below hb2 DR.lt
  clear m0 m1 m2 m3 m4 DS DO DR hb1 hb2 HRt
  obtain ⟨s0, s1, s2, s3⟩ := DS2.four
  obtain ⟨m0, m1, m2, m3, m4⟩ := DO2.five
  go_wp2_with fail
  refine (HX.out _ ((hR.below hb02).more hb02.size)).mono ?_
  rintro e w3 ⟨hb3, ⟨hz, B1, n1, d1, B2, n2, d2, B3, n3, d3, B4, n4, d4, rfl, hO⟩ | ⟨hnz, rfl⟩⟩
  · have hb03 := below_step hb02 hb3
    have DR3 := DR2.below hb3 DR2.lt
    have hlt : w.heap.size + 2 < w2.heap.size := DR2.lt
    clear s0 s1 s2 s3 m0 m1 m2 m3 m4 HX DS2 DO2
    go_wp2_with fail
    refine (only_any B1 n1 d1 B2 n2 d2 B3 n3 d3 B4 n4 d4 0 _).mono ?_
    rintro e w4 ⟨hb4, rfl⟩
    have hb04 := below_step hb03 hb4
    have DR4 := DR3.below hb4 DR3.lt
    have hO4 := (hO.below hb4).mono hb02.size
    obtain ⟨r0, r1, r2, r3⟩ := DR4.four
    obtain ⟨f0, f1, f2, f3⟩ := DR4.four_frozen
    go_wp2_with fail
    refine bodyPost_ret (v := .tuple #[.agg #[.slice B1 n1 d1, .slice B2 n2 d2, .slice B3 n3 d3, .slice B4 n4 d4], .int .u64 0, .int .i64 0]) ?_ rfl ⟨below_block4 hb04 (by omega) _ _ _ _, .inl ⟨hz, B1, n1, d1, B2, n2, d2, B3, n3, d3, B4, n4, d4, by rw [HT0.out], hO4.store DR4 _ _ _ _⟩⟩
    obtain ⟨z0, z1, z2, z3⟩ := (DR4.store4 (.slice B1 n1 d1) (.slice B2 n2 d2) (.slice B3 n3 d3) (.slice B4 n4 d4)).four
    simp only [results, Tryz.results21]
    go_simp
  · have hb03 := below_step hb02 hb3
    have DR3 := DR2.below hb3 DR2.lt
    have hlt : w.heap.size + 2 < w2.heap.size := DR2.lt
    clear s0 s1 s2 s3 m0 m1 m2 m3 m4 HX DS2 DO2
    go_wp2_with fail
    refine (only_any none 0 0 none 0 0 none 0 0 none 0 0 X.er _).mono ?_
    rintro e w4 ⟨hb4, rfl⟩
    have hb04 := below_step hb03 hb4
    have DR4 := DR3.below hb4 DR3.lt
    obtain ⟨r0, r1, r2, r3⟩ := DR4.four
    obtain ⟨f0, f1, f2, f3⟩ := DR4.four_frozen
    go_wp2_with fail
    refine bodyPost_ret (v := .tuple #[.agg #[.slice none 0 0, .slice none 0 0, .slice none 0 0, .slice none 0 0], .int .u64 0, .int .i64 X.er]) ?_ rfl ⟨below_block4 hb04 (by omega) _ _ _ _, .inr ⟨hnz, rfl⟩⟩
    obtain ⟨z0, z1, z2, z3⟩ := (DR4.store4 (.slice none 0 0) (.slice none 0 0) (.slice none 0 0) (.slice none 0 0)).four
    simp only [results, Tryz.results21]
    go_simp
set_option maxRecDepth 100000 in
set_option maxHeartbeats 4000000 in
theorem do_coll (A : Option Addr) (n c : Nat) (RA : Option Addr) (rn rc : Nat) (PA : Option Addr) (pn pc : Nat) (HA : Option Addr) (hn hc : Nat) (S : St) (a b cc v : Int) (w : World) (hR : StR w w.heap.size A n RA rn PA pn HA hn S) (hK : StK n c rn pn hn S) (hT : FTab w) (hrt : rightB ⟨2, a, b, cc, v⟩ = true) :
    Calls Tryz.prog 21 #[.agg #[.slice A n c, .slice RA rn rc, .slice PA pn pc, .slice HA hn hc], .agg #[.int .i64 2, .int .i64 a, .int .i64 b, .int .i64 cc, .int .u64 v]] w (DoPost w (collO S)) := by
  have HX := Lib.hid (fun w hR => coll_out A n c RA rn rc PA pn pc HA hn hc S  w hR hK)
  have HT0 : Hid ((collO S).er = 0 → ∃ N : Nat, (collO S).told = N ∧ N < 18446744073709551616) := by
    show _ → _
    exact coll_told S
  generalize collO S = X at *
  have HRt := Lib.hid (fun w hT => right_any 2 a b cc v w hT)
  rw [hrt] at HRt
  have HT := Lib.hid hT
  have hb0 := below_new w (.cells #[.slice A n c, .slice RA rn rc, .slice PA pn pc, .slice HA hn hc] 28)
  have hb00 := hb0.alloc hb0.size (.cells #[.int .i64 2, .int .i64 a, .int .i64 b, .int .i64 cc, .int .u64 v] 52)
  have hb1 := hb00.alloc hb00.size (.cells #[.slice none 0 0, .slice none 0 0, .slice none 0 0, .slice none 0 0] 28)
  have DS := ((Blk.new w 28 #[.slice A n c, .slice RA rn rc, .slice PA pn pc, .slice HA hn hc]).alloc (.cells #[.int .i64 2, .int .i64 a, .int .i64 b, .int .i64 cc, .int .u64 v] 52)).alloc (.cells #[.slice none 0 0, .slice none 0 0, .slice none 0 0, .slice none 0 0] 28)
  have DO := (Blk.new (w.alloc (.cells #[.slice A n c, .slice RA rn rc, .slice PA pn pc, .slice HA hn hc] 28)) 52 #[.int .i64 2, .int .i64 a, .int .i64 b, .int .i64 cc, .int .u64 v]).alloc (.cells #[.slice none 0 0, .slice none 0 0, .slice none 0 0, .slice none 0 0] 28)
  have DR := Blk.new ((w.alloc (.cells #[.slice A n c, .slice RA rn rc, .slice PA pn pc, .slice HA hn hc] 28)).alloc (.cells #[.int .i64 2, .int .i64 a, .int .i64 b, .int .i64 cc, .int .u64 v] 52)) 28 #[.slice none 0 0, .slice none 0 0, .slice none 0 0, .slice none 0 0]
  simp only [World.size_alloc] at DO DR
  obtain ⟨m0, m1, m2, m3, m4⟩ := DO.five
  clear hrt hT hb0 hb00
  go_enter Tryz.func21, Tryz.ntmps21
  go_wp2_with fail
  refine (HRt.out _ (HT.out.below hb1)).mono ?_
  rintro e w2 ⟨hb2, rfl⟩
  have hb02 := below_step hb1 hb2
  have DS2 := DS.below hb2 DS.lt
  have DO2 := DO.below hb2 DO.lt
  have DR2 := DR.below hb2 DR.lt
  clear m0 m1 m2 m3 m4 DS DO DR hb1 hb2 HRt
  obtain ⟨s0, s1, s2, s3⟩ := DS2.four
  obtain ⟨m0, m1, m2, m3, m4⟩ := DO2.five
  go_wp2_with fail
  refine (HX.out _ ((hR.below hb02).more hb02.size)).mono ?_
  rintro e w3 ⟨hb3, ⟨hz, B1, n1, d1, B2, n2, d2, B3, n3, d3, B4, n4, d4, rfl, hO⟩ | ⟨hnz, rfl⟩⟩
  · have hb03 := below_step hb02 hb3
    have DR3 := DR2.below hb3 DR2.lt
    have hlt : w.heap.size + 2 < w2.heap.size := DR2.lt
    obtain ⟨N, hN, hN1⟩ := HT0.out hz
    rw [hN]
    clear s0 s1 s2 s3 m0 m1 m2 m3 m4 HX DS2 DO2
    go_wp2_with fail
    refine (number_any B1 n1 d1 B2 n2 d2 B3 n3 d3 B4 n4 d4 N 0 hN1 _).mono ?_
    rintro e w4 ⟨hb4, rfl⟩
    have hb04 := below_step hb03 hb4
    have DR4 := DR3.below hb4 DR3.lt
    have hO4 := (hO.below hb4).mono hb02.size
    obtain ⟨r0, r1, r2, r3⟩ := DR4.four
    obtain ⟨f0, f1, f2, f3⟩ := DR4.four_frozen
    go_wp2_with fail
    refine bodyPost_ret (v := .tuple #[.agg #[.slice B1 n1 d1, .slice B2 n2 d2, .slice B3 n3 d3, .slice B4 n4 d4], .int .u64 (N : Int), .int .i64 0]) ?_ rfl ⟨below_block4 hb04 (by omega) _ _ _ _, .inl ⟨hz, B1, n1, d1, B2, n2, d2, B3, n3, d3, B4, n4, d4, by rw [hN], hO4.store DR4 _ _ _ _⟩⟩
    obtain ⟨z0, z1, z2, z3⟩ := (DR4.store4 (.slice B1 n1 d1) (.slice B2 n2 d2) (.slice B3 n3 d3) (.slice B4 n4 d4)).four
    simp only [results, Tryz.results21]
    go_simp
  · have hb03 := below_step hb02 hb3
    have DR3 := DR2.below hb3 DR2.lt
    have hlt : w.heap.size + 2 < w2.heap.size := DR2.lt
    clear s0 s1 s2 s3 m0 m1 m2 m3 m4 HX DS2 DO2
    go_wp2_with fail
    refine (number_any none 0 0 none 0 0 none 0 0 none 0 0 0 X.er (by decide) _).mono ?_
    rintro e w4 ⟨hb4, rfl⟩
    have hb04 := below_step hb03 hb4
    have DR4 := DR3.below hb4 DR3.lt
    obtain ⟨r0, r1, r2, r3⟩ := DR4.four
    obtain ⟨f0, f1, f2, f3⟩ := DR4.four_frozen
    go_wp2_with fail
    refine bodyPost_ret (v := .tuple #[.agg #[.slice none 0 0, .slice none 0 0, .slice none 0 0, .slice none 0 0], .int .u64 0, .int .i64 X.er]) ?_ rfl ⟨below_block4 hb04 (by omega) _ _ _ _, .inr ⟨hnz, rfl⟩⟩
    obtain ⟨z0, z1, z2, z3⟩ := (DR4.store4 (.slice none 0 0) (.slice none 0 0) (.slice none 0 0) (.slice none 0 0)).four
    simp only [results, Tryz.results21]
    go_simp
set_option maxRecDepth 100000 in
set_option maxHeartbeats 4000000 in
theorem do_pin (A : Option Addr) (n c : Nat) (RA : Option Addr) (rn rc : Nat) (PA : Option Addr) (pn pc : Nat) (HA : Option Addr) (hn hc : Nat) (S : St) (a b cc v : Int) (w : World) (hR : StR w w.heap.size A n RA rn PA pn HA hn S) (hK : StK n c rn pn hn S) (hT : FTab w) (hrt : rightB ⟨7, a, b, cc, v⟩ = true) :
    Calls Tryz.prog 21 #[.agg #[.slice A n c, .slice RA rn rc, .slice PA pn pc, .slice HA hn hc], .agg #[.int .i64 7, .int .i64 a, .int .i64 b, .int .i64 cc, .int .u64 v]] w (DoPost w (pinO S a)) := by
  have HX := Lib.hid (fun w hR => pin_out A n c RA rn rc PA pn pc HA hn hc S a w hR hK)
  have HT0 : Hid ((pinO S a).er = 0 → ∃ N : Nat, (pinO S a).told = N ∧ N < 18446744073709551616) := by
    show _ → _
    exact pin_told S a
  generalize pinO S a = X at *
  have HRt := Lib.hid (fun w hT => right_any 7 a b cc v w hT)
  rw [hrt] at HRt
  have HT := Lib.hid hT
  have hb0 := below_new w (.cells #[.slice A n c, .slice RA rn rc, .slice PA pn pc, .slice HA hn hc] 28)
  have hb00 := hb0.alloc hb0.size (.cells #[.int .i64 7, .int .i64 a, .int .i64 b, .int .i64 cc, .int .u64 v] 52)
  have hb1 := hb00.alloc hb00.size (.cells #[.slice none 0 0, .slice none 0 0, .slice none 0 0, .slice none 0 0] 28)
  have DS := ((Blk.new w 28 #[.slice A n c, .slice RA rn rc, .slice PA pn pc, .slice HA hn hc]).alloc (.cells #[.int .i64 7, .int .i64 a, .int .i64 b, .int .i64 cc, .int .u64 v] 52)).alloc (.cells #[.slice none 0 0, .slice none 0 0, .slice none 0 0, .slice none 0 0] 28)
  have DO := (Blk.new (w.alloc (.cells #[.slice A n c, .slice RA rn rc, .slice PA pn pc, .slice HA hn hc] 28)) 52 #[.int .i64 7, .int .i64 a, .int .i64 b, .int .i64 cc, .int .u64 v]).alloc (.cells #[.slice none 0 0, .slice none 0 0, .slice none 0 0, .slice none 0 0] 28)
  have DR := Blk.new ((w.alloc (.cells #[.slice A n c, .slice RA rn rc, .slice PA pn pc, .slice HA hn hc] 28)).alloc (.cells #[.int .i64 7, .int .i64 a, .int .i64 b, .int .i64 cc, .int .u64 v] 52)) 28 #[.slice none 0 0, .slice none 0 0, .slice none 0 0, .slice none 0 0]
  simp only [World.size_alloc] at DO DR
  obtain ⟨m0, m1, m2, m3, m4⟩ := DO.five
  clear hrt hT hb0 hb00
  go_enter Tryz.func21, Tryz.ntmps21
  go_wp2_with fail
  refine (HRt.out _ (HT.out.below hb1)).mono ?_
  rintro e w2 ⟨hb2, rfl⟩
  have hb02 := below_step hb1 hb2
  have DS2 := DS.below hb2 DS.lt
  have DO2 := DO.below hb2 DO.lt
  have DR2 := DR.below hb2 DR.lt
  clear m0 m1 m2 m3 m4 DS DO DR hb1 hb2 HRt
  obtain ⟨s0, s1, s2, s3⟩ := DS2.four
  obtain ⟨m0, m1, m2, m3, m4⟩ := DO2.five
  go_wp2_with fail
  refine (HX.out _ ((hR.below hb02).more hb02.size)).mono ?_
  rintro e w3 ⟨hb3, ⟨hz, B1, n1, d1, B2, n2, d2, B3, n3, d3, B4, n4, d4, rfl, hO⟩ | ⟨hnz, rfl⟩⟩
  · have hb03 := below_step hb02 hb3
    have DR3 := DR2.below hb3 DR2.lt
    have hlt : w.heap.size + 2 < w2.heap.size := DR2.lt
    obtain ⟨N, hN, hN1⟩ := HT0.out hz
    rw [hN]
    clear s0 s1 s2 s3 m0 m1 m2 m3 m4 HX DS2 DO2
    go_wp2_with fail
    refine (number_any B1 n1 d1 B2 n2 d2 B3 n3 d3 B4 n4 d4 N 0 hN1 _).mono ?_
    rintro e w4 ⟨hb4, rfl⟩
    have hb04 := below_step hb03 hb4
    have DR4 := DR3.below hb4 DR3.lt
    have hO4 := (hO.below hb4).mono hb02.size
    obtain ⟨r0, r1, r2, r3⟩ := DR4.four
    obtain ⟨f0, f1, f2, f3⟩ := DR4.four_frozen
    go_wp2_with fail
    refine bodyPost_ret (v := .tuple #[.agg #[.slice B1 n1 d1, .slice B2 n2 d2, .slice B3 n3 d3, .slice B4 n4 d4], .int .u64 (N : Int), .int .i64 0]) ?_ rfl ⟨below_block4 hb04 (by omega) _ _ _ _, .inl ⟨hz, B1, n1, d1, B2, n2, d2, B3, n3, d3, B4, n4, d4, by rw [hN], hO4.store DR4 _ _ _ _⟩⟩
    obtain ⟨z0, z1, z2, z3⟩ := (DR4.store4 (.slice B1 n1 d1) (.slice B2 n2 d2) (.slice B3 n3 d3) (.slice B4 n4 d4)).four
    simp only [results, Tryz.results21]
    go_simp
  · have hb03 := below_step hb02 hb3
    have DR3 := DR2.below hb3 DR2.lt
    have hlt : w.heap.size + 2 < w2.heap.size := DR2.lt
    clear s0 s1 s2 s3 m0 m1 m2 m3 m4 HX DS2 DO2
    go_wp2_with fail
    refine (number_any none 0 0 none 0 0 none 0 0 none 0 0 0 X.er (by decide) _).mono ?_
    rintro e w4 ⟨hb4, rfl⟩
    have hb04 := below_step hb03 hb4
    have DR4 := DR3.below hb4 DR3.lt
    obtain ⟨r0, r1, r2, r3⟩ := DR4.four
    obtain ⟨f0, f1, f2, f3⟩ := DR4.four_frozen
    go_wp2_with fail
    refine bodyPost_ret (v := .tuple #[.agg #[.slice none 0 0, .slice none 0 0, .slice none 0 0, .slice none 0 0], .int .u64 0, .int .i64 X.er]) ?_ rfl ⟨below_block4 hb04 (by omega) _ _ _ _, .inr ⟨hnz, rfl⟩⟩
    obtain ⟨z0, z1, z2, z3⟩ := (DR4.store4 (.slice none 0 0) (.slice none 0 0) (.slice none 0 0) (.slice none 0 0)).four
    simp only [results, Tryz.results21]
    go_simp
set_option maxRecDepth 100000 in
set_option maxHeartbeats 4000000 in
theorem do_get (A : Option Addr) (n c : Nat) (RA : Option Addr) (rn rc : Nat) (PA : Option Addr) (pn pc : Nat) (HA : Option Addr) (hn hc : Nat) (S : St) (a b cc v : Int) (w : World) (hR : StR w w.heap.size A n RA rn PA pn HA hn S) (hK : StK n c rn pn hn S) (hT : FTab w) (hrt : rightB ⟨5, a, b, cc, v⟩ = true) :
    Calls Tryz.prog 21 #[.agg #[.slice A n c, .slice RA rn rc, .slice PA pn pc, .slice HA hn hc], .agg #[.int .i64 5, .int .i64 a, .int .i64 b, .int .i64 cc, .int .u64 v]] w (DoPost w (getO S a b)) := by
  have HX := Lib.hid (fun w hR => get_out A n c RA rn rc PA pn pc HA hn hc S a b w hR hK)
  have HT0 : Hid ((getO S a b).er = 0 → StOk S) := by
    show _ → _
    exact get_right S a b
  generalize getO S a b = X at *
  have HRt := Lib.hid (fun w hT => right_any 5 a b cc v w hT)
  rw [hrt] at HRt
  have HT := Lib.hid hT
  have hb0 := below_new w (.cells #[.slice A n c, .slice RA rn rc, .slice PA pn pc, .slice HA hn hc] 28)
  have hb00 := hb0.alloc hb0.size (.cells #[.int .i64 5, .int .i64 a, .int .i64 b, .int .i64 cc, .int .u64 v] 52)
  have hb1 := hb00.alloc hb00.size (.cells #[.slice none 0 0, .slice none 0 0, .slice none 0 0, .slice none 0 0] 28)
  have DS := ((Blk.new w 28 #[.slice A n c, .slice RA rn rc, .slice PA pn pc, .slice HA hn hc]).alloc (.cells #[.int .i64 5, .int .i64 a, .int .i64 b, .int .i64 cc, .int .u64 v] 52)).alloc (.cells #[.slice none 0 0, .slice none 0 0, .slice none 0 0, .slice none 0 0] 28)
  have DO := (Blk.new (w.alloc (.cells #[.slice A n c, .slice RA rn rc, .slice PA pn pc, .slice HA hn hc] 28)) 52 #[.int .i64 5, .int .i64 a, .int .i64 b, .int .i64 cc, .int .u64 v]).alloc (.cells #[.slice none 0 0, .slice none 0 0, .slice none 0 0, .slice none 0 0] 28)
  have DR := Blk.new ((w.alloc (.cells #[.slice A n c, .slice RA rn rc, .slice PA pn pc, .slice HA hn hc] 28)).alloc (.cells #[.int .i64 5, .int .i64 a, .int .i64 b, .int .i64 cc, .int .u64 v] 52)) 28 #[.slice none 0 0, .slice none 0 0, .slice none 0 0, .slice none 0 0]
  simp only [World.size_alloc] at DO DR
  obtain ⟨m0, m1, m2, m3, m4⟩ := DO.five
  clear hrt hT hb0 hb00
  go_enter Tryz.func21, Tryz.ntmps21
  go_wp2_with fail
  refine (HRt.out _ (HT.out.below hb1)).mono ?_
  rintro e w2 ⟨hb2, rfl⟩
  have hb02 := below_step hb1 hb2
  have DS2 := DS.below hb2 DS.lt
  have DO2 := DO.below hb2 DO.lt
  have DR2 := DR.below hb2 DR.lt
  clear m0 m1 m2 m3 m4 DS DO DR hb1 hb2 HRt
  obtain ⟨s0, s1, s2, s3⟩ := DS2.four
  obtain ⟨m0, m1, m2, m3, m4⟩ := DO2.five
  go_wp2_with fail
  refine (HX.out _ ((hR.below hb02).more hb02.size)).mono ?_
  rintro e w3 ⟨hb3, rfl, hst⟩
  have hb03 := below_step hb02 hb3
  have DS3 := DS2.below hb3 DS2.lt
  have DR3 := DR2.below hb3 DR2.lt
  have hlt : w.heap.size + 2 < w2.heap.size := DR2.lt
  clear s0 s1 s2 s3 m0 m1 m2 m3 m4 HX DS2 DO2
  obtain ⟨s0, s1, s2, s3⟩ := DS3.four
  go_wp2_with fail
  by_cases hz : X.er = 0
  · rw [hz]
    refine (kept_ok A n c RA rn rc PA pn pc HA hn hc S X.told _ ((hR.below hb03).more hb03.size) hK (HT0.out hz)).mono ?_
    rintro e w4 ⟨hb4, B1, n1, d1, B2, n2, d2, B3, n3, d3, B4, n4, d4, rfl, hO⟩
    have hb04 := below_step hb03 hb4
    have DR4 := DR3.below hb4 DR3.lt
    have hO4 := hO.mono hb03.size
    obtain ⟨T, hTl⟩ : ∃ T, T = X.told := ⟨_, rfl⟩
    rw [← hTl]
    have HTl := Lib.hid hTl
    clear s0 s1 s2 s3 hTl
    obtain ⟨r0, r1, r2, r3⟩ := DR4.four
    obtain ⟨f0, f1, f2, f3⟩ := DR4.four_frozen
    go_wp2_with fail
    refine bodyPost_ret (v := .tuple #[.agg #[.slice B1 n1 d1, .slice B2 n2 d2, .slice B3 n3 d3, .slice B4 n4 d4], .int .u64 T, .int .i64 0]) ?_ rfl ⟨below_block4 hb04 (by omega) _ _ _ _, .inl ⟨hz, B1, n1, d1, B2, n2, d2, B3, n3, d3, B4, n4, d4, by rw [HTl.out], by rw [hst]; exact hO4.store DR4 _ _ _ _⟩⟩
    obtain ⟨z0, z1, z2, z3⟩ := (DR4.store4 (.slice B1 n1 d1) (.slice B2 n2 d2) (.slice B3 n3 d3) (.slice B4 n4 d4)).four
    simp only [results, Tryz.results21]
    go_simp
  · refine (kept_bad A n c RA rn rc PA pn pc HA hn hc X.told X.er hz _).mono ?_
    rintro e w4 ⟨hb4, rfl⟩
    have hb04 := below_step hb03 hb4
    have DR4 := DR3.below hb4 DR3.lt
    have HZ := Lib.hid hz
    clear s0 s1 s2 s3 hz
    obtain ⟨r0, r1, r2, r3⟩ := DR4.four
    obtain ⟨f0, f1, f2, f3⟩ := DR4.four_frozen
    go_wp2_with fail
    refine bodyPost_ret (v := .tuple #[.agg #[.slice none 0 0, .slice none 0 0, .slice none 0 0, .slice none 0 0], .int .u64 0, .int .i64 X.er]) ?_ rfl ⟨below_block4 hb04 (by omega) _ _ _ _, .inr ⟨HZ.out, rfl⟩⟩
    obtain ⟨z0, z1, z2, z3⟩ := (DR4.store4 (.slice none 0 0) (.slice none 0 0) (.slice none 0 0) (.slice none 0 0)).four
    simp only [results, Tryz.results21]
    go_simp
set_option maxRecDepth 100000 in
set_option maxHeartbeats 4000000 in
theorem do_peek (A : Option Addr) (n c : Nat) (RA : Option Addr) (rn rc : Nat) (PA : Option Addr) (pn pc : Nat) (HA : Option Addr) (hn hc : Nat) (S : St) (a b cc v : Int) (w : World) (hR : StR w w.heap.size A n RA rn PA pn HA hn S) (hK : StK n c rn pn hn S) (hT : FTab w) (hrt : rightB ⟨9, a, b, cc, v⟩ = true) :
    Calls Tryz.prog 21 #[.agg #[.slice A n c, .slice RA rn rc, .slice PA pn pc, .slice HA hn hc], .agg #[.int .i64 9, .int .i64 a, .int .i64 b, .int .i64 cc, .int .u64 v]] w (DoPost w (peekO S a b)) := by
  have HX := Lib.hid (fun w hR => peek_out A n c RA rn rc PA pn pc HA hn hc S a b w hR hK)
  have HT0 : Hid ((peekO S a b).er = 0 → StOk S) := by
    show _ → _
    exact peek_right S a b
  generalize peekO S a b = X at *
  have HRt := Lib.hid (fun w hT => right_any 9 a b cc v w hT)
  rw [hrt] at HRt
  have HT := Lib.hid hT
  have hb0 := below_new w (.cells #[.slice A n c, .slice RA rn rc, .slice PA pn pc, .slice HA hn hc] 28)
  have hb00 := hb0.alloc hb0.size (.cells #[.int .i64 9, .int .i64 a, .int .i64 b, .int .i64 cc, .int .u64 v] 52)
  have hb1 := hb00.alloc hb00.size (.cells #[.slice none 0 0, .slice none 0 0, .slice none 0 0, .slice none 0 0] 28)
  have DS := ((Blk.new w 28 #[.slice A n c, .slice RA rn rc, .slice PA pn pc, .slice HA hn hc]).alloc (.cells #[.int .i64 9, .int .i64 a, .int .i64 b, .int .i64 cc, .int .u64 v] 52)).alloc (.cells #[.slice none 0 0, .slice none 0 0, .slice none 0 0, .slice none 0 0] 28)
  have DO := (Blk.new (w.alloc (.cells #[.slice A n c, .slice RA rn rc, .slice PA pn pc, .slice HA hn hc] 28)) 52 #[.int .i64 9, .int .i64 a, .int .i64 b, .int .i64 cc, .int .u64 v]).alloc (.cells #[.slice none 0 0, .slice none 0 0, .slice none 0 0, .slice none 0 0] 28)
  have DR := Blk.new ((w.alloc (.cells #[.slice A n c, .slice RA rn rc, .slice PA pn pc, .slice HA hn hc] 28)).alloc (.cells #[.int .i64 9, .int .i64 a, .int .i64 b, .int .i64 cc, .int .u64 v] 52)) 28 #[.slice none 0 0, .slice none 0 0, .slice none 0 0, .slice none 0 0]
  simp only [World.size_alloc] at DO DR
  obtain ⟨m0, m1, m2, m3, m4⟩ := DO.five
  clear hrt hT hb0 hb00
  go_enter Tryz.func21, Tryz.ntmps21
  go_wp2_with fail
  refine (HRt.out _ (HT.out.below hb1)).mono ?_
  rintro e w2 ⟨hb2, rfl⟩
  have hb02 := below_step hb1 hb2
  have DS2 := DS.below hb2 DS.lt
  have DO2 := DO.below hb2 DO.lt
  have DR2 := DR.below hb2 DR.lt
  clear m0 m1 m2 m3 m4 DS DO DR hb1 hb2 HRt
  obtain ⟨s0, s1, s2, s3⟩ := DS2.four
  obtain ⟨m0, m1, m2, m3, m4⟩ := DO2.five
  go_wp2_with fail
  refine (HX.out _ ((hR.below hb02).more hb02.size)).mono ?_
  rintro e w3 ⟨hb3, rfl, hst⟩
  have hb03 := below_step hb02 hb3
  have DS3 := DS2.below hb3 DS2.lt
  have DR3 := DR2.below hb3 DR2.lt
  have hlt : w.heap.size + 2 < w2.heap.size := DR2.lt
  clear s0 s1 s2 s3 m0 m1 m2 m3 m4 HX DS2 DO2
  obtain ⟨s0, s1, s2, s3⟩ := DS3.four
  go_wp2_with fail
  by_cases hz : X.er = 0
  · rw [hz]
    refine (kept_ok A n c RA rn rc PA pn pc HA hn hc S X.told _ ((hR.below hb03).more hb03.size) hK (HT0.out hz)).mono ?_
    rintro e w4 ⟨hb4, B1, n1, d1, B2, n2, d2, B3, n3, d3, B4, n4, d4, rfl, hO⟩
    have hb04 := below_step hb03 hb4
    have DR4 := DR3.below hb4 DR3.lt
    have hO4 := hO.mono hb03.size
    obtain ⟨T, hTl⟩ : ∃ T, T = X.told := ⟨_, rfl⟩
    rw [← hTl]
    have HTl := Lib.hid hTl
    clear s0 s1 s2 s3 hTl
    obtain ⟨r0, r1, r2, r3⟩ := DR4.four
    obtain ⟨f0, f1, f2, f3⟩ := DR4.four_frozen
    go_wp2_with fail
    refine bodyPost_ret (v := .tuple #[.agg #[.slice B1 n1 d1, .slice B2 n2 d2, .slice B3 n3 d3, .slice B4 n4 d4], .int .u64 T, .int .i64 0]) ?_ rfl ⟨below_block4 hb04 (by omega) _ _ _ _, .inl ⟨hz, B1, n1, d1, B2, n2, d2, B3, n3, d3, B4, n4, d4, by rw [HTl.out], by rw [hst]; exact hO4.store DR4 _ _ _ _⟩⟩
    obtain ⟨z0, z1, z2, z3⟩ := (DR4.store4 (.slice B1 n1 d1) (.slice B2 n2 d2) (.slice B3 n3 d3) (.slice B4 n4 d4)).four
    simp only [results, Tryz.results21]
    go_simp
  · refine (kept_bad A n c RA rn rc PA pn pc HA hn hc X.told X.er hz _).mono ?_
    rintro e w4 ⟨hb4, rfl⟩
    have hb04 := below_step hb03 hb4
    have DR4 := DR3.below hb4 DR3.lt
    have HZ := Lib.hid hz
    clear s0 s1 s2 s3 hz
    obtain ⟨r0, r1, r2, r3⟩ := DR4.four
    obtain ⟨f0, f1, f2, f3⟩ := DR4.four_frozen
    go_wp2_with fail
    refine bodyPost_ret (v := .tuple #[.agg #[.slice none 0 0, .slice none 0 0, .slice none 0 0, .slice none 0 0], .int .u64 0, .int .i64 X.er]) ?_ rfl ⟨below_block4 hb04 (by omega) _ _ _ _, .inr ⟨HZ.out, rfl⟩⟩
    obtain ⟨z0, z1, z2, z3⟩ := (DR4.store4 (.slice none 0 0) (.slice none 0 0) (.slice none 0 0) (.slice none 0 0)).four
    simp only [results, Tryz.results21]
    go_simp
set_option maxRecDepth 100000 in
set_option maxHeartbeats 4000000 in
theorem do_open (A : Option Addr) (n c : Nat) (RA : Option Addr) (rn rc : Nat) (PA : Option Addr) (pn pc : Nat) (HA : Option Addr) (hn hc : Nat) (S : St) (a b cc v : Int) (w : World) (hR : StR w w.heap.size A n RA rn PA pn HA hn S) (hK : StK n c rn pn hn S) (hT : FTab w) (hrt : rightB ⟨10, a, b, cc, v⟩ = true) :
    Calls Tryz.prog 21 #[.agg #[.slice A n c, .slice RA rn rc, .slice PA pn pc, .slice HA hn hc], .agg #[.int .i64 10, .int .i64 a, .int .i64 b, .int .i64 cc, .int .u64 v]] w (DoPost w (openO S a)) := by
  have HX := Lib.hid (fun w hR => open_out A n c RA rn rc PA pn pc HA hn hc S a w hR hK)
  generalize openO S a = X at *
  have HRt := Lib.hid (fun w hT => right_any 10 a b cc v w hT)
  rw [hrt] at HRt
  have HT := Lib.hid hT
  have hb0 := below_new w (.cells #[.slice A n c, .slice RA rn rc, .slice PA pn pc, .slice HA hn hc] 28)
  have hb00 := hb0.alloc hb0.size (.cells #[.int .i64 10, .int .i64 a, .int .i64 b, .int .i64 cc, .int .u64 v] 52)
  have hb1 := hb00.alloc hb00.size (.cells #[.slice none 0 0, .slice none 0 0, .slice none 0 0, .slice none 0 0] 28)
  have DS := ((Blk.new w 28 #[.slice A n c, .slice RA rn rc, .slice PA pn pc, .slice HA hn hc]).alloc (.cells #[.int .i64 10, .int .i64 a, .int .i64 b, .int .i64 cc, .int .u64 v] 52)).alloc (.cells #[.slice none 0 0, .slice none 0 0, .slice none 0 0, .slice none 0 0] 28)
  have DO := (Blk.new (w.alloc (.cells #[.slice A n c, .slice RA rn rc, .slice PA pn pc, .slice HA hn hc] 28)) 52 #[.int .i64 10, .int .i64 a, .int .i64 b, .int .i64 cc, .int .u64 v]).alloc (.cells #[.slice none 0 0, .slice none 0 0, .slice none 0 0, .slice none 0 0] 28)
  have DR := Blk.new ((w.alloc (.cells #[.slice A n c, .slice RA rn rc, .slice PA pn pc, .slice HA hn hc] 28)).alloc (.cells #[.int .i64 10, .int .i64 a, .int .i64 b, .int .i64 cc, .int .u64 v] 52)) 28 #[.slice none 0 0, .slice none 0 0, .slice none 0 0, .slice none 0 0]
  simp only [World.size_alloc] at DO DR
  obtain ⟨m0, m1, m2, m3, m4⟩ := DO.five
  clear hrt hT hb0 hb00
  go_enter Tryz.func21, Tryz.ntmps21
  go_wp2_with fail
  refine (HRt.out _ (HT.out.below hb1)).mono ?_
  rintro e w2 ⟨hb2, rfl⟩
  have hb02 := below_step hb1 hb2
  have DS2 := DS.below hb2 DS.lt
  have DO2 := DO.below hb2 DO.lt
  have DR2 := DR.below hb2 DR.lt
  clear m0 m1 m2 m3 m4 DS DO DR hb1 hb2 HRt
  obtain ⟨s0, s1, s2, s3⟩ := DS2.four
  obtain ⟨m0, m1, m2, m3, m4⟩ := DO2.five
  go_wp2_with fail
  refine (HX.out _ ((hR.below hb02).more hb02.size)).mono ?_
  rintro e w3 ⟨hb3, ⟨hz, B1, n1, d1, B2, n2, d2, B3, n3, d3, B4, n4, d4, rfl, hO⟩ | ⟨hnz, rfl⟩⟩
  · have hb03 := below_step hb02 hb3
    have DR3 := DR2.below hb3 DR2.lt
    have hlt : w.heap.size + 2 < w2.heap.size := DR2.lt
    have hO4 := hO.mono hb02.size
    obtain ⟨T, hTl⟩ : ∃ T, T = X.told := ⟨_, rfl⟩
    rw [← hTl]
    have HTl := Lib.hid hTl
    clear s0 s1 s2 s3 m0 m1 m2 m3 m4 HX DS2 DO2 hTl
    obtain ⟨r0, r1, r2, r3⟩ := DR3.four
    obtain ⟨f0, f1, f2, f3⟩ := DR3.four_frozen
    go_wp2_with fail
    refine bodyPost_ret (v := .tuple #[.agg #[.slice B1 n1 d1, .slice B2 n2 d2, .slice B3 n3 d3, .slice B4 n4 d4], .int .u64 T, .int .i64 0]) ?_ rfl ⟨below_block4 hb03 (by omega) _ _ _ _, .inl ⟨hz, B1, n1, d1, B2, n2, d2, B3, n3, d3, B4, n4, d4, by rw [HTl.out], hO4.store DR3 _ _ _ _⟩⟩
    obtain ⟨z0, z1, z2, z3⟩ := (DR3.store4 (.slice B1 n1 d1) (.slice B2 n2 d2) (.slice B3 n3 d3) (.slice B4 n4 d4)).four
    simp only [results, Tryz.results21]
    go_simp
  · have hb03 := below_step hb02 hb3
    have DR3 := DR2.below hb3 DR2.lt
    have hlt : w.heap.size + 2 < w2.heap.size := DR2.lt
    clear s0 s1 s2 s3 m0 m1 m2 m3 m4 HX DS2 DO2
    obtain ⟨r0, r1, r2, r3⟩ := DR3.four
    obtain ⟨f0, f1, f2, f3⟩ := DR3.four_frozen
    go_wp2_with fail
    refine bodyPost_ret (v := .tuple #[.agg #[.slice none 0 0, .slice none 0 0, .slice none 0 0, .slice none 0 0], .int .u64 0, .int .i64 X.er]) ?_ rfl ⟨below_block4 hb03 (by omega) _ _ _ _, .inr ⟨hnz, rfl⟩⟩
    obtain ⟨z0, z1, z2, z3⟩ := (DR3.store4 (.slice none 0 0) (.slice none 0 0) (.slice none 0 0) (.slice none 0 0)).four
    simp only [results, Tryz.results21]
    go_simp
set_option maxRecDepth 100000 in
set_option maxHeartbeats 4000000 in
theorem do_make (A : Option Addr) (n c : Nat) (RA : Option Addr) (rn rc : Nat) (PA : Option Addr) (pn pc : Nat) (HA : Option Addr) (hn hc : Nat) (S : St) (a b cc : Int) (V : Nat) (w : World) (hR : StR w w.heap.size A n RA rn PA pn HA hn S) (hK : StK n c rn pn hn S) (hT : FTab w) (hrt : rightB ⟨1, a, b, cc, V⟩ = true) :
    Calls Tryz.prog 21 #[.agg #[.slice A n c, .slice RA rn rc, .slice PA pn pc, .slice HA hn hc], .agg #[.int .i64 1, .int .i64 a, .int .i64 b, .int .i64 cc, .int .u64 V]] w (DoPost w (makeO S a b cc ((V : Int) % 65536))) := by
  have hw : IntKind.i64.wrap ((V : Int) % 65536) = (V : Int) % 65536 := IntWalk.i64_in _ (by omega)
  have HX := Lib.hid (fun w hR => make_out A n c RA rn rc PA pn pc HA hn hc S a b cc ((V : Int) % 65536) w hR hK)
  have HT0 := Lib.hid (make_told S a b cc ((V : Int) % 65536))
  generalize makeO S a b cc ((V : Int) % 65536) = X at *
  have HRt := Lib.hid (fun w hT => right_any 1 a b cc V w hT)
  rw [hrt] at HRt
  have HT := Lib.hid hT
  have hb0 := below_new w (.cells #[.slice A n c, .slice RA rn rc, .slice PA pn pc, .slice HA hn hc] 28)
  have hb00 := hb0.alloc hb0.size (.cells #[.int .i64 1, .int .i64 a, .int .i64 b, .int .i64 cc, .int .u64 V] 52)
  have hb1 := hb00.alloc hb00.size (.cells #[.slice none 0 0, .slice none 0 0, .slice none 0 0, .slice none 0 0] 28)
  have DS := ((Blk.new w 28 #[.slice A n c, .slice RA rn rc, .slice PA pn pc, .slice HA hn hc]).alloc (.cells #[.int .i64 1, .int .i64 a, .int .i64 b, .int .i64 cc, .int .u64 V] 52)).alloc (.cells #[.slice none 0 0, .slice none 0 0, .slice none 0 0, .slice none 0 0] 28)
  have DO := (Blk.new (w.alloc (.cells #[.slice A n c, .slice RA rn rc, .slice PA pn pc, .slice HA hn hc] 28)) 52 #[.int .i64 1, .int .i64 a, .int .i64 b, .int .i64 cc, .int .u64 V]).alloc (.cells #[.slice none 0 0, .slice none 0 0, .slice none 0 0, .slice none 0 0] 28)
  have DR := Blk.new ((w.alloc (.cells #[.slice A n c, .slice RA rn rc, .slice PA pn pc, .slice HA hn hc] 28)).alloc (.cells #[.int .i64 1, .int .i64 a, .int .i64 b, .int .i64 cc, .int .u64 V] 52)) 28 #[.slice none 0 0, .slice none 0 0, .slice none 0 0, .slice none 0 0]
  simp only [World.size_alloc] at DO DR
  obtain ⟨m0, m1, m2, m3, m4⟩ := DO.five
  clear hrt hT hb0 hb00
  go_enter Tryz.func21, Tryz.ntmps21
  go_wp2_with fail
  refine (HRt.out _ (HT.out.below hb1)).mono ?_
  rintro e w2 ⟨hb2, rfl⟩
  have hb02 := below_step hb1 hb2
  have DS2 := DS.below hb2 DS.lt
  have DO2 := DO.below hb2 DO.lt
  have DR2 := DR.below hb2 DR.lt
  clear m0 m1 m2 m3 m4 DS DO DR hb1 hb2 HRt
  obtain ⟨s0, s1, s2, s3⟩ := DS2.four
  obtain ⟨m0, m1, m2, m3, m4⟩ := DO2.five
  go_wp2_with fail
  refine (HX.out _ ((hR.below hb02).more hb02.size)).mono ?_
  rintro e w3 ⟨hb3, ⟨hz, B1, n1, d1, B2, n2, d2, B3, n3, d3, B4, n4, d4, rfl, hO⟩ | ⟨hnz, rfl⟩⟩
  · have hb03 := below_step hb02 hb3
    have hbn := below_new w3 (.cells #[.slice B1 n1 d1, .slice B2 n2 d2, .slice B3 n3 d3, .slice B4 n4 d4] 28)
    have hb04 := hb03.alloc hb03.size (.cells #[.slice B1 n1 d1, .slice B2 n2 d2, .slice B3 n3 d3, .slice B4 n4 d4] 28)
    have DR3 := (DR2.below hb3 DR2.lt).alloc (.cells #[.slice B1 n1 d1, .slice B2 n2 d2, .slice B3 n3 d3, .slice B4 n4 d4] 28)
    have DM := Blk.new w3 28 #[.slice B1 n1 d1, .slice B2 n2 d2, .slice B3 n3 d3, .slice B4 n4 d4]
    have hlt : w.heap.size + 2 < w2.heap.size := DR2.lt
    have hO4 := (hO.below hbn).mono hb02.size
    clear s0 s1 s2 s3 m0 m1 m2 m3 m4 HX DS2 DO2
    obtain ⟨o0, o1, o2, o3⟩ := DM.four
    by_cases ht : X.told = 1
    · have g1 : decide (X.told = 1) = true := decide_eq_true ht
      have HTl := Lib.hid ht
      rw [g1]
      clear ht
      obtain ⟨r0, r1, r2, r3⟩ := DR3.four
      obtain ⟨f0, f1, f2, f3⟩ := DR3.four_frozen
      go_wp2_with fail
      refine bodyPost_ret (v := .tuple #[.agg #[.slice B1 n1 d1, .slice B2 n2 d2, .slice B3 n3 d3, .slice B4 n4 d4], .int .u64 1, .int .i64 0]) ?_ rfl ⟨below_block4 hb04 (by omega) _ _ _ _, .inl ⟨hz, B1, n1, d1, B2, n2, d2, B3, n3, d3, B4, n4, d4, by rw [HTl.out], hO4.store DR3 _ _ _ _⟩⟩
      obtain ⟨z0, z1, z2, z3⟩ := (DR3.store4 (.slice B1 n1 d1) (.slice B2 n2 d2) (.slice B3 n3 d3) (.slice B4 n4 d4)).four
      simp only [results, Tryz.results21]
      go_simp
    · have g1 : decide (X.told = 1) = false := decide_eq_false ht
      have HTl : Hid (X.told = 0) := (HT0.out).resolve_right ht
      rw [g1]
      clear ht
      obtain ⟨r0, r1, r2, r3⟩ := DR3.four
      obtain ⟨f0, f1, f2, f3⟩ := DR3.four_frozen
      go_wp2_with fail
      refine bodyPost_ret (v := .tuple #[.agg #[.slice B1 n1 d1, .slice B2 n2 d2, .slice B3 n3 d3, .slice B4 n4 d4], .int .u64 0, .int .i64 0]) ?_ rfl ⟨below_block4 hb04 (by omega) _ _ _ _, .inl ⟨hz, B1, n1, d1, B2, n2, d2, B3, n3, d3, B4, n4, d4, by rw [HTl.out], hO4.store DR3 _ _ _ _⟩⟩
      obtain ⟨z0, z1, z2, z3⟩ := (DR3.store4 (.slice B1 n1 d1) (.slice B2 n2 d2) (.slice B3 n3 d3) (.slice B4 n4 d4)).four
      simp only [results, Tryz.results21]
      go_simp
  · have hb03 := below_step hb02 hb3
    have hb04 := hb03.alloc hb03.size (.cells #[.slice none 0 0, .slice none 0 0, .slice none 0 0, .slice none 0 0] 28)
    have DR3 := (DR2.below hb3 DR2.lt).alloc (.cells #[.slice none 0 0, .slice none 0 0, .slice none 0 0, .slice none 0 0] 28)
    have DM := Blk.new w3 28 #[.slice none 0 0, .slice none 0 0, .slice none 0 0, .slice none 0 0]
    have hlt : w.heap.size + 2 < w2.heap.size := DR2.lt
    clear s0 s1 s2 s3 m0 m1 m2 m3 m4 HX DS2 DO2
    obtain ⟨o0, o1, o2, o3⟩ := DM.four
    obtain ⟨r0, r1, r2, r3⟩ := DR3.four
    obtain ⟨f0, f1, f2, f3⟩ := DR3.four_frozen
    go_wp2_with fail
    refine bodyPost_ret (v := .tuple #[.agg #[.slice none 0 0, .slice none 0 0, .slice none 0 0, .slice none 0 0], .int .u64 0, .int .i64 X.er]) ?_ rfl ⟨below_block4 hb04 (by omega) _ _ _ _, .inr ⟨hnz, rfl⟩⟩
    obtain ⟨z0, z1, z2, z3⟩ := (DR3.store4 (.slice none 0 0) (.slice none 0 0) (.slice none 0 0) (.slice none 0 0)).four
    simp only [results, Tryz.results21]
    go_simp
set_option maxRecDepth 100000 in
set_option maxHeartbeats 1000000 in
theorem do_wrong (A : Option Addr) (n c : Nat) (RA : Option Addr) (rn rc : Nat) (PA : Option Addr) (pn pc : Nat) (HA : Option Addr) (hn hc : Nat) (S : St) (k a b cc v : Int) (w : World) (_ : StR w w.heap.size A n RA rn PA pn HA hn S) (_ : StK n c rn pn hn S) (hT : FTab w) (hrt : rightB ⟨k, a, b, cc, v⟩ = false) :
    Calls Tryz.prog 21 #[.agg #[.slice A n c, .slice RA rn rc, .slice PA pn pc, .slice HA hn hc], .agg #[.int .i64 k, .int .i64 a, .int .i64 b, .int .i64 cc, .int .u64 v]] w (DoPost w ⟨S, 0, 1⟩) := by
  have HRt := Lib.hid (fun w hT => right_any k a b cc v w hT)
  rw [hrt] at HRt
  have HT := Lib.hid hT
  have hb0 := below_new w (.cells #[.slice A n c, .slice RA rn rc, .slice PA pn pc, .slice HA hn hc] 28)
  have hb00 := hb0.alloc hb0.size (.cells #[.int .i64 k, .int .i64 a, .int .i64 b, .int .i64 cc, .int .u64 v] 52)
  have hb1 := hb00.alloc hb00.size (.cells #[.slice none 0 0, .slice none 0 0, .slice none 0 0, .slice none 0 0] 28)
  have DS := ((Blk.new w 28 #[.slice A n c, .slice RA rn rc, .slice PA pn pc, .slice HA hn hc]).alloc (.cells #[.int .i64 k, .int .i64 a, .int .i64 b, .int .i64 cc, .int .u64 v] 52)).alloc (.cells #[.slice none 0 0, .slice none 0 0, .slice none 0 0, .slice none 0 0] 28)
  have DO := (Blk.new (w.alloc (.cells #[.slice A n c, .slice RA rn rc, .slice PA pn pc, .slice HA hn hc] 28)) 52 #[.int .i64 k, .int .i64 a, .int .i64 b, .int .i64 cc, .int .u64 v]).alloc (.cells #[.slice none 0 0, .slice none 0 0, .slice none 0 0, .slice none 0 0] 28)
  have DR := Blk.new ((w.alloc (.cells #[.slice A n c, .slice RA rn rc, .slice PA pn pc, .slice HA hn hc] 28)).alloc (.cells #[.int .i64 k, .int .i64 a, .int .i64 b, .int .i64 cc, .int .u64 v] 52)) 28 #[.slice none 0 0, .slice none 0 0, .slice none 0 0, .slice none 0 0]
  simp only [World.size_alloc] at DO DR
  obtain ⟨m0, m1, m2, m3, m4⟩ := DO.five
  clear hrt hT hb0 hb00
  go_enter Tryz.func21, Tryz.ntmps21
  go_wp2_with fail
  refine (HRt.out _ (HT.out.below hb1)).mono ?_
  rintro e w2 ⟨hb2, rfl⟩
  have hb02 := below_step hb1 hb2
  have DS2 := DS.below hb2 DS.lt
  have DO2 := DO.below hb2 DO.lt
  have DR2 := DR.below hb2 DR.lt
  clear m0 m1 m2 m3 m4 DS DO DR hb1 hb2 HRt
  obtain ⟨s0, s1, s2, s3⟩ := DS2.four
  obtain ⟨m0, m1, m2, m3, m4⟩ := DO2.five
  have hlt : w.heap.size + 2 < w2.heap.size := DR2.lt
  obtain ⟨r0, r1, r2, r3⟩ := DR2.four
  obtain ⟨f0, f1, f2, f3⟩ := DR2.four_frozen
  go_wp2_with fail
  refine bodyPost_ret (v := .tuple #[.agg #[.slice none 0 0, .slice none 0 0, .slice none 0 0, .slice none 0 0], .int .u64 0, .int .i64 1]) ?_ rfl ⟨below_block4 hb02 (by omega) _ _ _ _, .inr ⟨(show ¬ (1 : Int) = 0 by decide), rfl⟩⟩
  obtain ⟨z0, z1, z2, z3⟩ := (DR2.store4 (.slice none 0 0) (.slice none 0 0) (.slice none 0 0) (.slice none 0 0)).four
  simp only [results, Tryz.results21]
  go_simp
theorem do_any (A : Option Addr) (n c : Nat) (RA : Option Addr) (rn rc : Nat) (PA : Option Addr) (pn pc : Nat) (HA : Option Addr) (hn hc : Nat) (S : St) (o : OpV) (w : World) (hR : StR w w.heap.size A n RA rn PA pn HA hn S) (hK : StK n c rn pn hn S) (hT : FTab w) (v0 : 0 ≤ o.v) (v1 : o.v < 18446744073709551616) :
    Calls Tryz.prog 21 #[.agg #[.slice A n c, .slice RA rn rc, .slice PA pn pc, .slice HA hn hc], .agg #[.int .i64 o.kind, .int .i64 o.a, .int .i64 o.b, .int .i64 o.c, .int .u64 o.v]] w (DoPost w (doO S o)) := by
  obtain ⟨k, a, b, cc, v⟩ := o
  unfold doO
  by_cases hrt : rightB ⟨k, a, b, cc, v⟩ = false
  · rw [if_pos hrt]
    exact do_wrong A n c RA rn rc PA pn pc HA hn hc S k a b cc v w hR hK hT hrt
  · rw [if_neg hrt]
    have hrt : rightB ⟨k, a, b, cc, v⟩ = true := by simpa using hrt
    have hk : 1 ≤ k ∧ k ≤ 13 := by
      unfold rightB at hrt
      simp only [Bool.and_eq_true, decide_eq_true_eq] at hrt
      exact hrt.1
    simp only at v0 v1 ⊢
    obtain ⟨V, rfl⟩ := Int.eq_ofNat_of_zero_le v0
    have h13 : k = 1 ∨ k = 2 ∨ k = 3 ∨ k = 4 ∨ k = 5 ∨ k = 6 ∨ k = 7 ∨ k = 8 ∨ k = 9 ∨ k = 10 ∨ k = 11 ∨ k = 12 ∨ k = 13 := by omega
    rcases h13 with rfl | rfl | rfl | rfl | rfl | rfl | rfl | rfl | rfl | rfl | rfl | rfl | rfl
    · rw [if_pos (by decide)]; exact do_make A n c RA rn rc PA pn pc HA hn hc S a b cc V w hR hK hT hrt
    · rw [if_neg (by decide), if_pos (by decide)]; exact do_coll A n c RA rn rc PA pn pc HA hn hc S a b cc V w hR hK hT hrt
    · rw [if_neg (by decide), if_neg (by decide), if_pos (by decide)]; exact do_ref A n c RA rn rc PA pn pc HA hn hc S a b cc V w hR hK hT hrt
    · rw [if_neg (by decide), if_neg (by decide), if_neg (by decide), if_pos (by decide)]; exact do_set A n c RA rn rc PA pn pc HA hn hc S a b cc V w hR hK hT hrt
    · rw [if_neg (by decide), if_neg (by decide), if_neg (by decide), if_neg (by decide), if_pos (by decide)]; exact do_get A n c RA rn rc PA pn pc HA hn hc S a b cc V w hR hK hT hrt
    · rw [if_neg (by decide), if_neg (by decide), if_neg (by decide), if_neg (by decide), if_neg (by decide), if_pos (by decide)]; exact do_put A n c RA rn rc PA pn pc HA hn hc S a b cc V w hR hK hT hrt
    · rw [if_neg (by decide), if_neg (by decide), if_neg (by decide), if_neg (by decide), if_neg (by decide), if_neg (by decide), if_pos (by decide)]; exact do_pin A n c RA rn rc PA pn pc HA hn hc S a b cc V w hR hK hT hrt
    · rw [if_neg (by decide), if_neg (by decide), if_neg (by decide), if_neg (by decide), if_neg (by decide), if_neg (by decide), if_neg (by decide), if_pos (by decide)]; exact do_unpin A n c RA rn rc PA pn pc HA hn hc S a b cc V w hR hK hT hrt
    · rw [if_neg (by decide), if_neg (by decide), if_neg (by decide), if_neg (by decide), if_neg (by decide), if_neg (by decide), if_neg (by decide), if_neg (by decide), if_pos (by decide)]; exact do_peek A n c RA rn rc PA pn pc HA hn hc S a b cc V w hR hK hT hrt
    · rw [if_neg (by decide), if_neg (by decide), if_neg (by decide), if_neg (by decide), if_neg (by decide), if_neg (by decide), if_neg (by decide), if_neg (by decide), if_neg (by decide), if_pos (by decide)]; exact do_open A n c RA rn rc PA pn pc HA hn hc S a b cc V w hR hK hT hrt
    · rw [if_neg (by decide), if_neg (by decide), if_neg (by decide), if_neg (by decide), if_neg (by decide), if_neg (by decide), if_neg (by decide), if_neg (by decide), if_neg (by decide), if_neg (by decide), if_pos (by decide)]; exact do_use A n c RA rn rc PA pn pc HA hn hc S a b cc V v0 v1 w hR hK hT hrt
    · rw [if_neg (by decide), if_neg (by decide), if_neg (by decide), if_neg (by decide), if_neg (by decide), if_neg (by decide), if_neg (by decide), if_neg (by decide), if_neg (by decide), if_neg (by decide), if_neg (by decide), if_pos (by decide)]; exact do_shut A n c RA rn rc PA pn pc HA hn hc S a b cc V v0 v1 w hR hK hT hrt
    · rw [if_neg (by decide), if_neg (by decide), if_neg (by decide), if_neg (by decide), if_neg (by decide), if_neg (by decide), if_neg (by decide), if_neg (by decide), if_neg (by decide), if_neg (by decide), if_neg (by decide), if_neg (by decide)]; exact do_drop A n c RA rn rc PA pn pc HA hn hc S a b cc V w hR hK hT hrt
end Go.Proofs.YtbmkbnalembbjaaGreatDoor
