/-
  Texts joined: StPut.
-/
import Derived.Test.YtjdpcmmmdaffdaaG11
/-
  package store: Get, Put, Set, Ref.
-/
namespace Go.Proofs.Ytjdpcmmmdaffdaa
open Go.RowKit

set_option maxRecDepth 100000 in
set_option maxHeartbeats 4000000 in
theorem get_ok (A : Option Addr) (n c : Nat) (RA : Option Addr) (rn rc : Nat) (PA : Option Addr) (pn pc : Nat) (HA : Option Addr) (hn hc : Nat) (S : St) (k X K v : Nat) (s : Spot) (i : Nat) (w : World) (hR : StR w w.heap.size A n RA rn PA pn HA hn S) (hK : StK n c rn pn hn S) (hOK : StOk S) (hx : S.r[k]? = some (X : Int)) (hO : ObjAt S X s i) (hk : (K : Int) < s.b) (hv : S.a[X + 1 + s.r.toNat + K]? = some (v : Int)) :
    Calls Try.prog 9 #[.agg #[.slice A n c, .slice RA rn rc, .slice PA pn pc, .slice HA hn hc], .int .i64 k, .int .i64 K] w fun e w' => Below w.heap.size w w' ∧ e = .returned (.tuple #[.int .u64 v, .int .i64 0]) := by
  obtain ⟨z1, z2, z3, z4⟩ := hR.lens
  have HB := Lib.hid (fun w hR => body_ok A n c RA rn rc PA pn pc HA hn hc S k X K s i w hR hK hOK hx hO hk)
  generalize X + 1 + s.r.toNat + K = p at *
  have hpn : p < n := by have := (List.getElem?_eq_some_iff.1 hv).1; omega
  have HV := Lib.hid hv
  clear hv hO hOK hx hk z1 z2 z3 z4
  have hb1 := below_new w (.cells #[.slice A n c, .slice RA rn rc, .slice PA pn pc, .slice HA hn hc] 28)
  have DS := Blk.new w 28 #[.slice A n c, .slice RA rn rc, .slice PA pn pc, .slice HA hn hc]
  obtain ⟨s0, s1, s2, s3⟩ := DS.four
  go_enter Try.func9, Try.ntmps9
  go_wp2_with fail
  refine (HB.out _ ((hR.below hb1).more hb1.size)).mono ?_
  rintro e w2 ⟨hb2, rfl⟩
  have hb02 := below_step hb1 hb2
  have DS2 := DS.below hb2 DS.lt
  clear s0 s1 s2 s3
  obtain ⟨s0, s1, s2, s3⟩ := DS2.four
  obtain ⟨ad, u, rfl, had, hu, cu⟩ := (hR.a.below hb02).num hpn
  obtain rfl : u = v := Option.some.inj (hu.symm.trans HV.out)
  clear hu
  go_wp2_with fail
  go_ret2
  exact ⟨hb02, rfl⟩

set_option maxRecDepth 100000 in
set_option maxHeartbeats 4000000 in
theorem get_bad (A : Option Addr) (n c : Nat) (RA : Option Addr) (rn rc : Nat) (PA : Option Addr) (pn pc : Nat) (HA : Option Addr) (hn hc : Nat) (S : St) (slot k : Int) (w : World) (hR : StR w w.heap.size A n RA rn PA pn HA hn S) (hK : StK n c rn pn hn S) (hE : bodyE S slot k ≠ 0) :
    Calls Try.prog 9 #[.agg #[.slice A n c, .slice RA rn rc, .slice PA pn pc, .slice HA hn hc], .int .i64 slot, .int .i64 k] w fun e w' => Below w.heap.size w w' ∧ e = .returned (.tuple #[.int .u64 0, .int .i64 (bodyE S slot k)]) := by
  have HB := Lib.hid (fun w hR => body_bad A n c RA rn rc PA pn pc HA hn hc S slot k w hR hK hE)
  have g1 : (bodyE S slot k != 0) = true := by simpa using hE
  generalize bodyE S slot k = F at *
  have hb1 := below_new w (.cells #[.slice A n c, .slice RA rn rc, .slice PA pn pc, .slice HA hn hc] 28)
  have DS := Blk.new w 28 #[.slice A n c, .slice RA rn rc, .slice PA pn pc, .slice HA hn hc]
  obtain ⟨s0, s1, s2, s3⟩ := DS.four
  go_enter Try.func9, Try.ntmps9
  go_wp2_with fail
  refine (HB.out _ ((hR.below hb1).more hb1.size)).mono ?_
  rintro e w2 ⟨hb2, rfl⟩
  have hb02 := below_step hb1 hb2
  clear s0 s1 s2 s3
  go_wp2_with fail
  go_ret2
  exact ⟨hb02, rfl⟩

set_option maxRecDepth 100000 in
set_option maxHeartbeats 4000000 in
theorem put_ok (A : Option Addr) (n c : Nat) (RA : Option Addr) (rn rc : Nat) (PA : Option Addr) (pn pc : Nat) (HA : Option Addr) (hn hc : Nat) (S : St) (k X K : Nat) (v : Int) (s : Spot) (i : Nat) (w : World) (hR : StR w w.heap.size A n RA rn PA pn HA hn S) (hK : StK n c rn pn hn S) (hOK : StOk S) (hx : S.r[k]? = some (X : Int)) (hO : ObjAt S X s i) (hk : (K : Int) < s.b) :
    Calls Try.prog 8 #[.agg #[.slice A n c, .slice RA rn rc, .slice PA pn pc, .slice HA hn hc], .int .i64 k, .int .i64 K, .int .u64 v] w fun e w' => Below w.heap.size w w' ∧ ∃ (A1 : Option Addr) (c1 : Nat) (A2 : Option Addr) (c2 : Nat) (A3 : Option Addr) (c3 : Nat) (A4 : Option Addr) (c4 : Nat), e = .returned (.tuple #[.agg #[.slice A1 n c1, .slice A2 rn c2, .slice A3 pn c3, .slice A4 hn c4], .int .i64 0]) ∧ StO w' w.heap.size A1 n c1 A2 rn c2 A3 pn c3 A4 hn c4 ⟨S.a.set (X + 1 + s.r.toNat + K) v, S.r, S.p, S.l⟩ := by
  obtain ⟨z1, z2, z3, z4⟩ := hR.lens
  have HCp := Lib.hid (fun w hR => copied_any A n c RA rn rc PA pn pc HA hn hc S w hR (by have := (parse_ok (checkE_ok.1 hOK.arena).1).1; omega) (by have := (rootE_ok hOK.roots).2.2.1; omega) (by have := hOK.pins.len; omega) (by have := (handE_ok.1 hOK.hands).1; omega))
  have HB := Lib.hid (fun w hR => body_ok A n c RA rn rc PA pn pc HA hn hc S k X K s i w hR hK hOK hx hO hk)
  have hfit := hO.ok.fits
  have hr0 := hO.ok.r0
  have hb0 := hO.ok.b0
  rw [hO.loc] at hfit
  unfold Spot.long at hfit
  have hpn : X + 1 + s.r.toNat + K < n := by omega
  generalize X + 1 + s.r.toNat + K = p at *
  clear hO hOK hx hk z1 z2 z3 z4 hfit hr0 hb0
  have hb0 := below_new w (.cells #[.slice A n c, .slice RA rn rc, .slice PA pn pc, .slice HA hn hc] 28)
  have hb1 := hb0.alloc hb0.size (.cells #[.slice none 0 0, .slice none 0 0, .slice none 0 0, .slice none 0 0] 28)
  have DS := (Blk.new w 28 #[.slice A n c, .slice RA rn rc, .slice PA pn pc, .slice HA hn hc]).alloc (.cells #[.slice none 0 0, .slice none 0 0, .slice none 0 0, .slice none 0 0] 28)
  have DR := Blk.new (w.alloc (.cells #[.slice A n c, .slice RA rn rc, .slice PA pn pc, .slice HA hn hc] 28)) 28 #[.slice none 0 0, .slice none 0 0, .slice none 0 0, .slice none 0 0]
  rw [World.size_alloc] at DR
  obtain ⟨s0, s1, s2, s3⟩ := DS.four
  clear hb0
  go_enter Try.func8, Try.ntmps8
  go_wp2_with fail
  refine (HB.out _ ((hR.below hb1).more hb1.size)).mono ?_
  rintro e w2 ⟨hb2, rfl⟩
  have hb02 := below_step hb1 hb2
  have DS2 := DS.below hb2 DS.lt
  have DR2 := DR.below hb2 DR.lt
  have hlt : w.heap.size + 1 < w2.heap.size := DR2.lt
  clear s0 s1 s2 s3 hb1 hb2 DS DR
  obtain ⟨s0, s1, s2, s3⟩ := DS2.four
  go_wp2_with fail
  refine (HCp.out _ ((hR.below hb02).more hb02.size)).mono ?_
  rintro e w3 ⟨hb3, A1, c1, A2, c2, A3, c3, A4, c4, rfl, hO⟩
  have hb03 := below_step hb02 hb3
  have DS3 := DS2.below hb3 DS2.lt
  have DR3 := DR2.below hb3 DR2.lt
  clear s0 s1 s2 s3 hb3
  obtain ⟨s0, s1, s2, s3⟩ := DS3.four
  obtain ⟨f0, f1, f2, f3⟩ := DS3.four_frozen
  have hO4 := hO.store DS3 (.slice A1 n c1) (.slice A2 rn c2) (.slice A3 pn c3) (.slice A4 hn c4)
  have DS4 := DS3.store4 (.slice A1 n c1) (.slice A2 rn c2) (.slice A3 pn c3) (.slice A4 hn c4)
  have DR4 := DR3.far4 (g' := w.heap.size) (by omega) (.slice A1 n c1) (.slice A2 rn c2) (.slice A3 pn c3) (.slice A4 hn c4)
  have hb04 := below_block4 (g := w.heap.size) hb03 (Nat.le_refl _) (.slice A1 n c1) (.slice A2 rn c2) (.slice A3 pn c3) (.slice A4 hn c4)
  obtain ⟨d0, d1, d2, d3⟩ := DS4.four
  obtain ⟨g, rfl, hg, cur, hB⟩ := own_some hO4.a (by omega)
  have e1 : p < (S.a.map (Value.int .u64)).length := by have := hR.lens.1; rw [List.length_map]; omega
  have cc := hO4.a.cellAt p (by omega)
  rw [List.getElem?_eq_getElem e1] at cc
  have ff := hO4.a.frozenAt p
  have hO5 := (hO4.setA (p := p) (v := v) hB).mono hb02.size
  have DS5 := DS4.far (p := ⟨g, p, none⟩) (by dsimp only; omega) (.int .u64 v)
  have DR5 := DR4.far (p := ⟨g, p, none⟩) (by dsimp only; omega) (.int .u64 v)
  have hb05 := hb04.setCell (p := ⟨g, p, none⟩) (by dsimp only; have := hb02.size; omega) (.int .u64 v)
  obtain ⟨o0, o1, o2, o3⟩ := DS5.four
  obtain ⟨r0, r1, r2, r3⟩ := DR5.four
  obtain ⟨h0, h1, h2, h3⟩ := DR5.four_frozen
  clear hO4 hO hB
  go_wp2_with fail
  refine bodyPost_ret (v := .tuple #[.agg #[.slice (some ⟨g, 0, none⟩) n c1, .slice A2 rn c2, .slice A3 pn c3, .slice A4 hn c4], .int .i64 0]) ?_ rfl ⟨(below_block4 hb05 (Nat.le_succ _) _ _ _ _), _, c1, _, c2, A3, c3, A4, c4, rfl, (hO5.store DR5 _ _ _ _)⟩
  obtain ⟨z0, z1, z2, z3⟩ := (DR5.store4 (.slice (some ⟨g, 0, none⟩) n c1) (.slice A2 rn c2) (.slice A3 pn c3) (.slice A4 hn c4)).four
  simp only [results, Try.results8]
  go_simp

set_option maxRecDepth 100000 in
set_option maxHeartbeats 4000000 in
theorem put_bad (A : Option Addr) (n c : Nat) (RA : Option Addr) (rn rc : Nat) (PA : Option Addr) (pn pc : Nat) (HA : Option Addr) (hn hc : Nat) (S : St) (slot k v : Int) (w : World) (hR : StR w w.heap.size A n RA rn PA pn HA hn S) (hK : StK n c rn pn hn S) (hE : bodyE S slot k ≠ 0) :
    Calls Try.prog 8 #[.agg #[.slice A n c, .slice RA rn rc, .slice PA pn pc, .slice HA hn hc], .int .i64 slot, .int .i64 k, .int .u64 v] w fun e w' => Below w.heap.size w w' ∧ e = .returned (.tuple #[.agg #[.slice none 0 0, .slice none 0 0, .slice none 0 0, .slice none 0 0], .int .i64 (bodyE S slot k)]) := by
  have HB := Lib.hid (fun w hR => body_bad A n c RA rn rc PA pn pc HA hn hc S slot k w hR hK hE)
  have g1 : (bodyE S slot k != 0) = true := by simpa using hE
  generalize bodyE S slot k = F at *
  have hb0 := below_new w (.cells #[.slice A n c, .slice RA rn rc, .slice PA pn pc, .slice HA hn hc] 28)
  have hb1 := hb0.alloc hb0.size (.cells #[.slice none 0 0, .slice none 0 0, .slice none 0 0, .slice none 0 0] 28)
  have DS := (Blk.new w 28 #[.slice A n c, .slice RA rn rc, .slice PA pn pc, .slice HA hn hc]).alloc (.cells #[.slice none 0 0, .slice none 0 0, .slice none 0 0, .slice none 0 0] 28)
  have DR := Blk.new (w.alloc (.cells #[.slice A n c, .slice RA rn rc, .slice PA pn pc, .slice HA hn hc] 28)) 28 #[.slice none 0 0, .slice none 0 0, .slice none 0 0, .slice none 0 0]
  rw [World.size_alloc] at DR
  obtain ⟨s0, s1, s2, s3⟩ := DS.four
  clear hb0
  go_enter Try.func8, Try.ntmps8
  go_wp2_with fail
  refine (HB.out _ ((hR.below hb1).more hb1.size)).mono ?_
  rintro e w2 ⟨hb2, rfl⟩
  have hb02 := below_step hb1 hb2
  have DR2 := DR.below hb2 DR.lt
  obtain ⟨r0, r1, r2, r3⟩ := DR2.four
  obtain ⟨f0, f1, f2, f3⟩ := DR2.four_frozen
  clear s0 s1 s2 s3
  go_wp2_with fail
  refine bodyPost_ret (v := .tuple #[.agg #[.slice none 0 0, .slice none 0 0, .slice none 0 0, .slice none 0 0], .int .i64 F]) ?_ rfl ⟨below_block4 hb02 (Nat.le_succ _) _ _ _ _, rfl⟩
  obtain ⟨z0, z1, z2, z3⟩ := (DR2.store4 (.slice none 0 0) (.slice none 0 0) (.slice none 0 0) (.slice none 0 0)).four
  simp only [results, Try.results8]
  go_simp

set_option maxRecDepth 100000 in
set_option maxHeartbeats 4000000 in
theorem setFn_ok (A : Option Addr) (n c : Nat) (RA : Option Addr) (rn rc : Nat) (PA : Option Addr) (pn pc : Nat) (HA : Option Addr) (hn hc : Nat) (S : St) (k X K O : Nat) (y : Int) (s : Spot) (i : Nat) (w : World) (hR : StR w w.heap.size A n RA rn PA pn HA hn S) (hK : StK n c rn pn hn S) (hOK : StOk S) (hx : S.r[k]? = some (X : Int)) (hO : ObjAt S X s i) (hk : (K : Int) < s.r) (hy : S.r[O]? = some y) (hy1 : -1 ≤ y ∧ y ≤ 1000) :
    Calls Try.prog 10 #[.agg #[.slice A n c, .slice RA rn rc, .slice PA pn pc, .slice HA hn hc], .int .i64 k, .int .i64 K, .int .i64 O] w fun e w' => Below w.heap.size w w' ∧ ∃ (A1 : Option Addr) (c1 : Nat) (A2 : Option Addr) (c2 : Nat) (A3 : Option Addr) (c3 : Nat) (A4 : Option Addr) (c4 : Nat), e = .returned (.tuple #[.agg #[.slice A1 n c1, .slice A2 rn c2, .slice A3 pn c3, .slice A4 hn c4], .int .i64 0]) ∧ StO w' w.heap.size A1 n c1 A2 rn c2 A3 pn c3 A4 hn c4 ⟨S.a.set (X + 1 + K) (y + 1), S.r, S.p, S.l⟩ := by
  obtain ⟨z1, z2, z3, z4⟩ := hR.lens
  have HCp := Lib.hid (fun w hR => copied_any A n c RA rn rc PA pn pc HA hn hc S w hR (by have := (parse_ok (checkE_ok.1 hOK.arena).1).1; omega) (by have := (rootE_ok hOK.roots).2.2.1; omega) (by have := hOK.pins.len; omega) (by have := (handE_ok.1 hOK.hands).1; omega))
  have ho : O < S.r.length := (List.getElem?_eq_some_iff.1 hy).1
  have HB := Lib.hid (fun w hR => ref_ok A n c RA rn rc PA pn pc HA hn hc S k X K O s i w hR hK hOK hx hO hk ho)
  have hfit := hO.ok.fits
  have hr0 := hO.ok.r0
  have hb0 := hO.ok.b0
  rw [hO.loc] at hfit
  unfold Spot.long at hfit
  have hpn : X + 1 + K < n := by omega
  have hon : O < rn := by omega
  generalize X + 1 + K = p at *
  obtain ⟨Y, hY⟩ : ∃ Y : Nat, y + 1 = Y := ⟨(y + 1).toNat, by omega⟩
  rw [hY]
  have hw1 : IntKind.i64.wrap (y + 1) = Y := (IntWalk.i64_in _ (by omega)).trans hY
  have hw2 : IntKind.u64.wrap (Y : Int) = Y := IntWalk.u64_in _ (by omega)
  have HY := Lib.hid hy
  clear hO hOK hx hk z1 z2 z3 z4 hfit hr0 hb0 hY hy ho
  have hb0 := below_new w (.cells #[.slice A n c, .slice RA rn rc, .slice PA pn pc, .slice HA hn hc] 28)
  have hb1 := hb0.alloc hb0.size (.cells #[.slice none 0 0, .slice none 0 0, .slice none 0 0, .slice none 0 0] 28)
  have DS := (Blk.new w 28 #[.slice A n c, .slice RA rn rc, .slice PA pn pc, .slice HA hn hc]).alloc (.cells #[.slice none 0 0, .slice none 0 0, .slice none 0 0, .slice none 0 0] 28)
  have DR := Blk.new (w.alloc (.cells #[.slice A n c, .slice RA rn rc, .slice PA pn pc, .slice HA hn hc] 28)) 28 #[.slice none 0 0, .slice none 0 0, .slice none 0 0, .slice none 0 0]
  rw [World.size_alloc] at DR
  obtain ⟨s0, s1, s2, s3⟩ := DS.four
  clear hb0
  go_enter Try.func10, Try.ntmps10
  go_wp2_with fail
  refine (HB.out _ ((hR.below hb1).more hb1.size)).mono ?_
  rintro e w2 ⟨hb2, rfl⟩
  have hb02 := below_step hb1 hb2
  have DS2 := DS.below hb2 DS.lt
  have DR2 := DR.below hb2 DR.lt
  have hlt : w.heap.size + 1 < w2.heap.size := DR2.lt
  clear s0 s1 s2 s3 hb1 hb2 DS DR
  obtain ⟨s0, s1, s2, s3⟩ := DS2.four
  go_wp2_with fail
  refine (HCp.out _ ((hR.below hb02).more hb02.size)).mono ?_
  rintro e w3 ⟨hb3, A1, c1, A2, c2, A3, c3, A4, c4, rfl, hO⟩
  have hb03 := below_step hb02 hb3
  have DS3 := DS2.below hb3 DS2.lt
  have DR3 := DR2.below hb3 DR2.lt
  clear s0 s1 s2 s3 hb3
  obtain ⟨s0, s1, s2, s3⟩ := DS3.four
  obtain ⟨f0, f1, f2, f3⟩ := DS3.four_frozen
  have hO4 := hO.store DS3 (.slice A1 n c1) (.slice A2 rn c2) (.slice A3 pn c3) (.slice A4 hn c4)
  have DS4 := DS3.store4 (.slice A1 n c1) (.slice A2 rn c2) (.slice A3 pn c3) (.slice A4 hn c4)
  have DR4 := DR3.far4 (g' := w.heap.size) (by omega) (.slice A1 n c1) (.slice A2 rn c2) (.slice A3 pn c3) (.slice A4 hn c4)
  have hb04 := below_block4 (g := w.heap.size) hb03 (Nat.le_refl _) (.slice A1 n c1) (.slice A2 rn c2) (.slice A3 pn c3) (.slice A4 hn c4)
  obtain ⟨d0, d1, d2, d3⟩ := DS4.four
  obtain ⟨g, rfl, gh, gc, gB⟩ := own_some hO4.a (by omega)
  have ge : p < (S.a.map (Value.int .u64)).length := by have := hR.lens.1; rw [List.length_map]; omega
  have gcc := hO4.a.cellAt p (by omega)
  rw [List.getElem?_eq_getElem ge] at gcc
  have gf := hO4.a.frozenAt p
  obtain ⟨q, rfl, qh, qc, qB⟩ := own_some hO4.r (by omega)
  have qe : O < (S.r.map (Value.int .i64)).length := by have := hR.lens.2.1; rw [List.length_map]; omega
  have qcc := hO4.r.cellAt O (by omega)
  rw [List.getElem?_eq_getElem qe] at qcc
  have qf := hO4.r.frozenAt O
  have qv : (S.r.map (Value.int .i64))[O] = .int .i64 y := by
    have h1 := HY.out
    obtain ⟨j1, j2⟩ := List.getElem?_eq_some_iff.1 h1
    rw [List.getElem_map, j2]
  rw [qv] at qcc
  have hO5 := (hO4.setA (p := p) (v := Y) gB).mono hb02.size
  have DS5 := DS4.far (p := ⟨g, p, none⟩) (by dsimp only; omega) (.int .u64 Y)
  have DR5 := DR4.far (p := ⟨g, p, none⟩) (by dsimp only; omega) (.int .u64 Y)
  have hb05 := hb04.setCell (p := ⟨g, p, none⟩) (by dsimp only; have := hb02.size; omega) (.int .u64 Y)
  obtain ⟨o0, o1, o2, o3⟩ := DS5.four
  obtain ⟨r0, r1, r2, r3⟩ := DR5.four
  obtain ⟨h0, h1, h2, h3⟩ := DR5.four_frozen
  clear hO4 hO gB qB
  go_wp2_with fail
  go_region
  all_goals
    go_wp2_with fail
    refine bodyPost_ret (v := .tuple #[.agg #[.slice (some ⟨g, 0, none⟩) n c1, .slice (some ⟨q, 0, none⟩) rn c2, .slice A3 pn c3, .slice A4 hn c4], .int .i64 0]) ?_ rfl ⟨(below_block4 hb05 (Nat.le_succ _) _ _ _ _).drew, _, c1, _, c2, A3, c3, A4, c4, rfl, (hO5.store DR5 _ _ _ _).drew⟩
    obtain ⟨z0, z1, z2, z3⟩ := (DR5.store4 (.slice (some ⟨g, 0, none⟩) n c1) (.slice (some ⟨q, 0, none⟩) rn c2) (.slice A3 pn c3) (.slice A4 hn c4)).drew.four
    simp only [results, Try.results10]
    go_simp

set_option maxRecDepth 100000 in
set_option maxHeartbeats 4000000 in
theorem setFn_bad (A : Option Addr) (n c : Nat) (RA : Option Addr) (rn rc : Nat) (PA : Option Addr) (pn pc : Nat) (HA : Option Addr) (hn hc : Nat) (S : St) (slot k other : Int) (w : World) (hR : StR w w.heap.size A n RA rn PA pn HA hn S) (hK : StK n c rn pn hn S) (hE : refE S slot k other ≠ 0) :
    Calls Try.prog 10 #[.agg #[.slice A n c, .slice RA rn rc, .slice PA pn pc, .slice HA hn hc], .int .i64 slot, .int .i64 k, .int .i64 other] w fun e w' => Below w.heap.size w w' ∧ e = .returned (.tuple #[.agg #[.slice none 0 0, .slice none 0 0, .slice none 0 0, .slice none 0 0], .int .i64 (refE S slot k other)]) := by
  have HB := Lib.hid (fun w hR => ref_bad A n c RA rn rc PA pn pc HA hn hc S slot k other w hR hK hE)
  have g1 : (refE S slot k other != 0) = true := by simpa using hE
  generalize refE S slot k other = F at *
  have hb0 := below_new w (.cells #[.slice A n c, .slice RA rn rc, .slice PA pn pc, .slice HA hn hc] 28)
  have hb1 := hb0.alloc hb0.size (.cells #[.slice none 0 0, .slice none 0 0, .slice none 0 0, .slice none 0 0] 28)
  have DS := (Blk.new w 28 #[.slice A n c, .slice RA rn rc, .slice PA pn pc, .slice HA hn hc]).alloc (.cells #[.slice none 0 0, .slice none 0 0, .slice none 0 0, .slice none 0 0] 28)
  have DR := Blk.new (w.alloc (.cells #[.slice A n c, .slice RA rn rc, .slice PA pn pc, .slice HA hn hc] 28)) 28 #[.slice none 0 0, .slice none 0 0, .slice none 0 0, .slice none 0 0]
  rw [World.size_alloc] at DR
  obtain ⟨s0, s1, s2, s3⟩ := DS.four
  clear hb0
  go_enter Try.func10, Try.ntmps10
  go_wp2_with fail
  refine (HB.out _ ((hR.below hb1).more hb1.size)).mono ?_
  rintro e w2 ⟨hb2, rfl⟩
  have hb02 := below_step hb1 hb2
  have DR2 := DR.below hb2 DR.lt
  obtain ⟨r0, r1, r2, r3⟩ := DR2.four
  obtain ⟨f0, f1, f2, f3⟩ := DR2.four_frozen
  clear s0 s1 s2 s3
  go_wp2_with fail
  refine bodyPost_ret (v := .tuple #[.agg #[.slice none 0 0, .slice none 0 0, .slice none 0 0, .slice none 0 0], .int .i64 F]) ?_ rfl ⟨below_block4 hb02 (Nat.le_succ _) _ _ _ _, rfl⟩
  obtain ⟨z0, z1, z2, z3⟩ := (DR2.store4 (.slice none 0 0) (.slice none 0 0) (.slice none 0 0) (.slice none 0 0)).four
  simp only [results, Try.results10]
  go_simp

set_option maxRecDepth 100000 in
set_option maxHeartbeats 4000000 in
theorem refFn_ok (A : Option Addr) (n c : Nat) (RA : Option Addr) (rn rc : Nat) (PA : Option Addr) (pn pc : Nat) (HA : Option Addr) (hn hc : Nat) (S : St) (k X K O v : Nat) (s : Spot) (i : Nat) (w : World) (hR : StR w w.heap.size A n RA rn PA pn HA hn S) (hK : StK n c rn pn hn S) (hOK : StOk S) (hx : S.r[k]? = some (X : Int)) (hO : ObjAt S X s i) (hk : (K : Int) < s.r) (ho : O < S.r.length) (hv : S.a[X + 1 + K]? = some (v : Int)) (hv1 : v ≤ 1000) :
    Calls Try.prog 11 #[.agg #[.slice A n c, .slice RA rn rc, .slice PA pn pc, .slice HA hn hc], .int .i64 k, .int .i64 K, .int .i64 O] w fun e w' => Below w.heap.size w w' ∧ ∃ (A1 : Option Addr) (c1 : Nat) (A2 : Option Addr) (c2 : Nat) (A3 : Option Addr) (c3 : Nat) (A4 : Option Addr) (c4 : Nat), e = .returned (.tuple #[.agg #[.slice A1 n c1, .slice A2 rn c2, .slice A3 pn c3, .slice A4 hn c4], .int .i64 0]) ∧ StO w' w.heap.size A1 n c1 A2 rn c2 A3 pn c3 A4 hn c4 ⟨S.a, S.r.set O (v - 1), S.p, S.l⟩ := by
  obtain ⟨z1, z2, z3, z4⟩ := hR.lens
  have HCp := Lib.hid (fun w hR => copied_any A n c RA rn rc PA pn pc HA hn hc S w hR (by have := (parse_ok (checkE_ok.1 hOK.arena).1).1; omega) (by have := (rootE_ok hOK.roots).2.2.1; omega) (by have := hOK.pins.len; omega) (by have := (handE_ok.1 hOK.hands).1; omega))
  have HB := Lib.hid (fun w hR => ref_ok A n c RA rn rc PA pn pc HA hn hc S k X K O s i w hR hK hOK hx hO hk ho)
  have hfit := hO.ok.fits
  have hr0 := hO.ok.r0
  have hb0 := hO.ok.b0
  rw [hO.loc] at hfit
  unfold Spot.long at hfit
  have hpn : X + 1 + K < n := by omega
  have hon : O < rn := by omega
  generalize X + 1 + K = p at *
  have hw2 : IntKind.i64.wrap (v : Int) = v := IntWalk.i64_in _ (by omega)
  obtain ⟨Y, hY⟩ : ∃ Y : Int, (v : Int) - 1 = Y := ⟨_, rfl⟩
  rw [hY]
  have hw1 : IntKind.i64.wrap ((v : Int) - 1) = Y := (IntWalk.i64_in _ (by omega)).trans hY
  have HV := Lib.hid hv
  clear hO hOK hx hk z1 z2 z3 z4 hfit hr0 hb0 hY hv ho
  have hb0 := below_new w (.cells #[.slice A n c, .slice RA rn rc, .slice PA pn pc, .slice HA hn hc] 28)
  have hb1 := hb0.alloc hb0.size (.cells #[.slice none 0 0, .slice none 0 0, .slice none 0 0, .slice none 0 0] 28)
  have DS := (Blk.new w 28 #[.slice A n c, .slice RA rn rc, .slice PA pn pc, .slice HA hn hc]).alloc (.cells #[.slice none 0 0, .slice none 0 0, .slice none 0 0, .slice none 0 0] 28)
  have DR := Blk.new (w.alloc (.cells #[.slice A n c, .slice RA rn rc, .slice PA pn pc, .slice HA hn hc] 28)) 28 #[.slice none 0 0, .slice none 0 0, .slice none 0 0, .slice none 0 0]
  rw [World.size_alloc] at DR
  obtain ⟨s0, s1, s2, s3⟩ := DS.four
  clear hb0
  go_enter Try.func11, Try.ntmps11
  go_wp2_with fail
  refine (HB.out _ ((hR.below hb1).more hb1.size)).mono ?_
  rintro e w2 ⟨hb2, rfl⟩
  have hb02 := below_step hb1 hb2
  have DS2 := DS.below hb2 DS.lt
  have DR2 := DR.below hb2 DR.lt
  have hlt : w.heap.size + 1 < w2.heap.size := DR2.lt
  clear s0 s1 s2 s3 hb1 hb2 DS DR
  obtain ⟨s0, s1, s2, s3⟩ := DS2.four
  go_wp2_with fail
  refine (HCp.out _ ((hR.below hb02).more hb02.size)).mono ?_
  rintro e w3 ⟨hb3, A1, c1, A2, c2, A3, c3, A4, c4, rfl, hO⟩
  have hb03 := below_step hb02 hb3
  have DS3 := DS2.below hb3 DS2.lt
  have DR3 := DR2.below hb3 DR2.lt
  clear s0 s1 s2 s3 hb3
  obtain ⟨s0, s1, s2, s3⟩ := DS3.four
  obtain ⟨f0, f1, f2, f3⟩ := DS3.four_frozen
  have hO4 := hO.store DS3 (.slice A1 n c1) (.slice A2 rn c2) (.slice A3 pn c3) (.slice A4 hn c4)
  have DS4 := DS3.store4 (.slice A1 n c1) (.slice A2 rn c2) (.slice A3 pn c3) (.slice A4 hn c4)
  have DR4 := DR3.far4 (g' := w.heap.size) (by omega) (.slice A1 n c1) (.slice A2 rn c2) (.slice A3 pn c3) (.slice A4 hn c4)
  have hb04 := below_block4 (g := w.heap.size) hb03 (Nat.le_refl _) (.slice A1 n c1) (.slice A2 rn c2) (.slice A3 pn c3) (.slice A4 hn c4)
  obtain ⟨d0, d1, d2, d3⟩ := DS4.four
  obtain ⟨g, rfl, gh, gc, gB⟩ := own_some hO4.a (by omega)
  have ge : p < (S.a.map (Value.int .u64)).length := by have := hR.lens.1; rw [List.length_map]; omega
  have gcc := hO4.a.cellAt p (by omega)
  rw [List.getElem?_eq_getElem ge] at gcc
  have gf := hO4.a.frozenAt p
  obtain ⟨q, rfl, qh, qc, qB⟩ := own_some hO4.r (by omega)
  have qe : O < (S.r.map (Value.int .i64)).length := by have := hR.lens.2.1; rw [List.length_map]; omega
  have qcc := hO4.r.cellAt O (by omega)
  rw [List.getElem?_eq_getElem qe] at qcc
  have qf := hO4.r.frozenAt O
  have gv : (S.a.map (Value.int .u64))[p] = .int .u64 v := by
    have h1 := HV.out
    obtain ⟨j1, j2⟩ := List.getElem?_eq_some_iff.1 h1
    rw [List.getElem_map, j2]
  rw [gv] at gcc
  have hO5 := (hO4.setR (p := O) (v := Y) qB).mono hb02.size
  have DS5 := DS4.far (p := ⟨q, O, none⟩) (by dsimp only; omega) (.int .i64 Y)
  have DR5 := DR4.far (p := ⟨q, O, none⟩) (by dsimp only; omega) (.int .i64 Y)
  have hb05 := hb04.setCell (p := ⟨q, O, none⟩) (by dsimp only; have := hb02.size; omega) (.int .i64 Y)
  obtain ⟨o0, o1, o2, o3⟩ := DS5.four
  obtain ⟨r0, r1, r2, r3⟩ := DR5.four
  obtain ⟨h0, h1, h2, h3⟩ := DR5.four_frozen
  clear hO4 hO gB qB
  go_wp2_with fail
  go_region
  all_goals
    go_wp2_with fail
    refine bodyPost_ret (v := .tuple #[.agg #[.slice (some ⟨g, 0, none⟩) n c1, .slice (some ⟨q, 0, none⟩) rn c2, .slice A3 pn c3, .slice A4 hn c4], .int .i64 0]) ?_ rfl ⟨(below_block4 hb05 (Nat.le_succ _) _ _ _ _).drew, _, c1, _, c2, A3, c3, A4, c4, rfl, (hO5.store DR5 _ _ _ _).drew⟩
    obtain ⟨z0, z1, z2, z3⟩ := (DR5.store4 (.slice (some ⟨g, 0, none⟩) n c1) (.slice (some ⟨q, 0, none⟩) rn c2) (.slice A3 pn c3) (.slice A4 hn c4)).drew.four
    simp only [results, Try.results11]
    go_simp

set_option maxRecDepth 100000 in
set_option maxHeartbeats 4000000 in
theorem refFn_bad (A : Option Addr) (n c : Nat) (RA : Option Addr) (rn rc : Nat) (PA : Option Addr) (pn pc : Nat) (HA : Option Addr) (hn hc : Nat) (S : St) (slot k other : Int) (w : World) (hR : StR w w.heap.size A n RA rn PA pn HA hn S) (hK : StK n c rn pn hn S) (hE : refE S slot k other ≠ 0) :
    Calls Try.prog 11 #[.agg #[.slice A n c, .slice RA rn rc, .slice PA pn pc, .slice HA hn hc], .int .i64 slot, .int .i64 k, .int .i64 other] w fun e w' => Below w.heap.size w w' ∧ e = .returned (.tuple #[.agg #[.slice none 0 0, .slice none 0 0, .slice none 0 0, .slice none 0 0], .int .i64 (refE S slot k other)]) := by
  have HB := Lib.hid (fun w hR => ref_bad A n c RA rn rc PA pn pc HA hn hc S slot k other w hR hK hE)
  have g1 : (refE S slot k other != 0) = true := by simpa using hE
  generalize refE S slot k other = F at *
  have hb0 := below_new w (.cells #[.slice A n c, .slice RA rn rc, .slice PA pn pc, .slice HA hn hc] 28)
  have hb1 := hb0.alloc hb0.size (.cells #[.slice none 0 0, .slice none 0 0, .slice none 0 0, .slice none 0 0] 28)
  have DS := (Blk.new w 28 #[.slice A n c, .slice RA rn rc, .slice PA pn pc, .slice HA hn hc]).alloc (.cells #[.slice none 0 0, .slice none 0 0, .slice none 0 0, .slice none 0 0] 28)
  have DR := Blk.new (w.alloc (.cells #[.slice A n c, .slice RA rn rc, .slice PA pn pc, .slice HA hn hc] 28)) 28 #[.slice none 0 0, .slice none 0 0, .slice none 0 0, .slice none 0 0]
  rw [World.size_alloc] at DR
  obtain ⟨s0, s1, s2, s3⟩ := DS.four
  clear hb0
  go_enter Try.func11, Try.ntmps11
  go_wp2_with fail
  refine (HB.out _ ((hR.below hb1).more hb1.size)).mono ?_
  rintro e w2 ⟨hb2, rfl⟩
  have hb02 := below_step hb1 hb2
  have DR2 := DR.below hb2 DR.lt
  obtain ⟨r0, r1, r2, r3⟩ := DR2.four
  obtain ⟨f0, f1, f2, f3⟩ := DR2.four_frozen
  clear s0 s1 s2 s3
  go_wp2_with fail
  refine bodyPost_ret (v := .tuple #[.agg #[.slice none 0 0, .slice none 0 0, .slice none 0 0, .slice none 0 0], .int .i64 F]) ?_ rfl ⟨below_block4 hb02 (Nat.le_succ _) _ _ _ _, rfl⟩
  obtain ⟨z0, z1, z2, z3⟩ := (DR2.store4 (.slice none 0 0) (.slice none 0 0) (.slice none 0 0) (.slice none 0 0)).four
  simp only [results, Try.results11]
  go_simp
end Go.Proofs.Ytjdpcmmmdaffdaa
