/-
  Texts joined: StPut PinFind PinLaw InsertPin.
-/
import Derived.Test.YtblkhipbhahmeaaGreatDoorRows
import Derived.Deep.RegionHeld3
import Derived.StillTailTactics
import Derived.Test.YtblkhipbhahmeaaGreatDoorU0
import Derived.Test.YtblkhipbhahmeaaGreatDoorU2
import Derived.Test.YtblkhipbhahmeaaGreatDoorU10
import Derived.Test.YtblkhipbhahmeaaGreatDoorU12
import Derived.Test.YtblkhipbhahmeaaGreatDoorU13
namespace Go.Proofs.YtblkhipbhahmeaaGreatDoor
open Go.RowKit
set_option maxRecDepth 100000 in
set_option maxHeartbeats 4000000 in
theorem get_ok (A : Option Addr) (n c : Nat) (RA : Option Addr) (rn rc : Nat) (PA : Option Addr) (pn pc : Nat) (HA : Option Addr) (hn hc : Nat) (S : St) (k X K v : Nat) (s : Spot) (i : Nat) (w : World) (hR : StR w w.heap.size A n RA rn PA pn HA hn S) (hK : StK n c rn pn hn S) (hOK : StOk S) (hx : S.r[k]? = some (X : Int)) (hO : ObjAt S X s i) (hk : (K : Int) < s.b) (hv : S.a[X + 1 + s.r.toNat + K]? = some (v : Int)) :
  Calls Tryz.prog 123 #[.agg #[.slice A n c, .slice RA rn rc, .slice PA pn pc, .slice HA hn hc], .int .i64 k, .int .i64 K] w fun e w' => Below w.heap.size w w' ∧ e = .returned (.tuple #[.int .u64 v, .int .i64 0]) := by
 obtain ⟨z1, z2, z3, z4⟩ := hR.lens
 have HB := Lib.hid (fun w hR => body_ok A n c RA rn rc PA pn pc HA hn hc S k X K s i w hR hK hOK hx hO hk)
 generalize X + 1 + s.r.toNat + K = p at *
 have hpn : p < n := by have := (List.getElem?_eq_some_iff.1 hv).1; omega
 have HV := Lib.hid hv
 clear hv hO hOK hx hk z1 z2 z3 z4
 have hb1 := below_new w (.cells #[.slice A n c, .slice RA rn rc, .slice PA pn pc, .slice HA hn hc] 113)
 have DS := Blk.new w 113 #[.slice A n c, .slice RA rn rc, .slice PA pn pc, .slice HA hn hc]
 obtain ⟨s0, s1, s2, s3⟩ := DS.four
 go_enter Tryz.func123, Tryz.ntmps123
 go_wp2_with fail
 refine (HB.out _ ((hR.below hb1).more hb1.size)).mono ?_
 rintro e w2 ⟨hb2, rfl⟩
 have hb02 := below_step hb1 hb2
 have DS2 := DS.below hb2 DS.lt
 clear s0 s1 s2 s3
 obtain ⟨s0, s1, s2, s3⟩ := DS2.four
 obtain ⟨ad, u, rfl, had, hu, cu⟩ := (hR.a.below hb02).num hpn
 obtain rfl : u = v := Option.some.inj (hu.symm.trans HV.out)
 clear hu
 go_wp2_with fail
 go_ret2
 exact ⟨hb02, rfl⟩
set_option maxRecDepth 100000 in
set_option maxHeartbeats 4000000 in
theorem get_bad (A : Option Addr) (n c : Nat) (RA : Option Addr) (rn rc : Nat) (PA : Option Addr) (pn pc : Nat) (HA : Option Addr) (hn hc : Nat) (S : St) (slot k : Int) (w : World) (hR : StR w w.heap.size A n RA rn PA pn HA hn S) (hK : StK n c rn pn hn S) (hE : bodyE S slot k ≠ 0) :
  Calls Tryz.prog 123 #[.agg #[.slice A n c, .slice RA rn rc, .slice PA pn pc, .slice HA hn hc], .int .i64 slot, .int .i64 k] w fun e w' => Below w.heap.size w w' ∧ e = .returned (.tuple #[.int .u64 0, .int .i64 (bodyE S slot k)]) := by
 have HB := Lib.hid (fun w hR => body_bad A n c RA rn rc PA pn pc HA hn hc S slot k w hR hK hE)
 have g1 : (bodyE S slot k != 0) = true := by simpa using hE
 generalize bodyE S slot k = F at *
 have hb1 := below_new w (.cells #[.slice A n c, .slice RA rn rc, .slice PA pn pc, .slice HA hn hc] 113)
 have DS := Blk.new w 113 #[.slice A n c, .slice RA rn rc, .slice PA pn pc, .slice HA hn hc]
 obtain ⟨s0, s1, s2, s3⟩ := DS.four
 go_enter Tryz.func123, Tryz.ntmps123
 go_wp2_with fail
 refine (HB.out _ ((hR.below hb1).more hb1.size)).mono ?_
 rintro e w2 ⟨hb2, rfl⟩
 have hb02 := below_step hb1 hb2
 clear s0 s1 s2 s3
 go_wp2_with fail
 go_ret2
 exact ⟨hb02, rfl⟩
set_option maxRecDepth 100000 in
set_option maxHeartbeats 4000000 in
theorem put_ok (A : Option Addr) (n c : Nat) (RA : Option Addr) (rn rc : Nat) (PA : Option Addr) (pn pc : Nat) (HA : Option Addr) (hn hc : Nat) (S : St) (k X K : Nat) (v : Int) (s : Spot) (i : Nat) (w : World) (hR : StR w w.heap.size A n RA rn PA pn HA hn S) (hK : StK n c rn pn hn S) (hOK : StOk S) (hx : S.r[k]? = some (X : Int)) (hO : ObjAt S X s i) (hk : (K : Int) < s.b) :
  Calls Tryz.prog 125 #[.agg #[.slice A n c, .slice RA rn rc, .slice PA pn pc, .slice HA hn hc], .int .i64 k, .int .i64 K, .int .u64 v] w fun e w' => Below w.heap.size w w' ∧ ∃ (A1 : Option Addr) (c1 : Nat) (A2 : Option Addr) (c2 : Nat) (A3 : Option Addr) (c3 : Nat) (A4 : Option Addr) (c4 : Nat), e = .returned (.tuple #[.agg #[.slice A1 n c1, .slice A2 rn c2, .slice A3 pn c3, .slice A4 hn c4], .int .i64 0]) ∧ StO w' w.heap.size A1 n c1 A2 rn c2 A3 pn c3 A4 hn c4 ⟨S.a.set (X + 1 + s.r.toNat + K) v, S.r, S.p, S.l⟩ := by
 obtain ⟨z1, z2, z3, z4⟩ := hR.lens
 have HCp := Lib.hid (fun w hR => copied_any A n c RA rn rc PA pn pc HA hn hc S w hR (by have := (parse_ok (checkE_ok.1 hOK.arena).1).1; omega) (by have := (rootE_ok hOK.roots).2.2.1; omega) (by have := hOK.pins.len; omega) (by have := (handE_ok.1 hOK.hands).1; omega))
 have HB := Lib.hid (fun w hR => body_ok A n c RA rn rc PA pn pc HA hn hc S k X K s i w hR hK hOK hx hO hk)
 have hfit := hO.ok.fits
 have hr0 := hO.ok.r0
 have hb0 := hO.ok.b0
 rw [hO.loc] at hfit
 unfold Spot.long at hfit
 have hpn : X + 1 + s.r.toNat + K < n := by omega
 generalize X + 1 + s.r.toNat + K = p at *
 clear hO hOK hx hk z1 z2 z3 z4 hfit hr0 hb0
 have hb0 := below_new w (.cells #[.slice A n c, .slice RA rn rc, .slice PA pn pc, .slice HA hn hc] 113)
 have hb1 := hb0.alloc hb0.size (.cells #[.slice none 0 0, .slice none 0 0, .slice none 0 0, .slice none 0 0] 113)
 have DS := (Blk.new w 113 #[.slice A n c, .slice RA rn rc, .slice PA pn pc, .slice HA hn hc]).alloc (.cells #[.slice none 0 0, .slice none 0 0, .slice none 0 0, .slice none 0 0] 113)
 have DR := Blk.new (w.alloc (.cells #[.slice A n c, .slice RA rn rc, .slice PA pn pc, .slice HA hn hc] 113)) 113 #[.slice none 0 0, .slice none 0 0, .slice none 0 0, .slice none 0 0]
 rw [World.size_alloc] at DR
 obtain ⟨s0, s1, s2, s3⟩ := DS.four
 clear hb0
 go_enter Tryz.func125, Tryz.ntmps125
 go_wp2_with fail
 refine (HB.out _ ((hR.below hb1).more hb1.size)).mono ?_
 rintro e w2 ⟨hb2, rfl⟩
 have hb02 := below_step hb1 hb2
 have DS2 := DS.below hb2 DS.lt
 have DR2 := DR.below hb2 DR.lt
 have hlt : w.heap.size + 1 < w2.heap.size := DR2.lt
 clear s0 s1 s2 s3 hb1 hb2 DS DR
 obtain ⟨s0, s1, s2, s3⟩ := DS2.four
 go_wp2_with fail
 refine (HCp.out _ ((hR.below hb02).more hb02.size)).mono ?_
 rintro e w3 ⟨hb3, A1, c1, A2, c2, A3, c3, A4, c4, rfl, hO⟩
 have hb03 := below_step hb02 hb3
 have DS3 := DS2.below hb3 DS2.lt
 have DR3 := DR2.below hb3 DR2.lt
 clear s0 s1 s2 s3 hb3
 obtain ⟨s0, s1, s2, s3⟩ := DS3.four
 obtain ⟨f0, f1, f2, f3⟩ := DS3.four_frozen
 have hO4 := hO.store DS3 (.slice A1 n c1) (.slice A2 rn c2) (.slice A3 pn c3) (.slice A4 hn c4)
 have DS4 := DS3.store4 (.slice A1 n c1) (.slice A2 rn c2) (.slice A3 pn c3) (.slice A4 hn c4)
 have DR4 := DR3.far4 (g' := w.heap.size) (by omega) (.slice A1 n c1) (.slice A2 rn c2) (.slice A3 pn c3) (.slice A4 hn c4)
 have hb04 := below_block4 (g := w.heap.size) hb03 (Nat.le_refl _) (.slice A1 n c1) (.slice A2 rn c2) (.slice A3 pn c3) (.slice A4 hn c4)
 obtain ⟨d0, d1, d2, d3⟩ := DS4.four
 obtain ⟨g, rfl, hg, cur, hB⟩ := own_some hO4.a (by omega)
 have e1 : p < (S.a.map (Value.int .u64)).length := by have := hR.lens.1; rw [List.length_map]; omega
 have cc := hO4.a.cellAt p (by omega)
 rw [List.getElem?_eq_getElem e1] at cc
 have ff := hO4.a.frozenAt p
 have hO5 := (hO4.setA (p := p) (v := v) hB).mono hb02.size
 have DS5 := DS4.far (p := ⟨g, p, none⟩) (by dsimp only; omega) (.int .u64 v)
 have DR5 := DR4.far (p := ⟨g, p, none⟩) (by dsimp only; omega) (.int .u64 v)
 have hb05 := hb04.setCell (p := ⟨g, p, none⟩) (by dsimp only; have := hb02.size; omega) (.int .u64 v)
 obtain ⟨o0, o1, o2, o3⟩ := DS5.four
 obtain ⟨r0, r1, r2, r3⟩ := DR5.four
 obtain ⟨h0, h1, h2, h3⟩ := DR5.four_frozen
 clear hO4 hO hB
 go_wp2_with fail
 refine bodyPost_ret (v := .tuple #[.agg #[.slice (some ⟨g, 0, none⟩) n c1, .slice A2 rn c2, .slice A3 pn c3, .slice A4 hn c4], .int .i64 0]) ?_ rfl ⟨(below_block4 hb05 (Nat.le_succ _) _ _ _ _), _, c1, _, c2, A3, c3, A4, c4, rfl, (hO5.store DR5 _ _ _ _)⟩
 obtain ⟨z0, z1, z2, z3⟩ := (DR5.store4 (.slice (some ⟨g, 0, none⟩) n c1) (.slice A2 rn c2) (.slice A3 pn c3) (.slice A4 hn c4)).four
 simp only [results, Tryz.results125]
 go_simp
set_option maxRecDepth 100000 in
set_option maxHeartbeats 4000000 in
theorem put_bad (A : Option Addr) (n c : Nat) (RA : Option Addr) (rn rc : Nat) (PA : Option Addr) (pn pc : Nat) (HA : Option Addr) (hn hc : Nat) (S : St) (slot k v : Int) (w : World) (hR : StR w w.heap.size A n RA rn PA pn HA hn S) (hK : StK n c rn pn hn S) (hE : bodyE S slot k ≠ 0) :
  Calls Tryz.prog 125 #[.agg #[.slice A n c, .slice RA rn rc, .slice PA pn pc, .slice HA hn hc], .int .i64 slot, .int .i64 k, .int .u64 v] w fun e w' => Below w.heap.size w w' ∧ e = .returned (.tuple #[.agg #[.slice none 0 0, .slice none 0 0, .slice none 0 0, .slice none 0 0], .int .i64 (bodyE S slot k)]) := by
 have HB := Lib.hid (fun w hR => body_bad A n c RA rn rc PA pn pc HA hn hc S slot k w hR hK hE)
 have g1 : (bodyE S slot k != 0) = true := by simpa using hE
 generalize bodyE S slot k = F at *
 have hb0 := below_new w (.cells #[.slice A n c, .slice RA rn rc, .slice PA pn pc, .slice HA hn hc] 113)
 have hb1 := hb0.alloc hb0.size (.cells #[.slice none 0 0, .slice none 0 0, .slice none 0 0, .slice none 0 0] 113)
 have DS := (Blk.new w 113 #[.slice A n c, .slice RA rn rc, .slice PA pn pc, .slice HA hn hc]).alloc (.cells #[.slice none 0 0, .slice none 0 0, .slice none 0 0, .slice none 0 0] 113)
 have DR := Blk.new (w.alloc (.cells #[.slice A n c, .slice RA rn rc, .slice PA pn pc, .slice HA hn hc] 113)) 113 #[.slice none 0 0, .slice none 0 0, .slice none 0 0, .slice none 0 0]
 rw [World.size_alloc] at DR
 obtain ⟨s0, s1, s2, s3⟩ := DS.four
 clear hb0
 go_enter Tryz.func125, Tryz.ntmps125
 go_wp2_with fail
 refine (HB.out _ ((hR.below hb1).more hb1.size)).mono ?_
 rintro e w2 ⟨hb2, rfl⟩
 have hb02 := below_step hb1 hb2
 have DR2 := DR.below hb2 DR.lt
 obtain ⟨r0, r1, r2, r3⟩ := DR2.four
 obtain ⟨f0, f1, f2, f3⟩ := DR2.four_frozen
 clear s0 s1 s2 s3
 go_wp2_with fail
 refine bodyPost_ret (v := .tuple #[.agg #[.slice none 0 0, .slice none 0 0, .slice none 0 0, .slice none 0 0], .int .i64 F]) ?_ rfl ⟨below_block4 hb02 (Nat.le_succ _) _ _ _ _, rfl⟩
 obtain ⟨z0, z1, z2, z3⟩ := (DR2.store4 (.slice none 0 0) (.slice none 0 0) (.slice none 0 0) (.slice none 0 0)).four
 simp only [results, Tryz.results125]
 go_simp
set_option maxRecDepth 100000 in
set_option maxHeartbeats 4000000 in
theorem setFn_ok (A : Option Addr) (n c : Nat) (RA : Option Addr) (rn rc : Nat) (PA : Option Addr) (pn pc : Nat) (HA : Option Addr) (hn hc : Nat) (S : St) (k X K O : Nat) (y : Int) (s : Spot) (i : Nat) (w : World) (hR : StR w w.heap.size A n RA rn PA pn HA hn S) (hK : StK n c rn pn hn S) (hOK : StOk S) (hx : S.r[k]? = some (X : Int)) (hO : ObjAt S X s i) (hk : (K : Int) < s.r) (hy : S.r[O]? = some y) (hy1 : -1 ≤ y ∧ y ≤ 1000) :
  Calls Tryz.prog 122 #[.agg #[.slice A n c, .slice RA rn rc, .slice PA pn pc, .slice HA hn hc], .int .i64 k, .int .i64 K, .int .i64 O] w fun e w' => Below w.heap.size w w' ∧ ∃ (A1 : Option Addr) (c1 : Nat) (A2 : Option Addr) (c2 : Nat) (A3 : Option Addr) (c3 : Nat) (A4 : Option Addr) (c4 : Nat), e = .returned (.tuple #[.agg #[.slice A1 n c1, .slice A2 rn c2, .slice A3 pn c3, .slice A4 hn c4], .int .i64 0]) ∧ StO w' w.heap.size A1 n c1 A2 rn c2 A3 pn c3 A4 hn c4 ⟨S.a.set (X + 1 + K) (y + 1), S.r, S.p, S.l⟩ := by
 obtain ⟨z1, z2, z3, z4⟩ := hR.lens
 have HCp := Lib.hid (fun w hR => copied_any A n c RA rn rc PA pn pc HA hn hc S w hR (by have := (parse_ok (checkE_ok.1 hOK.arena).1).1; omega) (by have := (rootE_ok hOK.roots).2.2.1; omega) (by have := hOK.pins.len; omega) (by have := (handE_ok.1 hOK.hands).1; omega))
 have ho : O < S.r.length := (List.getElem?_eq_some_iff.1 hy).1
 have HB := Lib.hid (fun w hR => ref_ok A n c RA rn rc PA pn pc HA hn hc S k X K O s i w hR hK hOK hx hO hk ho)
 have hfit := hO.ok.fits
 have hr0 := hO.ok.r0
 have hb0 := hO.ok.b0
 rw [hO.loc] at hfit
 unfold Spot.long at hfit
 have hpn : X + 1 + K < n := by omega
 have hon : O < rn := by omega
 generalize X + 1 + K = p at *
 obtain ⟨Y, hY⟩ : ∃ Y : Nat, y + 1 = Y := ⟨(y + 1).toNat, by omega⟩
 rw [hY]
 have hw1 : IntKind.i64.wrap (y + 1) = Y := (IntWalk.i64_in _ (by omega)).trans hY
 have hw2 : IntKind.u64.wrap (Y : Int) = Y := IntWalk.u64_in _ (by omega)
 have HY := Lib.hid hy
 clear hO hOK hx hk z1 z2 z3 z4 hfit hr0 hb0 hY hy ho
 have hb0 := below_new w (.cells #[.slice A n c, .slice RA rn rc, .slice PA pn pc, .slice HA hn hc] 113)
 have hb1 := hb0.alloc hb0.size (.cells #[.slice none 0 0, .slice none 0 0, .slice none 0 0, .slice none 0 0] 113)
 have DS := (Blk.new w 113 #[.slice A n c, .slice RA rn rc, .slice PA pn pc, .slice HA hn hc]).alloc (.cells #[.slice none 0 0, .slice none 0 0, .slice none 0 0, .slice none 0 0] 113)
 have DR := Blk.new (w.alloc (.cells #[.slice A n c, .slice RA rn rc, .slice PA pn pc, .slice HA hn hc] 113)) 113 #[.slice none 0 0, .slice none 0 0, .slice none 0 0, .slice none 0 0]
 rw [World.size_alloc] at DR
 obtain ⟨s0, s1, s2, s3⟩ := DS.four
 clear hb0
 go_enter Tryz.func122, Tryz.ntmps122
 go_wp2_with fail
 refine (HB.out _ ((hR.below hb1).more hb1.size)).mono ?_
 rintro e w2 ⟨hb2, rfl⟩
 have hb02 := below_step hb1 hb2
 have DS2 := DS.below hb2 DS.lt
 have DR2 := DR.below hb2 DR.lt
 have hlt : w.heap.size + 1 < w2.heap.size := DR2.lt
 clear s0 s1 s2 s3 hb1 hb2 DS DR
 obtain ⟨s0, s1, s2, s3⟩ := DS2.four
 go_wp2_with fail
 refine (HCp.out _ ((hR.below hb02).more hb02.size)).mono ?_
 rintro e w3 ⟨hb3, A1, c1, A2, c2, A3, c3, A4, c4, rfl, hO⟩
 have hb03 := below_step hb02 hb3
 have DS3 := DS2.below hb3 DS2.lt
 have DR3 := DR2.below hb3 DR2.lt
 clear s0 s1 s2 s3 hb3
 obtain ⟨s0, s1, s2, s3⟩ := DS3.four
 obtain ⟨f0, f1, f2, f3⟩ := DS3.four_frozen
 have hO4 := hO.store DS3 (.slice A1 n c1) (.slice A2 rn c2) (.slice A3 pn c3) (.slice A4 hn c4)
 have DS4 := DS3.store4 (.slice A1 n c1) (.slice A2 rn c2) (.slice A3 pn c3) (.slice A4 hn c4)
 have DR4 := DR3.far4 (g' := w.heap.size) (by omega) (.slice A1 n c1) (.slice A2 rn c2) (.slice A3 pn c3) (.slice A4 hn c4)
 have hb04 := below_block4 (g := w.heap.size) hb03 (Nat.le_refl _) (.slice A1 n c1) (.slice A2 rn c2) (.slice A3 pn c3) (.slice A4 hn c4)
 obtain ⟨d0, d1, d2, d3⟩ := DS4.four
 obtain ⟨g, rfl, gh, gc, gB⟩ := own_some hO4.a (by omega)
 have ge : p < (S.a.map (Value.int .u64)).length := by have := hR.lens.1; rw [List.length_map]; omega
 have gcc := hO4.a.cellAt p (by omega)
 rw [List.getElem?_eq_getElem ge] at gcc
 have gf := hO4.a.frozenAt p
 obtain ⟨q, rfl, qh, qc, qB⟩ := own_some hO4.r (by omega)
 have qe : O < (S.r.map (Value.int .i64)).length := by have := hR.lens.2.1; rw [List.length_map]; omega
 have qcc := hO4.r.cellAt O (by omega)
 rw [List.getElem?_eq_getElem qe] at qcc
 have qf := hO4.r.frozenAt O
 have qv : (S.r.map (Value.int .i64))[O] = .int .i64 y := by
  have h1 := HY.out
  obtain ⟨j1, j2⟩ := List.getElem?_eq_some_iff.1 h1
  rw [List.getElem_map, j2]
 rw [qv] at qcc
 have hO5 := (hO4.setA (p := p) (v := Y) gB).mono hb02.size
 have DS5 := DS4.far (p := ⟨g, p, none⟩) (by dsimp only; omega) (.int .u64 Y)
 have DR5 := DR4.far (p := ⟨g, p, none⟩) (by dsimp only; omega) (.int .u64 Y)
 have hb05 := hb04.setCell (p := ⟨g, p, none⟩) (by dsimp only; have := hb02.size; omega) (.int .u64 Y)
 obtain ⟨o0, o1, o2, o3⟩ := DS5.four
 obtain ⟨r0, r1, r2, r3⟩ := DR5.four
 obtain ⟨h0, h1, h2, h3⟩ := DR5.four_frozen
 clear hO4 hO gB qB
 go_wp2_with fail
 go_region
 all_goals
  go_wp2_with fail
  refine bodyPost_ret (v := .tuple #[.agg #[.slice (some ⟨g, 0, none⟩) n c1, .slice (some ⟨q, 0, none⟩) rn c2, .slice A3 pn c3, .slice A4 hn c4], .int .i64 0]) ?_ rfl ⟨(below_block4 hb05 (Nat.le_succ _) _ _ _ _).drew, _, c1, _, c2, A3, c3, A4, c4, rfl, (hO5.store DR5 _ _ _ _).drew⟩
  obtain ⟨z0, z1, z2, z3⟩ := (DR5.store4 (.slice (some ⟨g, 0, none⟩) n c1) (.slice (some ⟨q, 0, none⟩) rn c2) (.slice A3 pn c3) (.slice A4 hn c4)).drew.four
  simp only [results, Tryz.results122]
  go_simp
set_option maxRecDepth 100000 in
set_option maxHeartbeats 4000000 in
theorem setFn_bad (A : Option Addr) (n c : Nat) (RA : Option Addr) (rn rc : Nat) (PA : Option Addr) (pn pc : Nat) (HA : Option Addr) (hn hc : Nat) (S : St) (slot k other : Int) (w : World) (hR : StR w w.heap.size A n RA rn PA pn HA hn S) (hK : StK n c rn pn hn S) (hE : refE S slot k other ≠ 0) :
  Calls Tryz.prog 122 #[.agg #[.slice A n c, .slice RA rn rc, .slice PA pn pc, .slice HA hn hc], .int .i64 slot, .int .i64 k, .int .i64 other] w fun e w' => Below w.heap.size w w' ∧ e = .returned (.tuple #[.agg #[.slice none 0 0, .slice none 0 0, .slice none 0 0, .slice none 0 0], .int .i64 (refE S slot k other)]) := by
 have HB := Lib.hid (fun w hR => ref_bad A n c RA rn rc PA pn pc HA hn hc S slot k other w hR hK hE)
 have g1 : (refE S slot k other != 0) = true := by simpa using hE
 generalize refE S slot k other = F at *
 have hb0 := below_new w (.cells #[.slice A n c, .slice RA rn rc, .slice PA pn pc, .slice HA hn hc] 113)
 have hb1 := hb0.alloc hb0.size (.cells #[.slice none 0 0, .slice none 0 0, .slice none 0 0, .slice none 0 0] 113)
 have DS := (Blk.new w 113 #[.slice A n c, .slice RA rn rc, .slice PA pn pc, .slice HA hn hc]).alloc (.cells #[.slice none 0 0, .slice none 0 0, .slice none 0 0, .slice none 0 0] 113)
 have DR := Blk.new (w.alloc (.cells #[.slice A n c, .slice RA rn rc, .slice PA pn pc, .slice HA hn hc] 113)) 113 #[.slice none 0 0, .slice none 0 0, .slice none 0 0, .slice none 0 0]
 rw [World.size_alloc] at DR
 obtain ⟨s0, s1, s2, s3⟩ := DS.four
 clear hb0
 go_enter Tryz.func122, Tryz.ntmps122
 go_wp2_with fail
 refine (HB.out _ ((hR.below hb1).more hb1.size)).mono ?_
 rintro e w2 ⟨hb2, rfl⟩
 have hb02 := below_step hb1 hb2
 have DR2 := DR.below hb2 DR.lt
 obtain ⟨r0, r1, r2, r3⟩ := DR2.four
 obtain ⟨f0, f1, f2, f3⟩ := DR2.four_frozen
 clear s0 s1 s2 s3
 go_wp2_with fail
 refine bodyPost_ret (v := .tuple #[.agg #[.slice none 0 0, .slice none 0 0, .slice none 0 0, .slice none 0 0], .int .i64 F]) ?_ rfl ⟨below_block4 hb02 (Nat.le_succ _) _ _ _ _, rfl⟩
 obtain ⟨z0, z1, z2, z3⟩ := (DR2.store4 (.slice none 0 0) (.slice none 0 0) (.slice none 0 0) (.slice none 0 0)).four
 simp only [results, Tryz.results122]
 go_simp
set_option maxRecDepth 100000 in
set_option maxHeartbeats 4000000 in
theorem refFn_ok (A : Option Addr) (n c : Nat) (RA : Option Addr) (rn rc : Nat) (PA : Option Addr) (pn pc : Nat) (HA : Option Addr) (hn hc : Nat) (S : St) (k X K O v : Nat) (s : Spot) (i : Nat) (w : World) (hR : StR w w.heap.size A n RA rn PA pn HA hn S) (hK : StK n c rn pn hn S) (hOK : StOk S) (hx : S.r[k]? = some (X : Int)) (hO : ObjAt S X s i) (hk : (K : Int) < s.r) (ho : O < S.r.length) (hv : S.a[X + 1 + K]? = some (v : Int)) (hv1 : v ≤ 1000) :
  Calls Tryz.prog 121 #[.agg #[.slice A n c, .slice RA rn rc, .slice PA pn pc, .slice HA hn hc], .int .i64 k, .int .i64 K, .int .i64 O] w fun e w' => Below w.heap.size w w' ∧ ∃ (A1 : Option Addr) (c1 : Nat) (A2 : Option Addr) (c2 : Nat) (A3 : Option Addr) (c3 : Nat) (A4 : Option Addr) (c4 : Nat), e = .returned (.tuple #[.agg #[.slice A1 n c1, .slice A2 rn c2, .slice A3 pn c3, .slice A4 hn c4], .int .i64 0]) ∧ StO w' w.heap.size A1 n c1 A2 rn c2 A3 pn c3 A4 hn c4 ⟨S.a, S.r.set O (v - 1), S.p, S.l⟩ := by
 obtain ⟨z1, z2, z3, z4⟩ := hR.lens
 have HCp := Lib.hid (fun w hR => copied_any A n c RA rn rc PA pn pc HA hn hc S w hR (by have := (parse_ok (checkE_ok.1 hOK.arena).1).1; omega) (by have := (rootE_ok hOK.roots).2.2.1; omega) (by have := hOK.pins.len; omega) (by have := (handE_ok.1 hOK.hands).1; omega))
 have HB := Lib.hid (fun w hR => ref_ok A n c RA rn rc PA pn pc HA hn hc S k X K O s i w hR hK hOK hx hO hk ho)
 have hfit := hO.ok.fits
 have hr0 := hO.ok.r0
 have hb0 := hO.ok.b0
 rw [hO.loc] at hfit
 unfold Spot.long at hfit
 have hpn : X + 1 + K < n := by omega
 have hon : O < rn := by omega
 generalize X + 1 + K = p at *
 have hw2 : IntKind.i64.wrap (v : Int) = v := IntWalk.i64_in _ (by omega)
 obtain ⟨Y, hY⟩ : ∃ Y : Int, (v : Int) - 1 = Y := ⟨_, rfl⟩
 rw [hY]
 have hw1 : IntKind.i64.wrap ((v : Int) - 1) = Y := (IntWalk.i64_in _ (by omega)).trans hY
 have HV := Lib.hid hv
 clear hO hOK hx hk z1 z2 z3 z4 hfit hr0 hb0 hY hv ho
 have hb0 := below_new w (.cells #[.slice A n c, .slice RA rn rc, .slice PA pn pc, .slice HA hn hc] 113)
 have hb1 := hb0.alloc hb0.size (.cells #[.slice none 0 0, .slice none 0 0, .slice none 0 0, .slice none 0 0] 113)
 have DS := (Blk.new w 113 #[.slice A n c, .slice RA rn rc, .slice PA pn pc, .slice HA hn hc]).alloc (.cells #[.slice none 0 0, .slice none 0 0, .slice none 0 0, .slice none 0 0] 113)
 have DR := Blk.new (w.alloc (.cells #[.slice A n c, .slice RA rn rc, .slice PA pn pc, .slice HA hn hc] 113)) 113 #[.slice none 0 0, .slice none 0 0, .slice none 0 0, .slice none 0 0]
 rw [World.size_alloc] at DR
 obtain ⟨s0, s1, s2, s3⟩ := DS.four
 clear hb0
 go_enter Tryz.func121, Tryz.ntmps121
 go_wp2_with fail
 refine (HB.out _ ((hR.below hb1).more hb1.size)).mono ?_
 rintro e w2 ⟨hb2, rfl⟩
 have hb02 := below_step hb1 hb2
 have DS2 := DS.below hb2 DS.lt
 have DR2 := DR.below hb2 DR.lt
 have hlt : w.heap.size + 1 < w2.heap.size := DR2.lt
 clear s0 s1 s2 s3 hb1 hb2 DS DR
 obtain ⟨s0, s1, s2, s3⟩ := DS2.four
 go_wp2_with fail
 refine (HCp.out _ ((hR.below hb02).more hb02.size)).mono ?_
 rintro e w3 ⟨hb3, A1, c1, A2, c2, A3, c3, A4, c4, rfl, hO⟩
 have hb03 := below_step hb02 hb3
 have DS3 := DS2.below hb3 DS2.lt
 have DR3 := DR2.below hb3 DR2.lt
 clear s0 s1 s2 s3 hb3
 obtain ⟨s0, s1, s2, s3⟩ := DS3.four
 obtain ⟨f0, f1, f2, f3⟩ := DS3.four_frozen
 have hO4 := hO.store DS3 (.slice A1 n c1) (.slice A2 rn c2) (.slice A3 pn c3) (.slice A4 hn c4)
 have DS4 := DS3.store4 (.slice A1 n c1) (.slice A2 rn c2) (.slice A3 pn c3) (.slice A4 hn c4)
 have DR4 := DR3.far4 (g' := w.heap.size) (by omega) (.slice A1 n c1) (.slice A2 rn c2) (.slice A3 pn c3) (.slice A4 hn c4)
 have hb04 := below_block4 (g := w.heap.size) hb03 (Nat.le_refl _) (.slice A1 n c1) (.slice A2 rn c2) (.slice A3 pn c3) (.slice A4 hn c4)
 obtain ⟨d0, d1, d2, d3⟩ := DS4.four
 obtain ⟨g, rfl, gh, gc, gB⟩ := own_some hO4.a (by omega)
 have ge : p < (S.a.map (Value.int .u64)).length := by have := hR.lens.1; rw [List.length_map]; omega
 have gcc := hO4.a.cellAt p (by omega)
 rw [List.getElem?_eq_getElem ge] at gcc
 have gf := hO4.a.frozenAt p
 obtain ⟨q, rfl, qh, qc, qB⟩ := own_some hO4.r (by omega)
 have qe : O < (S.r.map (Value.int .i64)).length := by have := hR.lens.2.1; rw [List.length_map]; omega
 have qcc := hO4.r.cellAt O (by omega)
 rw [List.getElem?_eq_getElem qe] at qcc
 have qf := hO4.r.frozenAt O
 have gv : (S.a.map (Value.int .u64))[p] = .int .u64 v := by
  have h1 := HV.out
  obtain ⟨j1, j2⟩ := List.getElem?_eq_some_iff.1 h1
  rw [List.getElem_map, j2]
 rw [gv] at gcc
 have hO5 := (hO4.setR (p := O) (v := Y) qB).mono hb02.size
 have DS5 := DS4.far (p := ⟨q, O, none⟩) (by dsimp only; omega) (.int .i64 Y)
 have DR5 := DR4.far (p := ⟨q, O, none⟩) (by dsimp only; omega) (.int .i64 Y)
 have hb05 := hb04.setCell (p := ⟨q, O, none⟩) (by dsimp only; have := hb02.size; omega) (.int .i64 Y)
 obtain ⟨o0, o1, o2, o3⟩ := DS5.four
 obtain ⟨r0, r1, r2, r3⟩ := DR5.four
 obtain ⟨h0, h1, h2, h3⟩ := DR5.four_frozen
 clear hO4 hO gB qB
 go_wp2_with fail
 go_region
 all_goals
  go_wp2_with fail
  refine bodyPost_ret (v := .tuple #[.agg #[.slice (some ⟨g, 0, none⟩) n c1, .slice (some ⟨q, 0, none⟩) rn c2, .slice A3 pn c3, .slice A4 hn c4], .int .i64 0]) ?_ rfl ⟨(below_block4 hb05 (Nat.le_succ _) _ _ _ _).drew, _, c1, _, c2, A3, c3, A4, c4, rfl, (hO5.store DR5 _ _ _ _).drew⟩
  obtain ⟨z0, z1, z2, z3⟩ := (DR5.store4 (.slice (some ⟨g, 0, none⟩) n c1) (.slice (some ⟨q, 0, none⟩) rn c2) (.slice A3 pn c3) (.slice A4 hn c4)).drew.four
  simp only [results, Tryz.results121]
  go_simp
set_option maxRecDepth 100000 in
set_option maxHeartbeats 4000000 in
theorem refFn_bad (A : Option Addr) (n c : Nat) (RA : Option Addr) (rn rc : Nat) (PA : Option Addr) (pn pc : Nat) (HA : Option Addr) (hn hc : Nat) (S : St) (slot k other : Int) (w : World) (hR : StR w w.heap.size A n RA rn PA pn HA hn S) (hK : StK n c rn pn hn S) (hE : refE S slot k other ≠ 0) :
  Calls Tryz.prog 121 #[.agg #[.slice A n c, .slice RA rn rc, .slice PA pn pc, .slice HA hn hc], .int .i64 slot, .int .i64 k, .int .i64 other] w fun e w' => Below w.heap.size w w' ∧ e = .returned (.tuple #[.agg #[.slice none 0 0, .slice none 0 0, .slice none 0 0, .slice none 0 0], .int .i64 (refE S slot k other)]) := by
 have HB := Lib.hid (fun w hR => ref_bad A n c RA rn rc PA pn pc HA hn hc S slot k other w hR hK hE)
 have g1 : (refE S slot k other != 0) = true := by simpa using hE
 generalize refE S slot k other = F at *
 have hb0 := below_new w (.cells #[.slice A n c, .slice RA rn rc, .slice PA pn pc, .slice HA hn hc] 113)
 have hb1 := hb0.alloc hb0.size (.cells #[.slice none 0 0, .slice none 0 0, .slice none 0 0, .slice none 0 0] 113)
 have DS := (Blk.new w 113 #[.slice A n c, .slice RA rn rc, .slice PA pn pc, .slice HA hn hc]).alloc (.cells #[.slice none 0 0, .slice none 0 0, .slice none 0 0, .slice none 0 0] 113)
 have DR := Blk.new (w.alloc (.cells #[.slice A n c, .slice RA rn rc, .slice PA pn pc, .slice HA hn hc] 113)) 113 #[.slice none 0 0, .slice none 0 0, .slice none 0 0, .slice none 0 0]
 rw [World.size_alloc] at DR
 obtain ⟨s0, s1, s2, s3⟩ := DS.four
 clear hb0
 go_enter Tryz.func121, Tryz.ntmps121
 go_wp2_with fail
 refine (HB.out _ ((hR.below hb1).more hb1.size)).mono ?_
 rintro e w2 ⟨hb2, rfl⟩
 have hb02 := below_step hb1 hb2
 have DR2 := DR.below hb2 DR.lt
 obtain ⟨r0, r1, r2, r3⟩ := DR2.four
 obtain ⟨f0, f1, f2, f3⟩ := DR2.four_frozen
 clear s0 s1 s2 s3
 go_wp2_with fail
 refine bodyPost_ret (v := .tuple #[.agg #[.slice none 0 0, .slice none 0 0, .slice none 0 0, .slice none 0 0], .int .i64 F]) ?_ rfl ⟨below_block4 hb02 (Nat.le_succ _) _ _ _ _, rfl⟩
 obtain ⟨z0, z1, z2, z3⟩ := (DR2.store4 (.slice none 0 0) (.slice none 0 0) (.slice none 0 0) (.slice none 0 0)).four
 simp only [results, Tryz.results121]
 go_simp
set_option maxHeartbeats 400000 in
theorem isNaN_intP (x : Int) (w : World) : Calls Tryz.prog 93 #[.int .i64 x] w fun e w' => e = .returned (.bool false) ∧ w' = w := by
 go_enter Tryz.func93, Tryz.ntmps93
 go_wp2
 go_ret
 exact ⟨by first | rfl | simp, rfl⟩
def cmpI (x y : Int) : Int := if x < y then -1 else if y < x then 1 else 0
set_option maxHeartbeats 400000 in
theorem cmp_int (x y : Int) (w : World) : Calls Tryz.prog 211 #[.int .i64 x, .int .i64 y] w fun e w' => e = .returned (.int .i64 (cmpI x y)) ∧ w' = w := by
 have H := Lib.hid isNaN_intP
 unfold cmpI
 by_cases h1 : x < y
 ·have g1 : decide (x < y) = true := decide_eq_true h1
  rw [if_pos h1]
  go_enter Tryz.func211, Tryz.ntmps211
  go_wp2_with fail
  refine (H.out _ _).mono ?_
  rintro e w1 ⟨rfl, rfl⟩
  go_wp2_with fail
  refine (H.out _ _).mono ?_
  rintro e w1 ⟨rfl, rfl⟩
  go_wp2
  go_ret
  exact ⟨rfl, rfl⟩
 ·have g1 : decide (x < y) = false := decide_eq_false h1
  rw [if_neg h1]
  by_cases h2 : y < x
  ·have g2 : decide (y < x) = true := decide_eq_true h2
   rw [if_pos h2]
   go_enter Tryz.func211, Tryz.ntmps211
   go_wp2_with fail
   refine (H.out _ _).mono ?_
   rintro e w1 ⟨rfl, rfl⟩
   go_wp2_with fail
   refine (H.out _ _).mono ?_
   rintro e w1 ⟨rfl, rfl⟩
   go_wp2
   go_ret
   exact ⟨rfl, rfl⟩
  ·have g2 : decide (y < x) = false := decide_eq_false h2
   rw [if_neg h2]
   go_enter Tryz.func211, Tryz.ntmps211
   go_wp2_with fail
   refine (H.out _ _).mono ?_
   rintro e w1 ⟨rfl, rfl⟩
   go_wp2_with fail
   refine (H.out _ _).mono ?_
   rintro e w1 ⟨rfl, rfl⟩
   go_wp2
   go_ret
   exact ⟨rfl, rfl⟩
set_option maxHeartbeats 400000 in
theorem find1_any (x y at_ : Int) (w : World) : Calls Tryz.prog 210 #[.agg #[.int .i64 x, .int .i64 y], .int .i64 at_] w fun e w' => e = .returned (.int .i64 (cmpI x at_)) ∧ Below w.heap.size w w' := by
 have D0 := Blk.new w 262 #[.int .i64 x, .int .i64 y]
 have d0 := D0.cell 0
 simp only [List.getElem?_toArray, List.getElem?_cons_zero] at d0
 have hbn := below_new w (.cells #[.int .i64 x, .int .i64 y] 262)
 have H := Lib.hid (fun w => cmp_int x at_ w)
 generalize cmpI x at_ = q at *
 go_enter Tryz.func210, Tryz.ntmps210
 go_wp2_with fail
 refine (H.out _).mono ?_
 rintro e w1 ⟨rfl, rfl⟩
 go_wp2
 go_ret
 exact ⟨rfl, hbn⟩
structure PlaceOf (l : List Rn) (x : Int) (i : Nat) : Prop where
 le : i ≤ l.length
 low : ∀ (k : Nat) (y : Rn), k < i → l[k]? = some y → y.loc < x
 high : ∀ (k : Nat) (y : Rn), i ≤ k → l[k]? = some y → x ≤ y.loc
theorem PlaceOf.unique {l : List Rn} {x : Int} {i j : Nat} (h : PlaceOf l x i) (h' : PlaceOf l x j) : i = j := by
 rcases Nat.lt_trichotomy i j with h1 | h1 | h1
 ·have h2 : i < l.length := by have := h'.le; omega
  have a := h'.low i _ h1 (List.getElem?_eq_getElem h2)
  have b := h.high i _ (Nat.le_refl _) (List.getElem?_eq_getElem h2)
  omega
 ·exact h1
 ·have h2 : j < l.length := by have := h.le; omega
  have a := h.low j _ h1 (List.getElem?_eq_getElem h2)
  have b := h'.high j _ (Nat.le_refl _) (List.getElem?_eq_getElem h2)
  omega
def hasAt (l : List Rn) (x : Int) (i : Nat) : Bool := (l[i]?).any (fun y => decide (y.loc = x))
set_option maxRecDepth 100000 in
set_option maxHeartbeats 2000000 in
theorem bsearch_any (A : Option Addr) (n c : Nat) (l : List Rn) (x : Int) (w : World) (hr : Reads w w.heap.size 2 A n (runsC l)) (hn : n ≤ 1000000) (hs : l.Pairwise (fun x y => x.loc < y.loc)) :
  Calls Tryz.prog 209 #[.slice A n c, .int .i64 x, .func (.func 210) #[] #[]] w fun e w' => Below w.heap.size w w' ∧ ∃ i : Nat, PlaceOf l x i ∧ e = .returned (.tuple #[.int .i64 i, .bool (hasAt l x i)]) := by
 have hl : l.length = n := by have := hr.1; rw [runsC_length] at this; omega
 have HL := Lib.hid hl
 have HS : Hid (∀ (i j : Nat) (y z : Rn), i ≤ j → l[i]? = some y → l[j]? = some z → y.loc ≤ z.loc) := by
  intro i j y z hij hy hz
  obtain ⟨q1, rfl⟩ := List.getElem?_eq_some_iff.1 hy
  obtain ⟨q2, rfl⟩ := List.getElem?_eq_some_iff.1 hz
  rcases Nat.lt_or_ge i j with h | h
  ·have := List.pairwise_iff_getElem.1 hs i j q1 q2 h; omega
  ·have : i = j := by omega
   subst this
   exact Int.le_refl _
 have hcf := fun (x y : Value) (w : World) => (plain_of (fn := Tryz.f210) Tryz.func210 (by kernel_rfl) (by kernel_rfl)) #[x, y] w
 have HC := Lib.hid find1_any
 clear hl hs
 go_enter Tryz.func209, Tryz.ntmps209
 go_wp2
 go_loopw [9, 10, 11] (fun u v _ wr => ∃ lo hi : Nat, lo ≤ hi ∧ hi ≤ n ∧ u = .int .i64 lo ∧ v = .int .i64 hi ∧ Hid (∀ (k : Nat) (y : Rn), k < lo → l[k]? = some y → y.loc < x) ∧ Hid (∀ (k : Nat) (y : Rn), hi ≤ k → l[k]? = some y → x ≤ y.loc) ∧ Below w.heap.size w wr) (fun u v _ _ => (intOf v).toNat - (intOf u).toNat)
 case atStart => exact ⟨0, n, Nat.zero_le _, Nat.le_refl _, rfl, rfl, (by intro k y h; omega), (by
  intro k y h hy
  have := (List.getElem?_eq_some_iff.1 hy).1
  have := HL.out
  omega), Below.refl _ _⟩
 case round =>
  obtain ⟨lo, hi, hlh, hhn, rfl, rfl, HLo, HHi, hb⟩ := hrel
  by_cases hlt : lo < hi
  ·obtain ⟨h, hh⟩ : ∃ h, h = (lo + hi) / 2 := ⟨_, rfl⟩
   obtain ⟨s, hs⟩ : ∃ s, s = lo + hi := ⟨_, rfl⟩
   have hh2 : h = s / 2 := by rw [hh, hs]
   have hlo : lo ≤ h := by omega
   have hhi : h < hi := by omega
   have hhn2 : h < n := by omega
   have w1 : IntKind.i64.wrap ((lo : Int) + hi) = (s : Int) := by rw [IntWalk.i64_in _ (by omega)]; omega
   have w2 : IntKind.u64.wrap (s : Int) = (s : Int) := by simp [IntKind.wrap, IntKind.signed, IntKind.bits]; omega
   have w3 : (s : Int) / 2 = (h : Int) := by omega
   have w4 : IntKind.i64.wrap (h : Int) = (h : Int) := IntWalk.i64_in _ (by omega)
   have w5 : IntKind.i64.wrap ((h : Int) + 1) = (h : Int) + 1 := IntWalk.i64_in _ (by omega)
   have w6 : IntKind.u64.wrap (h : Int) = (h : Int) := by simp [IntKind.wrap, IntKind.signed, IntKind.bits]; omega
   have hh3 : s / 2 = h := hh2.symm
   have hsl : s ≤ 2000000 := by omega
   obtain ⟨ad, y, rfl, had, hy, c0, c1⟩ := (hr.below hb).run hhn2
   have HY := Lib.hid hy
   obtain ⟨yl, yn⟩ := y
   have HC1 := Lib.hid (HC.out yl yn x wr)
   dsimp only at c0 c1
   clear hh hs hh2 hy
   by_cases hc : yl < x
   ·have hcv : cmpI yl x = -1 := by unfold cmpI; rw [if_pos hc]
    rw [hcv] at HC1
    have HLo2 : Hid (∀ (k : Nat) (z : Rn), k < h + 1 → l[k]? = some z → z.loc < x) := fun k z hk hz => by
     have := HS.out k h z ⟨yl, yn⟩ (by omega) hz HY.out
     dsimp only at this
     omega
    clear hcv
    go_wp2_with fail
    refine HC1.out.mono ?_
    rintro e w7 ⟨rfl, hb7⟩
    have hb2 := hb.trans (hb7.mono hb.size)
    go_wp2
    go_roundw
    case rel => exact ⟨h + 1, hi, by omega, hhn, by go_num, rfl, HLo2, HHi, hb2⟩
    case measure => simp [intOf]; omega
   ·have hcv : decide (cmpI yl x < 0) = false := by unfold cmpI; rw [if_neg hc]; split <;> decide
    have HHi2 : Hid (∀ (k : Nat) (z : Rn), h ≤ k → l[k]? = some z → x ≤ z.loc) := fun k z hk hz => by
     have := HS.out h k ⟨yl, yn⟩ z hk HY.out hz
     dsimp only at this
     omega
    generalize cmpI yl x = q at *
    go_wp2_with fail
    refine HC1.out.mono ?_
    rintro e w7 ⟨rfl, hb7⟩
    have hb2 := hb.trans (hb7.mono hb.size)
    go_wp2
    go_roundw
    case rel => exact ⟨lo, h, hlo, by omega, rfl, by go_num, HLo, HHi2, hb2⟩
    case measure => simp [intOf]; omega
  ·have hle : hi = lo := by omega
   subst hle
   have HPl : Hid (PlaceOf l x hi) := ⟨by rw [HL.out]; exact hhn, HLo.out, HHi.out⟩
   have g0 : decide (hi < hi) = false := decide_eq_false (by omega)
   by_cases hend : hi < n
   ·obtain ⟨ad, y, rfl, had, hy, c0, c1⟩ := (hr.below hb).run hend
    obtain ⟨yl, yn⟩ := y
    have HC1 := Lib.hid (HC.out yl yn x wr)
    dsimp only at c0 c1
    have g1 : decide (hi < n) = true := decide_eq_true hend
    have hge : x ≤ yl := HHi.out hi ⟨yl, yn⟩ (Nat.le_refl _) hy
    have hcv : (cmpI yl x == 0) = hasAt l x hi := by
     unfold hasAt cmpI
     rw [hy, if_neg (by omega)]
     by_cases h2 : x < yl
     ·rw [if_pos h2]; simp; omega
     ·rw [if_neg h2]; simp; omega
    have HCV := Lib.hid hcv
    clear hy hge hcv
    generalize cmpI yl x = q at *
    go_wp2_with fail
    refine HC1.out.mono ?_
    rintro e w7 ⟨rfl, hb7⟩
    have hb2 := hb.trans (hb7.mono hb.size)
    go_wp2
    go_ret2
    exact ⟨hb2, hi, HPl.out, by rw [← HCV.out]; rfl⟩
   ·have g1 : decide (hi < n) = false := decide_eq_false hend
    have HCV : Hid (hasAt l x hi = false) := by
     show _ = _
     unfold hasAt
     rw [List.getElem?_eq_none (by rw [HL.out]; omega)]
     rfl
    go_wp2
    go_ret2
    exact ⟨hb, hi, HPl.out, by rw [HCV.out]; rfl⟩
def findE (l : List Rn) (x : Int) : Int := if pinE l ≠ 0 then pinE l else if thereB x = true then 0 else 4
theorem findE_zero {l : List Rn} {x : Int} : findE l x = 0 ↔ PinsOk l ∧ thereB x = true := by
 unfold findE
 rw [← pinE_ok]
 by_cases h : pinE l = 0
 ·rw [if_neg (by simp [h])]
  by_cases h2 : thereB x = true
  ·rw [if_pos h2]; simp [h, h2]
  ·rw [if_neg h2]; simp [h2]
 ·rw [if_pos h]; simp [h]
def countP (l : List Rn) (x : Int) : Int := ((l.find? (fun y => decide (y.loc = x))).map (·.len)).getD 0
theorem PinsOk.same {l : List Rn} (h : PinsOk l) {y z : Rn} (hy : y ∈ l) (hz : z ∈ l) (e : y.loc = z.loc) : y = z := by
 obtain ⟨i, hi⟩ := List.mem_iff_getElem?.1 hy
 obtain ⟨j, hj⟩ := List.mem_iff_getElem?.1 hz
 obtain ⟨q1, rfl⟩ := List.getElem?_eq_some_iff.1 hi
 obtain ⟨q2, rfl⟩ := List.getElem?_eq_some_iff.1 hj
 rcases Nat.lt_trichotomy i j with h1 | h1 | h1
 ·have := List.pairwise_iff_getElem.1 h.rise i j q1 q2 h1; omega
 ·subst h1; rfl
 ·have := List.pairwise_iff_getElem.1 h.rise j i q2 q1 h1; omega
theorem countP_some {l : List Rn} (h : PinsOk l) {y : Rn} (hy : y ∈ l) : countP l y.loc = y.len := by
 unfold countP
 cases hf : l.find? (fun z => decide (z.loc = y.loc)) with
 | none => exact absurd (List.find?_eq_none.1 hf y hy) (by simp)
 | some z =>
   have h1 := List.find?_some hf
   have h2 := List.mem_of_find?_eq_some hf
   simp only [decide_eq_true_eq] at h1
   rw [h.same h2 hy h1]
   rfl
theorem countP_none {l : List Rn} {x : Int} (h : ∀ y ∈ l, y.loc ≠ x) : countP l x = 0 := by
 unfold countP
 rw [List.find?_eq_none.2 (fun y hy => by simpa using h y hy)]
 rfl
theorem place_none {l : List Rn} {x : Int} {i : Nat} (hs : l.Pairwise (fun x y => x.loc < y.loc)) (h : PlaceOf l x i) (hh : hasAt l x i = false) : ∀ y ∈ l, y.loc ≠ x := by
 intro y hy e
 obtain ⟨j, hj⟩ := List.mem_iff_getElem?.1 hy
 rcases Nat.lt_trichotomy j i with h1 | h1 | h1
 ·have := h.low j y h1 hj; omega
 ·subst h1
  unfold hasAt at hh
  rw [hj] at hh
  simp [e] at hh
 ·obtain ⟨q, rfl⟩ := List.getElem?_eq_some_iff.1 hj
  have hi : i < l.length := by omega
  have h2 := h.high i _ (Nat.le_refl _) (List.getElem?_eq_getElem hi)
  have h3 := List.pairwise_iff_getElem.1 hs i j hi q h1
  omega
theorem hasAt_some {l : List Rn} {x : Int} {i : Nat} (h : hasAt l x i = true) : ∃ y, l[i]? = some y ∧ y.loc = x := by
 unfold hasAt at h
 cases hl : l[i]? with
 | none => rw [hl] at h; cases h
 | some y => rw [hl] at h; exact ⟨y, rfl, by simpa using h⟩
theorem bad_no {x y : Int} : pinBad ⟨x, y⟩ = false ↔ (thereB x = true ∧ 1 ≤ y ∧ y ≤ 1000000) := by
 unfold pinBad thereB
 simp only [Bool.or_eq_false_iff, Bool.not_eq_false', decide_eq_false_iff_not, and_assoc]
 constructor
 ·rintro ⟨a, b, c⟩; exact ⟨a, by omega, by omega⟩
 ·rintro ⟨a, b, c⟩; exact ⟨a, by omega, by omega⟩
def moreP (l : List Rn) (x : Int) (i : Nat) (v : Int) : List Rn := if hasAt l x i = true then l.set i ⟨x, v⟩ else l.take i ++ ⟨x, v⟩ :: l.drop i
theorem moreP_mem {l : List Rn} {x v : Int} {i : Nat} (hi : PlaceOf l x i) (hs : l.Pairwise (fun x y => x.loc < y.loc)) (z : Rn) : z ∈ moreP l x i v ↔ z = ⟨x, v⟩ ∨ z ∈ l ∧ z.loc ≠ x := by
 unfold moreP
 by_cases h : hasAt l x i = true
 ·obtain ⟨y, hy, hyx⟩ := hasAt_some h
  obtain ⟨q, rfl⟩ := List.getElem?_eq_some_iff.1 hy
  rw [if_pos h]
  rw [List.mem_iff_getElem?]
  constructor
  ·rintro ⟨j, hj⟩
   by_cases hji : j = i
   ·subst hji
    rw [List.getElem?_set_self q] at hj
    exact .inl (by injection hj with hj; exact hj.symm)
   ·rw [List.getElem?_set_ne (by omega)] at hj
    obtain ⟨q2, rfl⟩ := List.getElem?_eq_some_iff.1 hj
    refine .inr ⟨List.getElem_mem q2, fun e => ?_⟩
    rcases Nat.lt_or_ge j i with h1 | h1
    ·have := List.pairwise_iff_getElem.1 hs j i q2 q h1; omega
    ·have := List.pairwise_iff_getElem.1 hs i j q q2 (by omega); omega
  ·rintro (rfl | ⟨hz, hzx⟩)
   ·exact ⟨i, List.getElem?_set_self q⟩
   ·obtain ⟨j, hj⟩ := List.mem_iff_getElem?.1 hz
    refine ⟨j, ?_⟩
    rw [List.getElem?_set_ne ?_]
    ·exact hj
    ·rintro rfl
     obtain ⟨_, rfl⟩ := List.getElem?_eq_some_iff.1 hj
     exact hzx hyx
 ·rw [if_neg h]
  have hn := place_none hs hi (by simpa using h)
  simp only [List.mem_append, List.mem_cons]
  have htd : z ∈ l ↔ z ∈ l.take i ∨ z ∈ l.drop i := by rw [← List.mem_append, List.take_append_drop]
  constructor
  ·rintro (h1 | rfl | h1)
   ·exact .inr ⟨htd.2 (.inl h1), hn z (htd.2 (.inl h1))⟩
   ·exact .inl rfl
   ·exact .inr ⟨htd.2 (.inr h1), hn z (htd.2 (.inr h1))⟩
  ·rintro (rfl | ⟨h1, -⟩)
   ·exact .inr (.inl rfl)
   ·rcases htd.1 h1 with h2 | h2
    ·exact .inl h2
    ·exact .inr (.inr h2)
theorem set_rise {l : List Rn} {i : Nat} {y : Rn} {v : Int} (hs : l.Pairwise (fun x y => x.loc < y.loc)) (hy : l[i]? = some y) : (l.set i ⟨y.loc, v⟩).Pairwise (fun x y => x.loc < y.loc) := by
 obtain ⟨q, rfl⟩ := List.getElem?_eq_some_iff.1 hy
 rw [List.pairwise_iff_getElem]
 intro a b ha hb hab
 rw [List.getElem_set, List.getElem_set]
 simp only [List.length_set] at ha hb
 have h := List.pairwise_iff_getElem.1 hs a b ha hb hab
 split
 ·rename_i h1
  subst h1
  split
  ·omega
  ·exact h
 ·split
  ·rename_i h2
   subst h2
   exact h
  ·exact h
theorem ins_rise {l : List Rn} {i : Nat} {x v : Int} (hs : l.Pairwise (fun x y => x.loc < y.loc)) (hi : PlaceOf l x i) (hn : ∀ y ∈ l, y.loc ≠ x) : (l.take i ++ ⟨x, v⟩ :: l.drop i).Pairwise (fun x y => x.loc < y.loc) := by
 have hs2 : (l.take i ++ l.drop i).Pairwise (fun x y => x.loc < y.loc) := by rw [List.take_append_drop]; exact hs
 rw [List.pairwise_append] at hs2 ⊢
 obtain ⟨h1, h2, h3⟩ := hs2
 refine ⟨h1, List.pairwise_cons.2 ⟨fun y hy => ?_, h2⟩, fun a ha b hb => ?_⟩
 ·obtain ⟨k, hk⟩ := List.mem_iff_getElem?.1 hy
  rw [List.getElem?_drop] at hk
  have := hi.high (i + k) y (by omega) hk
  have := hn y (List.mem_of_mem_drop hy)
  dsimp only
  omega
 ·rcases List.mem_cons.1 hb with rfl | hb
  ·rw [List.mem_take_iff_getElem] at ha
   obtain ⟨k, hk, rfl⟩ := ha
   exact hi.low k _ (by omega) (List.getElem?_eq_getElem (by omega))
  ·exact h3 a ha b hb
theorem PinsOk.more {l : List Rn} {x v : Int} {i : Nat} (h : PinsOk l) (hi : PlaceOf l x i) (hx : thereB x = true) (h1 : 1 ≤ v) (h2 : v ≤ 1000000) (hl : hasAt l x i = true ∨ l.length < 16) : PinsOk (moreP l x i v) := by
 refine ⟨?_, fun z hz => ?_, ?_⟩
 ·unfold moreP
  have := h.len
  split
  ·rw [List.length_set]; exact this
  ·rename_i hh
   have h3 : l.length < 16 := hl.resolve_left hh
   rw [List.length_append, List.length_cons, List.length_take, List.length_drop]
   have := hi.le
   omega
 ·rcases (moreP_mem hi h.rise z).1 hz with rfl | ⟨hz, -⟩
  ·exact bad_no.2 ⟨hx, h1, h2⟩
  ·exact h.ok z hz
 ·unfold moreP
  split
  ·rename_i hh
   obtain ⟨y, hy, rfl⟩ := hasAt_some hh
   exact set_rise h.rise hy
  ·rename_i hh
   exact ins_rise h.rise hi (place_none h.rise hi (by simpa using hh))
def lessP (l : List Rn) (i : Nat) (x v : Int) : List Rn := if v = 0 then l.take i ++ l.drop (i + 1) else l.set i ⟨x, v⟩
theorem take_preP {α : Type} (Z : List α) (I : Nat) (vs : List α) (h : I ≤ Z.length) : (splice Z I vs).take (I + vs.length) = Z.take I ++ vs := by
 unfold splice
 rw [← List.append_assoc, List.take_append_of_le_length (by simp; omega), List.take_of_length_le (by simp; omega)]
theorem spliceAP {α : Type} (Z : List α) (I : Nat) (vs T : List α) (h : I + vs.length + T.length ≤ Z.length) :
  (splice (splice Z I vs) (I + vs.length) T).take (I + vs.length + T.length) = Z.take I ++ (vs ++ T) := by
 rw [take_preP _ _ _ (by rw [length_splice _ _ _ (by omega)]; omega), take_preP _ _ _ (by omega), List.append_assoc]
theorem spliceBP {α : Type} (Z : List α) (I : Nat) (vs T : List α) (h : I + vs.length + T.length ≤ Z.length) :
  (splice (splice Z (I + vs.length) T) I vs).take (I + vs.length + T.length) = Z.take I ++ (vs ++ T) := by
 have h1 : (splice Z (I + vs.length) T).take I = Z.take I := by
  unfold splice
  rw [List.take_append_of_le_length (by simp; omega), List.take_take, Nat.min_eq_left (by omega)]
 have h2 : ((splice Z (I + vs.length) T).drop (I + vs.length)).take T.length = T := by
  unfold splice
  rw [List.drop_append_of_le_length (by simp; omega), List.drop_of_length_le (by simp; omega), List.nil_append, List.take_left]
 unfold splice at h1 h2 ⊢
 rw [h1, ← List.append_assoc, List.take_append, List.take_of_length_le (by simp; omega)]
 rw [show I + vs.length + T.length - (Z.take I ++ vs).length = T.length by simp; omega, h2, List.append_assoc]
theorem k_size_pin : (Tryz.prog.info? 262).map (·.size) = some 2 := by kernel_rfl
set_option maxRecDepth 100000 in
set_option maxHeartbeats 1000000 in
theorem insert_endP (base : Nat) (A : Option Addr) (n c : Nat) (xs : List Value) (gv : Nat) (vs : List Value) (w : World)
  (hown : w.ownsRow base 262 2 (.slice A n c) n xs) (hbase : base ≤ w.heap.size) (hn : n ≤ 1000)
  (hv : Blk w gv 262 vs.toArray) (o2 : ∀ u ∈ vs, u.oneCell' = true) (hvl : vs.length = 2) :
  Calls Tryz.prog 189 #[.slice A n c, .int .i64 n, .slice (some ⟨gv, 0, none⟩) 1 1] w fun e w' => ∃ A' c', e = .returned (.slice A' (n + 1) c') ∧ w'.ownsRow base 262 2 (.slice A' (n + 1) c') (n + 1) (xs ++ vs) ∧ Below base w w' := by
 obtain ⟨i0, hi, hz0, hz1, hz2⟩ := info_parts info_pin
 have hrv : Reads w w.heap.size 2 (some ⟨gv, 0, none⟩) 1 vs := ⟨by omega, fun _ => ⟨_, rfl, hv.lt, fun j u hj => by
  rw [Addr.add_lit, Nat.zero_add, hv.cell]
  simpa using hj⟩⟩
 clear hv
 rcases A with _ | ad
 ·have hm : n = 0 := by
   rcases hown.2 with ⟨h2, rfl⟩ | ⟨g, cap, cur, hv, -⟩
   ·rfl
   ·cases hv
  subst hm
  go_enter Tryz.func189, Tryz.ntmps189
  go_wp2_with (at_builtin; refine wpList_append_any _ rfl (.tmp 23) (.tmp 24) 109 rfl base 262 i0 _ 2 16 Tryz.underlying109 hi hz0 hz1 hz2 rfl (by decide) (.slice none 0 c) 0 xs rfl hown w.heap.size (some ⟨gv, 0, none⟩) 1 1 vs rfl hrv o2 (by simp [maxLen]) (by omega) hbase ?_; rintro v' w2 hown2 hgr hbl2 -; obtain ⟨A2', c2', rfl⟩ := own_slice hown2)
  go_ret
  exact ⟨_, _, rfl, hown2, (Below.refl base w).grown hgr hbase (fun g hg => (hown.lt g hg).1)⟩
 ·obtain ⟨g, rfl⟩ : ∃ g, ad = ⟨g, 0, none⟩ := by
   rcases hown.2 with ⟨h2, -⟩ | ⟨g, cap, cur, hv, -⟩
   ·cases h2
   ·injection hv with h1 h2 h3; injection h1 with h1; exact ⟨g, h1⟩
  have hnc := own_cap hown
  have wn : IntKind.i64.wrap (n : Int) = n := IntWalk.i64_in _ (by omega)
  go_enter Tryz.func189, Tryz.ntmps189
  go_wp2_with (at_builtin; refine wpList_append_any _ rfl (.tmp 23) (.tmp 24) 109 rfl base 262 i0 _ 2 16 Tryz.underlying109 hi hz0 hz1 hz2 rfl (by decide) (.slice (some ⟨g, 0, none⟩) n c) n xs rfl hown w.heap.size (some ⟨gv, 0, none⟩) 1 1 vs rfl hrv o2 (by simp [maxLen]; omega) (by omega) hbase ?_; rintro v' w2 hown2 hgr hbl2 -; obtain ⟨A2', c2', rfl⟩ := own_slice hown2)
  all_goals
   go_ret
   exact ⟨_, _, rfl, hown2, (Below.refl base w).grown hgr hbase (fun g hg => (hown.lt g hg).1)⟩
theorem splice_lenP {α : Type} (Z : List α) (I : Nat) (cs : List α) (h : I + cs.length ≤ Z.length) : (splice Z I cs).length = Z.length := length_splice Z I cs h
set_option maxRecDepth 100000 in
set_option maxHeartbeats 1000000 in
theorem insert_pin_in (base g n c i : Nat) (xs : List Value) (gv : Nat) (vs : List Value) (w : World)
  (hown : w.ownsRow base 262 2 (.slice (some ⟨g, 0, none⟩) n c) n xs) (hi : i < n) (hroom : n + 1 ≤ c) (hn : n ≤ 1000)
  (hv : Blk w gv 262 vs.toArray) (hne : gv ≠ g) (o1 : ∀ u ∈ xs, u.oneCell' = true) (o2 : ∀ u ∈ vs, u.oneCell' = true) (hvl : vs.length = 2) :
  Calls Tryz.prog 189 #[.slice (some ⟨g, 0, none⟩) n c, .int .i64 i, .slice (some ⟨gv, 0, none⟩) 1 1] w fun e w' => ∃ A' c', e = .returned (.slice A' (n + 1) c') ∧ w'.ownsRow base 262 2 (.slice A' (n + 1) c') (n + 1) (xs.take (i * 2) ++ (vs ++ xs.drop (i * 2))) ∧ Below base w w' := by
 obtain ⟨cur, hbg, hg, hnc, hcm, hcl, htk⟩ := own_open hown
 have hxl : xs.length = n * 2 := hown.1
 obtain ⟨i1, hi1⟩ : ∃ i1, i1 = i + 1 := ⟨_, rfl⟩
 obtain ⟨n1, hn1⟩ : ∃ n1, n1 = n + 1 := ⟨_, rfl⟩
 obtain ⟨T, hT⟩ : ∃ T, T = xs.drop (i * 2) := ⟨_, rfl⟩
 have hTl : T.length = (n - i) * 2 := by rw [hT, List.length_drop, hxl]; omega
 have oT : ∀ u ∈ T, u.oneCell' = true := fun u hu => o1 u (by rw [hT] at hu; exact List.mem_of_mem_drop hu)
 have hTc : ∀ j v, T[j]? = some v → cur[i * 2 + j]? = some v := by
  intro j v hj
  rw [hT, List.getElem?_drop, ← htk, List.getElem?_take] at hj
  split at hj
  ·exact hj
  ·cases hj
 obtain ⟨Y1, hY1⟩ : ∃ Y1, Y1 = splice cur (i * 2 + 2) T := ⟨_, rfl⟩
 obtain ⟨Y2, hY2⟩ : ∃ Y2, Y2 = splice Y1 (i * 2) vs := ⟨_, rfl⟩
 have hY1l : Y1.length = c * 2 := by rw [hY1, splice_lenP _ _ _ (by omega), hcl]
 have hY2l : Y2.length = c * 2 := by rw [hY2, splice_lenP _ _ _ (by omega), hY1l]
 have hfin : Y2.take ((n + 1) * 2) = xs.take (i * 2) ++ (vs ++ T) := by
  have := spliceBP cur (i * 2) vs T (by omega)
  rw [hvl, hTl, show i * 2 + 2 + (n - i) * 2 = (n + 1) * 2 by omega, ← hY1, ← hY2] at this
  rw [this, ← htk, List.take_take, Nat.min_eq_left (by omega)]
 rw [← hT, ← hfin]
 obtain ⟨W1, hW1⟩ : ∃ W1, W1 = w.drew.setRow g Y1.toArray := ⟨_, rfl⟩
 have hg1 : W1.heap[g]? = some (.cells Y1.toArray 262 (0, 0)) := by rw [hW1]; exact setRow_heap w.drew g _ _ _ _ hg
 have hcp1 : ∀ ty dc sc, (Builtin.copy_ #[109, 109] ty #[.slice (some ⟨g, i1 * 2, none⟩) (n1 - i1) dc, .slice (some ⟨g, i * 2, none⟩) (n1 - i) sc]).run Tryz.prog w.drew = .ok (goInt (n - i : Nat)) W1 := fun ty dc sc => by
  rw [hW1, hY1]
  have := run_copyK (P := Tryz.prog) w.drew 109 109 ty 262 2 g (i * 2 + 2) (n1 - i1) dc ⟨g, i * 2, none⟩ (n1 - i) sc (n - i) cur 262 T Tryz.underlying109 k_size_pin hg (by simp only [Nat.min_def]; split <;> omega) hTl
   (fun j v hj => by rw [Addr.add_lit, cell_of_row w.drew _ _ _ _ _ hg]; simpa using hTc j v hj) (by omega) oT
  rw [show i1 * 2 = i * 2 + 2 by omega]
  exact this
 obtain ⟨W2, hW2⟩ : ∃ W2, W2 = W1.setRow g Y2.toArray := ⟨_, rfl⟩
 have hg2 : W2.heap[g]? = some (.cells Y2.toArray 262 (0, 0)) := by rw [hW2]; exact setRow_heap W1 g _ _ _ _ hg1
 have hcp2 : ∀ ty dc, (Builtin.copy_ #[109, 109] ty #[.slice (some ⟨g, i * 2, none⟩) (n1 - i) dc, .slice (some ⟨gv, 0, none⟩) 1 1]).run Tryz.prog W1 = .ok (goInt (1 : Nat)) W2 := fun ty dc => by
  rw [hW2, hY2]
  refine run_copyK (P := Tryz.prog) W1 109 109 ty 262 2 g (i * 2) (n1 - i) dc ⟨gv, 0, none⟩ 1 1 1 Y1 262 vs Tryz.underlying109 k_size_pin hg1 (by simp only [Nat.min_def]; split <;> omega) (by omega) (fun j v hj => ?_) (by omega) o2
  rw [Addr.add_lit, Nat.zero_add, hW1, cell_setRow_other _ _ _ _ (by exact hne)]
  have := hv.cell j
  rw [List.getElem?_toArray] at this
  exact this.trans hj
 have hb2 : Below base w W2 := by
  rw [hW2, hW1]
  exact below_setRow (below_setRow (Below.refl base w).drew hbg _) hbg _
 have hown2 : W2.ownsRow base 262 2 (.slice (some ⟨g, 0, none⟩) (n + 1) c) (n + 1) (Y2.take ((n + 1) * 2)) := own_close Y2 hbg hg2 hroom hcm hY2l
 have hgl : g < w.heap.size := (Array.getElem?_eq_some_iff.1 hg).1
 have hov : ∀ o la lb cb, (callFunc 212 #[.slice (some ⟨gv, 0, none⟩) 1 la, .slice (some ⟨g, o, none⟩) lb cb]).run Tryz.prog w = .ok (.value (.bool false)) w := fun o la lb cb => by
  have hsa : w.shape? gv = some (262, vs.length) := by
   have : w.heap[gv]? = some (.cells vs.toArray 262 (0, 0)) := hv
   simp [World.shape?, this]
  have hsb : w.shape? g = some (262, cur.length) := by simp [World.shape?, hg]
  rw [run_callFunc_extern Tryz.func212 (by kernel_rfl) (by kernel_rfl) (by kernel_rfl) (e := Extern.SlicesOverlaps.overlaps #[109, 109] #[4]) (by kernel_rfl),
   Lib.run_overlaps_apart w 109 4 262 Tryz.underlying109 2 (fun w => by
    obtain ⟨i0, hi, hz0, hz1, hz2⟩ := info_parts info_pin
    simp [sizeOf, typeInfo, hi, hz1]) ⟨gv, 0, none⟩ ⟨g, o, none⟩ 1 la lb cb hne _ _ _ _ hsa hsb (by omega) (hv.frozen 0) (hv.frozen _)]
  rfl
 have wi : IntKind.i64.wrap ((i : Int) + 1) = (i1 : Int) := by rw [IntWalk.i64_in _ (by omega)]; omega
 have wn : IntKind.i64.wrap ((n : Int) + 1) = (n1 : Int) := by rw [IntWalk.i64_in _ (by omega)]; omega
 have q1 : ¬ (i : Int) = n := by omega
 have q2 : i ≤ n := by omega
 have q3 : ¬ c = i := by omega
 have q4 : i1 ≤ n1 := by omega
 have q5 : ¬ c = i1 := by omega
 have q6 : n1 ≤ c := by omega
 have q7 : i ≤ n1 := by omega
 have q8 : decide ((c : Int) < n1) = false := decide_eq_false (by omega)
 have q9 : decide (c < n1) = false := decide_eq_false (by omega)
 have q10 : ((i : Int) == n) = false := by simp; omega
 have q11 : (i == n) = false := by simp; omega
 rw [← hn1] at hown2
 rw [← hn1]
 have HO := Lib.hid hown2
 have HB := Lib.hid hb2
 have HC1 := Lib.hid hcp1
 have HC2 := Lib.hid hcp2
 clear hi1 hn1 hown2 hb2 hcp1 hcp2 hfin hY2 hY1 hTc hTl hT htk hg1 hg2 hW1 hW2
 go_enter Tryz.func189, Tryz.ntmps189
 go_wp2_with (simp only [hov])
 go_region_law (refine step_copy_run rfl (.tmp 73) (.tmp 76) 109 109 rfl (.slice (some ⟨g, i1 * 2, none⟩) (n1 - i1) (c - i1)) (.slice (some ⟨g, i * 2, none⟩) (n1 - i) (c - i)) (by simp [Act.eval, Act.put]) (by simp [Act.eval, Act.put]) (HC1.out _ _ _) ?_)
 all_goals
  go_wp2_with (refine wpList_copy_run _ rfl (.tmp 80) (.tmp 81) 109 109 rfl (.slice (some ⟨g, i * 2, none⟩) (n1 - i) (c - i)) (.slice (some ⟨gv, 0, none⟩) 1 1) rfl rfl (HC2.out _ _) ?_)
  go_ret
  exact ⟨_, _, rfl, HO.out, HB.out⟩
set_option maxRecDepth 100000 in
set_option maxHeartbeats 1000000 in
theorem insert_pin_grow (base g n c i : Nat) (xs : List Value) (gv : Nat) (vs : List Value) (w : World)
  (hown : w.ownsRow base 262 2 (.slice (some ⟨g, 0, none⟩) n c) n xs) (hbase : base ≤ w.heap.size) (hi : i < n) (hroom : c < n + 1) (hn : n ≤ 1000)
  (hv : Blk w gv 262 vs.toArray) (o1 : ∀ u ∈ xs, u.oneCell' = true) (o2 : ∀ u ∈ vs, u.oneCell' = true) (hvl : vs.length = 2) :
  Calls Tryz.prog 189 #[.slice (some ⟨g, 0, none⟩) n c, .int .i64 i, .slice (some ⟨gv, 0, none⟩) 1 1] w fun e w' => ∃ A' c', e = .returned (.slice A' (n + 1) c') ∧ w'.ownsRow base 262 2 (.slice A' (n + 1) c') (n + 1) (xs.take (i * 2) ++ (vs ++ xs.drop (i * 2))) ∧ Below base w w' := by
 obtain ⟨cur, hbg, hg, hnc, hcm, hcl, htk⟩ := own_open hown
 obtain rfl : c = n := by omega
 obtain ⟨i0, hi0, hz0, hz1, hz2⟩ := info_parts info_pin
 have hxl : xs.length = c * 2 := hown.1
 obtain rfl : cur = xs := by rw [← htk, List.take_of_length_le (by omega)]
 obtain ⟨i1, hi1⟩ : ∃ i1, i1 = i + 1 := ⟨_, rfl⟩
 obtain ⟨n1, hn1⟩ : ∃ n1, n1 = c + 1 := ⟨_, rfl⟩
 obtain ⟨k, hk⟩ : ∃ k, k = n1 - i := ⟨_, rfl⟩
 obtain ⟨T, hT⟩ : ∃ T, T = cur.drop (i * 2) := ⟨_, rfl⟩
 have hTl : T.length = (c - i) * 2 := by rw [hT, List.length_drop, hxl]; omega
 have oT : ∀ u ∈ T, u.oneCell' = true := fun u hu => o1 u (by rw [hT] at hu; exact List.mem_of_mem_drop hu)
 have hTc : ∀ j v, T[j]? = some v → cur[i * 2 + j]? = some v := by
  intro j v hj
  rw [hT, List.getElem?_drop] at hj
  exact hj
 obtain ⟨O, hO⟩ : ∃ O, O = cur.take (i * 2) := ⟨_, rfl⟩
 have hOl : O.length = i * 2 := by rw [hO, List.length_take]; omega
 have hold : (Builtin.firstCells i0.size i (.slice (some ⟨g, 0, none⟩) i c)).run Tryz.prog w.drew = .ok O.toArray w.drew := by
  rw [hz1]
  refine run_firstK w.drew 2 i ⟨g, 0, none⟩ i c O hOl (fun j v hj => ?_)
  rw [Addr.add_lit, Nat.zero_add, cell_of_row w.drew _ _ _ _ _ hg, List.getElem?_toArray]
  rw [hO, List.getElem?_take] at hj
  split at hj
  ·exact hj
  ·cases hj
 have hik : i + k = n1 := by omega
 have hgr := fun ty => Lib.run_append_grow_zeros (P := Tryz.prog) w 109 3 ty 262 i0 _ .i64 .i64 Tryz.underlying109 Tryz.underlying3 hi0 hz0 (some ⟨g, 0, none⟩) i c O hold k (by omega) (by rw [hz1]; decide) (by omega) (by omega) (by rw [hz2]; omega)
  (by rw [hz2]; exact growslice_fits (by omega) (by omega))
 rw [hik] at hgr
 obtain ⟨cap, hcap, hc1, hc2⟩ : ∃ cap, cap = grownCap w n1 c 262 ∧ n1 ≤ cap ∧ cap ≤ maxLen := ⟨_, rfl, grownCap_ge .., grownCap_le_maxLen _ _ _ _ (by unfold maxLen; omega)⟩
 rw [← hcap] at hgr
 obtain ⟨Z, hZ⟩ : ∃ Z : Array Value, Z = O.toArray ++ Builtin.zeroCells (Value.agg #[.int .i64 0, .int .i64 0]).cells k ++ Builtin.zeroCells (Value.agg #[.int .i64 0, .int .i64 0]).cells (cap - n1) := ⟨_, rfl⟩
 have hZs : Z.size = cap * 2 := by
  rw [hZ, Array.size_append, Array.size_append, size_zeroCells, size_zeroCells]
  have : (Value.agg #[.int .i64 0, .int .i64 0]).cells.size = 2 := rfl
  rw [this, List.size_toArray, hOl]; omega
 rw [← hZ] at hgr
 have hZO : Z.toList.take (i * 2) = O := by
  rw [hZ, Array.append_assoc, Array.toList_append, List.take_append_of_le_length (by simp; omega), List.take_of_length_le (by simp; omega)]
 obtain ⟨gN, hgN⟩ : ∃ gN, gN = w.heap.size := ⟨_, rfl⟩
 rw [← hgN] at hgr
 obtain ⟨W0, hW0⟩ : ∃ W0, W0 = w.drew.alloc (.cells Z 262) := ⟨_, rfl⟩
 have hg0 : W0.heap[gN]? = some (.cells Z.toList.toArray 262 (0, 0)) := by rw [hW0, hgN, Array.toArray_toList]; exact heap_alloc_new w.drew _
 have hb0 : Below base w W0 := by rw [hW0]; exact (Below.refl base w).drew.alloc hbase _
 have hgl : g < w.heap.size := (Array.getElem?_eq_some_iff.1 hg).1
 have hgo : W0.heap[g]? = some (.cells cur.toArray 262 (0, 0)) := by rw [hW0]; exact (Below.heap_alloc w.drew _ g hgl).trans hg
 have hvo : W0.heap[gv]? = some (.cells vs.toArray 262 (0, 0)) := by rw [hW0]; exact (Below.heap_alloc w.drew _ gv hv.lt).trans hv
 have hvl0 := hv.lt
 rw [← hW0] at hgr
 obtain ⟨Y1, hY1⟩ : ∃ Y1, Y1 = splice Z.toList (i * 2) vs := ⟨_, rfl⟩
 obtain ⟨Y2, hY2⟩ : ∃ Y2, Y2 = splice Y1 (i * 2 + 2) T := ⟨_, rfl⟩
 have hZl : Z.toList.length = cap * 2 := by simpa using hZs
 have hY1l : Y1.length = cap * 2 := by rw [hY1, splice_lenP _ _ _ (by omega), hZl]
 have hY2l : Y2.length = cap * 2 := by rw [hY2, splice_lenP _ _ _ (by omega), hY1l]
 have hfin : Y2.take (n1 * 2) = cur.take (i * 2) ++ (vs ++ T) := by
  have := spliceAP Z.toList (i * 2) vs T (by omega)
  rw [hvl, hTl, show i * 2 + 2 + (c - i) * 2 = n1 * 2 by omega, ← hY1, ← hY2, hZO, hO] at this
  exact this
 rw [← hT, ← hfin]
 obtain ⟨W1, hW1⟩ : ∃ W1, W1 = W0.setRow gN Y1.toArray := ⟨_, rfl⟩
 have hg1 : W1.heap[gN]? = some (.cells Y1.toArray 262 (0, 0)) := by rw [hW1]; exact setRow_heap W0 gN _ _ _ _ hg0
 have hcp1 : ∀ ty dc, (Builtin.copy_ #[109, 109] ty #[.slice (some ⟨gN, i * 2, none⟩) (n1 - i) dc, .slice (some ⟨gv, 0, none⟩) 1 1]).run Tryz.prog W0 = .ok (goInt (1 : Nat)) W1 := fun ty dc => by
  rw [hW1, hY1]
  refine run_copyK (P := Tryz.prog) W0 109 109 ty 262 2 gN (i * 2) (n1 - i) dc ⟨gv, 0, none⟩ 1 1 1 Z.toList 262 vs Tryz.underlying109 k_size_pin hg0 (by simp only [Nat.min_def]; split <;> omega) (by omega) (fun j v hj => ?_) (by omega) o2
  rw [Addr.add_lit, Nat.zero_add, cell_of_row W0 _ _ _ _ _ hvo]
  simpa using hj
 obtain ⟨W2, hW2⟩ : ∃ W2, W2 = W1.drew.setRow gN Y2.toArray := ⟨_, rfl⟩
 have hg2 : W2.heap[gN]? = some (.cells Y2.toArray 262 (0, 0)) := by rw [hW2]; exact setRow_heap W1.drew gN _ _ _ _ hg1
 have hgo1 : W1.heap[g]? = some (.cells cur.toArray 262 (0, 0)) := by rw [hW1, setRow_other _ _ _ _ (by omega)]; exact hgo
 have hcp2 : ∀ ty dc sc, (Builtin.copy_ #[109, 109] ty #[.slice (some ⟨gN, i1 * 2, none⟩) (n1 - i1) dc, .slice (some ⟨g, i * 2, none⟩) (c - i) sc]).run Tryz.prog W1.drew = .ok (goInt (c - i : Nat)) W2 := fun ty dc sc => by
  rw [hW2, hY2]
  have := run_copyK (P := Tryz.prog) W1.drew 109 109 ty 262 2 gN (i * 2 + 2) (n1 - i1) dc ⟨g, i * 2, none⟩ (c - i) sc (c - i) Y1 262 T Tryz.underlying109 k_size_pin hg1 (by simp only [Nat.min_def]; split <;> omega) hTl
   (fun j v hj => by rw [Addr.add_lit, cell_of_row W1.drew _ _ _ _ _ hgo1]; simpa using hTc j v hj) (by omega) oT
  rw [show i1 * 2 = i * 2 + 2 by omega]
  exact this
 have hbgN : base ≤ gN := by omega
 have hb2 : Below base w W2 := by
  rw [hW2, hW1]
  exact below_setRow (below_setRow hb0 hbgN _).drew hbgN _
 have hown2 : W2.ownsRow base 262 2 (.slice (some ⟨gN, 0, none⟩) n1 cap) n1 (Y2.take (n1 * 2)) := own_close Y2 hbgN hg2 hc1 hc2 hY2l
 have wi : IntKind.i64.wrap ((i : Int) + 1) = (i1 : Int) := by rw [IntWalk.i64_in _ (by omega)]; omega
 have wn : IntKind.i64.wrap ((c : Int) + 1) = (n1 : Int) := by rw [IntWalk.i64_in _ (by omega)]; omega
 have wk : IntKind.i64.wrap ((n1 : Int) - i) = (k : Int) := by rw [IntWalk.i64_in _ (by omega)]; omega
 have q1 : ¬ (i : Int) = c := by omega
 have q2 : i ≤ c := by omega
 have q3 : ¬ c = i := by omega
 have q4 : i1 ≤ n1 := by omega
 have q5 : ¬ cap = i1 := by omega
 have q7 : i ≤ n1 := by omega
 have q12 : ¬ cap = i := by omega
 have q8 : decide ((c : Int) < n1) = true := decide_eq_true (by omega)
 have q9 : decide (c < n1) = true := decide_eq_true (by omega)
 have q10 : ((i : Int) == c) = false := by simp; omega
 have q11 : (i == c) = false := by simp; omega
 rw [← hn1]
 have HO := Lib.hid hown2
 have HB := Lib.hid hb2
 have HC1 := Lib.hid hcp1
 have HC2 := Lib.hid hcp2
 have HG := Lib.hid hgr
 clear hi1 hn1 hown2 hb2 hcp1 hcp2 hgr hfin hY2 hY1 hTc hTl hT hg1 hg2 hW1 hW2 hW0 hZl hZs hZO hZ hO hold hk hik hcap hgN hgo hgo1 hvo hown htk hg hg0
 go_enter Tryz.func189, Tryz.ntmps189
 go_wp2_with (first | (at_builtin; refine Lib.wpList_append_run _ rfl (.tmp 34) (.tmp 39) 109 3 rfl (.slice (some ⟨g, 0, none⟩) i c) (.int .i64 k) rfl rfl _ _ (HG.out _) ?_) | (refine wpList_copy_run _ rfl (.tmp 43) (.tmp 44) 109 109 rfl (.slice (some ⟨gN, i * 2, none⟩) (n1 - i) (cap - i)) (.slice (some ⟨gv, 0, none⟩) 1 1) rfl rfl (HC1.out _ _) ?_))
 go_region_law (refine step_copy_run rfl (.tmp 50) (.tmp 53) 109 109 rfl (.slice (some ⟨gN, i1 * 2, none⟩) (n1 - i1) (cap - i1)) (.slice (some ⟨g, i * 2, none⟩) (c - i) (c - i)) (by simp [Act.eval, Act.put]) (by simp [Act.eval, Act.put]) (HC2.out _ _ _) ?_)
 all_goals
  go_wp2
  go_ret
  exact ⟨_, _, rfl, HO.out, HB.out⟩
theorem insert_pin (base : Nat) (A : Option Addr) (n c i : Nat) (xs : List Value) (gv : Nat) (vs : List Value) (w : World)
  (hown : w.ownsRow base 262 2 (.slice A n c) n xs) (hbase : base ≤ w.heap.size) (hi : i ≤ n) (hn : n ≤ 1000)
  (hv : Blk w gv 262 vs.toArray) (hne : (Value.slice A n c).ownBlock ≠ some gv) (o1 : ∀ u ∈ xs, u.oneCell' = true) (o2 : ∀ u ∈ vs, u.oneCell' = true) (hvl : vs.length = 2) :
  Calls Tryz.prog 189 #[.slice A n c, .int .i64 i, .slice (some ⟨gv, 0, none⟩) 1 1] w fun e w' => ∃ A' c', e = .returned (.slice A' (n + 1) c') ∧ w'.ownsRow base 262 2 (.slice A' (n + 1) c') (n + 1) (xs.take (i * 2) ++ (vs ++ xs.drop (i * 2))) ∧ Below base w w' := by
 have hxl : xs.length = n * 2 := hown.1
 by_cases hin : i = n
 ·subst hin
  rw [List.take_of_length_le (by omega), List.drop_of_length_le (by omega), List.append_nil]
  exact insert_endP base A i c xs gv vs w hown hbase hn hv o2 hvl
 ·obtain ⟨g, rfl⟩ : ∃ g, A = some ⟨g, 0, none⟩ := by
   rcases hown.2 with ⟨h2, h3⟩ | ⟨g, cap, cur, hv, -⟩
   ·omega
   ·injection hv with h1 h2 h3; exact ⟨g, h1⟩
  by_cases hr : n + 1 ≤ c
  ·exact insert_pin_in base g n c i xs gv vs w hown (by omega) hr hn hv (fun h => hne (by rw [h]; rfl)) o1 o2 hvl
  ·exact insert_pin_grow base g n c i xs gv vs w hown hbase (by omega) (by omega) hn hv o1 o2 hvl
end Go.Proofs.YtblkhipbhahmeaaGreatDoor
