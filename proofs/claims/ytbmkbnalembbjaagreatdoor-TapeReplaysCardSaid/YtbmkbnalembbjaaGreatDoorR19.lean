/-
  Texts joined: PlayFn TapeOps TapeReadOps TapeLaw2 TapeRdSt.
-/
import Derived.Test.YtbmkbnalembbjaaGreatDoorR0
import Derived.Test.YtbmkbnalembbjaaGreatDoorR1
import Derived.Test.YtbmkbnalembbjaaGreatDoorR6
import Derived.Test.YtbmkbnalembbjaaGreatDoorR10
import Derived.Test.YtbmkbnalembbjaaGreatDoorR16
import Derived.Test.YtbmkbnalembbjaaGreatDoorR18
namespace Go.Proofs.YtbmkbnalembbjaaGreatDoor
open Go.RowKit
def opC (o : OpV) : List Value := [.int .i64 o.kind, .int .i64 o.a, .int .i64 o.b, .int .i64 o.c, .int .u64 o.v]
def opsC (l : List OpV) : List Value := l.flatMap opC
theorem opsC_length (l : List OpV) : (opsC l).length = l.length * 5 := flat_length opC 5 (fun _ => rfl) l
def toldC (t : ToldV) : List Value := [.int .i64 t.e, .int .u64 t.v]
def toldsC (l : List ToldV) : List Value := l.flatMap toldC
theorem toldsC_snoc (l : List ToldV) (t : ToldV) : toldsC (l ++ [t]) = toldsC l ++ toldC t := by simp [toldsC]
theorem info_told : (Tryz.prog.info? 47).map (fun i => (i.zero, i.size, i.bytes)) = some (some (.agg #[.int .i64 0, .int .u64 0]), 2, 16) := by kernel_rfl
theorem Reads.op {w : World} {B : Nat} {A : Option Addr} {n j : Nat} {l : List OpV} (h : Reads w B 5 A n (opsC l)) (hj : j < n) :
    ∃ ad o, A = some ad ∧ ad.block < B ∧ l[j]? = some o ∧ w.cell? (ad.add (j * 5)) = some (.int .i64 o.kind) ∧
      w.cell? ⟨(ad.add (j * 5)).block, (ad.add (j * 5)).off + 1, none⟩ = some (.int .i64 o.a) ∧ w.cell? ⟨(ad.add (j * 5)).block, (ad.add (j * 5)).off + 2, none⟩ = some (.int .i64 o.b) ∧
      w.cell? ⟨(ad.add (j * 5)).block, (ad.add (j * 5)).off + 3, none⟩ = some (.int .i64 o.c) ∧ w.cell? ⟨(ad.add (j * 5)).block, (ad.add (j * 5)).off + 4, none⟩ = some (.int .u64 o.v) := by
  obtain ⟨ad, o, e, hb, ho, h0, hi⟩ := Reads.elem (f := opC) (k := 5) (fun _ => rfl) h (by decide) hj
  exact ⟨ad, o, e, hb, ho, h0, hi 1 (by decide) (by decide), hi 2 (by decide) (by decide), hi 3 (by decide) (by decide), hi 4 (by decide) (by decide)⟩
theorem Reads.told {w : World} {B : Nat} {A : Option Addr} {n j : Nat} {l : List ToldV} (h : Reads w B 2 A n (toldsC l)) (hj : j < n) :
    ∃ ad t, A = some ad ∧ ad.block < B ∧ l[j]? = some t ∧ w.cell? (ad.add (j * 2)) = some (.int .i64 t.e) ∧ w.cell? ⟨(ad.add (j * 2)).block, (ad.add (j * 2)).off + 1, none⟩ = some (.int .u64 t.v) := by
  obtain ⟨ad, o, e, hb, ho, h0, hi⟩ := Reads.elem (f := toldC) (k := 2) (fun _ => rfl) h (by decide) hj
  exact ⟨ad, o, e, hb, ho, h0, hi 1 (by decide) (by decide)⟩
theorem StO.grown {w w' : World} {base : Nat} {A : Option Addr} {n c : Nat} {RA : Option Addr} {rn rc : Nat} {PA : Option Addr} {pn pc : Nat} {HA : Option Addr} {hn hc : Nat} {S : St} (h : StO w base A n c RA rn rc PA pn pc HA hn hc S)
    {base' size m : Nat} {e : TypeId} {v : Value} {xs : List Value} (ho : w.ownsRow base' e size v m xs) (hg : w.grownBy w' v.ownBlock) (h1 : e ≠ 45) (h2 : e ≠ 3) (h3 : e ≠ 57) (h4 : e ≠ 60) : StO w' base A n c RA rn rc PA pn pc HA hn hc S :=
  ⟨own_grown h.a hg (fun _ hg' => own_types h.a ho h1.symm hg'), own_grown h.r hg (fun _ hg' => own_types h.r ho h2.symm hg'), own_grown h.p hg (fun _ hg' => own_types h.p ho h3.symm hg'), own_grown h.l hg (fun _ hg' => own_types h.l ho h4.symm hg')⟩
theorem StO.alloc {w : World} {base : Nat} {A : Option Addr} {n c : Nat} {RA : Option Addr} {rn rc : Nat} {PA : Option Addr} {pn pc : Nat} {HA : Option Addr} {hn hc : Nat} {S : St} (h : StO w base A n c RA rn rc PA pn pc HA hn hc S) (o : Obj) : StO (w.alloc o) base A n c RA rn rc PA pn pc HA hn hc S :=
  ⟨h.a.alloc o, h.r.alloc o, h.p.alloc o, h.l.alloc o⟩
def playE (S : St) (k : Nat) : Int := if stE S ≠ 0 then stE S else if 200 < k then 2 else 0
theorem play_take {S : St} {l : List OpV} {j : Nat} {o : OpV} (ho : l[j]? = some o) : playS S (l.take (j + 1)) = nextS (playS S (l.take j)) o ∧ playT S (l.take (j + 1)) = playT S (l.take j) ++ [toldS (playS S (l.take j)) o] := by
  obtain ⟨q, rfl⟩ := List.getElem?_eq_some_iff.1 ho
  rw [List.take_succ_eq_append_getElem q, playS_app, playT_app]
  exact ⟨rfl, rfl⟩
theorem StGood.known {S : St} (h : StGood S) {w : World} {base : Nat} {A : Option Addr} {n c : Nat} {RA : Option Addr} {rn rc : Nat} {PA : Option Addr} {pn pc : Nat} {HA : Option Addr} {hn hc : Nat} (hO : StO w base A n c RA rn rc PA pn pc HA hn hc S) : StK n c rn pn hn S := hO.known h.wf
structure PlayAt (w wr : World) (S : St) (T : Option Addr) (j tc : Nat) (l : List OpV) (B1 : Option Addr) (n1 d1 : Nat) (B2 : Option Addr) (n2 d2 : Nat) (B3 : Option Addr) (n3 d3 : Nat) (B4 : Option Addr) (n4 d4 : Nat) : Prop where
  below : Below w.heap.size w wr
  cell : Blk wr w.heap.size 28 #[.slice B1 n1 d1, .slice B2 n2 d2, .slice B3 n3 d3, .slice B4 n4 d4]
  res : Blk wr (w.heap.size + 1) 28 #[.slice none 0 0, .slice none 0 0, .slice none 0 0, .slice none 0 0]
  own : StO wr w.heap.size B1 n1 d1 B2 n2 d2 B3 n3 d3 B4 n4 d4 (playS S (l.take j))
  good : StGood (playS S (l.take j))
  told : wr.ownsRow w.heap.size 47 2 (.slice T j tc) j (toldsC (playT S (l.take j)))
set_option maxRecDepth 100000 in
set_option maxHeartbeats 2000000 in
theorem play_ok (A : Option Addr) (n c : Nat) (RA : Option Addr) (rn rc : Nat) (PA : Option Addr) (pn pc : Nat) (HA : Option Addr) (hn hc : Nat) (S : St) (OA : Option Addr) (on oc : Nat) (l : List OpV) (w : World) (hR : StR w w.heap.size A n RA rn PA pn HA hn S) (hK : StK n c rn pn hn S)
    (hOK : StOk S) (hn2 : on ≤ 200) (hr : Reads w w.heap.size 5 OA on (opsC l)) (hv : ∀ o ∈ l, (Lit.int .u64 o.v).wf = true) (hT : FTab w) :
    Calls Tryz.prog 11 #[.agg #[.slice A n c, .slice RA rn rc, .slice PA pn pc, .slice HA hn hc], .slice OA on oc] w fun e w' => Below w.heap.size w w' ∧
      ∃ (B1 : Option Addr) (n1 d1 : Nat) (B2 : Option Addr) (n2 d2 : Nat) (B3 : Option Addr) (n3 d3 : Nat) (B4 : Option Addr) (n4 d4 : Nat) (T : Option Addr) (tc : Nat), e = .returned (.tuple #[.agg #[.slice B1 n1 d1, .slice B2 n2 d2, .slice B3 n3 d3, .slice B4 n4 d4], .slice T on tc, .int .i64 0]) ∧
        StO w' w.heap.size B1 n1 d1 B2 n2 d2 B3 n3 d3 B4 n4 d4 (playS S l) ∧ w'.ownsRow w.heap.size 47 2 (.slice T on tc) on (toldsC (playT S l)) := by
  obtain ⟨i0, hi, hz0, hz1, hz2⟩ := info_parts info_told
  have HCk := Lib.hid (fun w hR => stcheck_any A n c RA rn rc PA pn pc HA hn hc S w hR hK)
  rw [stE_ok.2 hOK] at HCk
  obtain ⟨y1, y2, y3, y4, -⟩ := hOK.lens
  obtain ⟨z1, z2, z3, z4⟩ := hR.lens
  have HOw := Lib.hid (fun w hR => pown_any A n c RA rn rc PA pn pc HA hn hc S w hR (by omega) (by omega) (by omega) (by omega))
  have g1 : decide (200 < on) = false := decide_eq_false (by omega)
  have g1' : decide ((200 : Int) < (on : Int)) = false := decide_eq_false (by omega)
  have HN := Lib.hid hn2
  have HG : Hid (StGood S) := ⟨hOK, hK.wf⟩
  have HV := Lib.hid hv
  have HT := Lib.hid hT
  have HL : Hid (l.length = on) := by have := hr.1; rw [opsC_length] at this; show _ = _; omega
  have hb := (below_new w (.cells #[.slice A n c, .slice RA rn rc, .slice PA pn pc, .slice HA hn hc] 28)).alloc (by simp) (.cells #[.slice none 0 0, .slice none 0 0, .slice none 0 0, .slice none 0 0] 28)
  have DS := (Blk.new w 28 #[.slice A n c, .slice RA rn rc, .slice PA pn pc, .slice HA hn hc]).alloc (.cells #[.slice none 0 0, .slice none 0 0, .slice none 0 0, .slice none 0 0] 28)
  have DR := Blk.new (w.alloc (.cells #[.slice A n c, .slice RA rn rc, .slice PA pn pc, .slice HA hn hc] 28)) 28 #[.slice none 0 0, .slice none 0 0, .slice none 0 0, .slice none 0 0]
  rw [World.size_alloc] at DR
  obtain ⟨s0, s1, s2, s3⟩ := DS.four
  clear y1 y2 y3 y4 z1 z2 z3 z4 hn2 hv hT hOK hK
  go_enter Tryz.func11, Tryz.ntmps11
  go_wp2_with fail
  refine (HCk.out _ ((hR.below hb).more hb.size)).mono ?_
  rintro e w2 ⟨rfl, hb2⟩
  have hb02 := below_step hb hb2
  have DS2 := DS.below hb2 DS.lt
  have DR2 := DR.below hb2 DR.lt
  clear s0 s1 s2 s3 hb hb2 DS DR HCk
  obtain ⟨s0, s1, s2, s3⟩ := DS2.four
  go_wp2_with fail
  refine (HOw.out _ ((hR.below hb02).more hb02.size)).mono ?_
  rintro e w3 ⟨hb3, B1, d1, B2, d2, B3, d3, B4, d4, rfl, hO⟩
  have hb03 := below_step hb02 hb3
  have DS3 := DS2.below hb3 DS2.lt
  have DR3 := DR2.below hb3 DR2.lt
  clear s0 s1 s2 s3
  obtain ⟨s0, s1, s2, s3⟩ := DS3.four
  obtain ⟨f0, f1, f2, f3⟩ := DS3.four_frozen
  have hO3 := (hO.mono hb02.size).store DS3 (.slice B1 n d1) (.slice B2 rn d2) (.slice B3 pn d3) (.slice B4 hn d4)
  have hb04 := below_block4 (g := w.heap.size) hb03 (Nat.le_refl _) (.slice B1 n d1) (.slice B2 rn d2) (.slice B3 pn d3) (.slice B4 hn d4)
  have DS4 := DS3.store4 (.slice B1 n d1) (.slice B2 rn d2) (.slice B3 pn d3) (.slice B4 hn d4)
  have DR4 := DR3.far4 (g' := w.heap.size) (by omega) (.slice B1 n d1) (.slice B2 rn d2) (.slice B3 pn d3) (.slice B4 hn d4)
  clear DS2 DR2 hb02 hb3 hO DS3 DR3 hb03
  go_wp2_with fail
  clear s0 s1 s2 s3 f0 f1 f2 f3
  go_loopw [8, 31] (fun o i wr => ∃ (j : Nat) (T : Option Addr) (tc : Nat) (B1 : Option Addr) (n1 d1 : Nat) (B2 : Option Addr) (n2 d2 : Nat) (B3 : Option Addr) (n3 d3 : Nat) (B4 : Option Addr) (n4 d4 : Nat), j ≤ on ∧ i = .int .i64 j ∧ o = .slice T j tc ∧ PlayAt w wr S T j tc l B1 n1 d1 B2 n2 d2 B3 n3 d3 B4 n4 d4) (fun _ i _ => on - (intOf i).toNat)
  case atStart => exact ⟨0, none, 0, B1, n, d1, B2, rn, d2, B3, pn, d3, B4, hn, d4, Nat.zero_le _, rfl, rfl, ⟨hb04, DS4, DR4, hO3, HG.out, World.ownsRow_nil _ _ _ _⟩⟩
  case round =>
    clear hb04 DS4 DR4 hO3
    obtain ⟨j, T, tc, G1, n1, p1, G2, n2, p2, G3, n3, p3, G4, n4, p4, hj, rfl, rfl, hP⟩ := hrel
    by_cases hlt : j < on
    · obtain ⟨ad, o, rfl, had, ho, c0, c1, c2, c3, c4⟩ := (hr.below hP.below).op hlt
      have HX := Lib.hid (play_take (S := S) ho)
      have hvo := HV.out o (List.mem_of_getElem? ho)
      have hv0 : 0 ≤ o.v ∧ o.v < 18446744073709551616 := by simp [Lit.wf, IntKind.min, IntKind.max, IntKind.signed, IntKind.bits] at hvo; omega
      have HDo := Lib.hid (fun w hR hT => do_any G1 n1 p1 G2 n2 p2 G3 n3 p3 G4 n4 p4 (playS S (l.take j)) o w hR (hP.good.known hP.own) hT hv0.1 hv0.2)
      have HGd := Lib.hid (nextS_good hP.good o hvo)
      obtain ⟨S1, hS1⟩ : ∃ S1, S1 = playS S (l.take j) := ⟨_, rfl⟩
      have hPo := hP.own
      have hPt := hP.told
      rw [← hS1] at HDo HGd hPo HX
      obtain ⟨X, hX⟩ : ∃ X, X = doO S1 o := ⟨_, rfl⟩
      rw [← hX] at HDo
      have HN1 : Hid ((X.er = 0 → nextS S1 o = X.st) ∧ (X.er ≠ 0 → nextS S1 o = S1) ∧ toldS S1 o = ⟨X.er, X.told⟩ ∧ (X.er ≠ 0 → X.told = 0)) := by
        show _ ∧ _
        rw [hX]
        exact ⟨fun h => if_pos h, fun h => if_neg h, rfl, doO_told S1 o⟩
      obtain ⟨L1, hL1⟩ : ∃ L1, L1 = playT S (l.take j) := ⟨_, rfl⟩
      rw [← hL1] at HX hPt
      have DS := hP.cell
      have DR := hP.res
      have hbr := hP.below
      have hba := hbr.alloc hbr.size (.cells #[.int .i64 o.kind, .int .i64 o.a, .int .i64 o.b, .int .i64 o.c, .int .u64 o.v] 52)
      have DSa := DS.alloc (.cells #[.int .i64 o.kind, .int .i64 o.a, .int .i64 o.b, .int .i64 o.c, .int .u64 o.v] 52)
      have DRa := DR.alloc (.cells #[.int .i64 o.kind, .int .i64 o.a, .int .i64 o.b, .int .i64 o.c, .int .u64 o.v] 52)
      have hOa := hPo.alloc (.cells #[.int .i64 o.kind, .int .i64 o.a, .int .i64 o.b, .int .i64 o.c, .int .u64 o.v] 52)
      have hTa := hPt.alloc (.cells #[.int .i64 o.kind, .int .i64 o.a, .int .i64 o.b, .int .i64 o.c, .int .u64 o.v] 52)
      have DO := Blk.new wr 52 #[.int .i64 o.kind, .int .i64 o.a, .int .i64 o.b, .int .i64 o.c, .int .u64 o.v]
      have hj200 : j < 200 := by have := HN.out; omega
      obtain ⟨s0, s1, s2, s3⟩ := DSa.four
      obtain ⟨k0, k1, k2, k3, k4⟩ := DO.five
      clear hP hvo hv0 hS1 hX hL1 hPo hPt DS DR hbr DO ho
      go_wp2_with fail
      refine (HDo.out _ hOa.reads (HT.out.below hba)).mono ?_
      rintro e w5 ⟨hb5, ⟨hz, E1, m1, e1, E2, m2, e2, E3, m3, e3, E4, m4, e4, rfl, hO⟩ | ⟨hnz, rfl⟩⟩
      · have hb05 := below_step hba hb5
        have hb06 := hb05.alloc hb05.size (.cells #[.slice E1 m1 e1, .slice E2 m2 e2, .slice E3 m3 e3, .slice E4 m4 e4] 28)
        have DN := Blk.new w5 28 #[.slice E1 m1 e1, .slice E2 m2 e2, .slice E3 m3 e3, .slice E4 m4 e4]
        have DS6 := (DSa.below hb5 DSa.lt).alloc (.cells #[.slice E1 m1 e1, .slice E2 m2 e2, .slice E3 m3 e3, .slice E4 m4 e4] 28)
        have DR6 := (DRa.below hb5 DRa.lt).alloc (.cells #[.slice E1 m1 e1, .slice E2 m2 e2, .slice E3 m3 e3, .slice E4 m4 e4] 28)
        have hO6 := (hO.mono hba.size).alloc (.cells #[.slice E1 m1 e1, .slice E2 m2 e2, .slice E3 m3 e3, .slice E4 m4 e4] 28)
        have hT6 := (own_below hTa hb5).alloc (.cells #[.slice E1 m1 e1, .slice E2 m2 e2, .slice E3 m3 e3, .slice E4 m4 e4] 28)
        obtain ⟨vt, hvt⟩ : ∃ v, v = X.told := ⟨_, rfl⟩
        rw [← hvt]
        have HVT := Lib.hid hvt
        have HZ := Lib.hid hz
        have DS7 := DS6.store4 (.slice E1 m1 e1) (.slice E2 m2 e2) (.slice E3 m3 e3) (.slice E4 m4 e4)
        have DR7 := DR6.far4 (g' := w.heap.size) (by omega) (.slice E1 m1 e1) (.slice E2 m2 e2) (.slice E3 m3 e3) (.slice E4 m4 e4)
        have hO7 := hO6.store DS6 (.slice E1 m1 e1) (.slice E2 m2 e2) (.slice E3 m3 e3) (.slice E4 m4 e4)
        have hT7 := own_block4 hT6 DS6 (by decide) (.slice E1 m1 e1) (.slice E2 m2 e2) (.slice E3 m3 e3) (.slice E4 m4 e4)
        have hb07 := below_block4 (g := w.heap.size) hb06 (Nat.le_refl _) (.slice E1 m1 e1) (.slice E2 m2 e2) (.slice E3 m3 e3) (.slice E4 m4 e4)
        have hnew := reads_new (((((w5.alloc (.cells #[.slice E1 m1 e1, .slice E2 m2 e2, .slice E3 m3 e3, .slice E4 m4 e4] 28)).setCell ⟨w.heap.size, 0, none⟩ (.slice E1 m1 e1)).setCell ⟨w.heap.size, 1, none⟩ (.slice E2 m2 e2)).setCell ⟨w.heap.size, 2, none⟩ (.slice E3 m3 e3)).setCell ⟨w.heap.size, 3, none⟩ (.slice E4 m4 e4)) (toldC ⟨0, vt⟩) 47 1 2 rfl
        have hsz : (((((w5.alloc (.cells #[.slice E1 m1 e1, .slice E2 m2 e2, .slice E3 m3 e3, .slice E4 m4 e4] 28)).setCell ⟨w.heap.size, 0, none⟩ (.slice E1 m1 e1)).setCell ⟨w.heap.size, 1, none⟩ (.slice E2 m2 e2)).setCell ⟨w.heap.size, 2, none⟩ (.slice E3 m3 e3)).setCell ⟨w.heap.size, 3, none⟩ (.slice E4 m4 e4)).heap.size = w5.heap.size + 1 := by simp
        rw [hsz] at hnew
        clear hsz
        have hT8 := hT7.alloc (.cells #[.int .i64 0, .int .u64 vt] 47)
        have hO8 := hO7.alloc (.cells #[.int .i64 0, .int .u64 vt] 47)
        have DS8 := DS7.alloc (.cells #[.int .i64 0, .int .u64 vt] 47)
        have DR8 := DR7.alloc (.cells #[.int .i64 0, .int .u64 vt] 47)
        have hb08 := hb07.alloc hb07.size (.cells #[.int .i64 0, .int .u64 vt] 47)
        have hbs := hb08.size
        clear s0 s1 s2 s3 k0 k1 k2 k3 k4 DSa DRa hOa hTa HDo hb5 hb05 hO hvt DR6 hO6 hT6 hb06 hba hz DS7 DR7 hO7 hT7 hb07
        obtain ⟨s0, s1, s2, s3⟩ := DS6.four
        obtain ⟨f0, f1, f2, f3⟩ := DS6.four_frozen
        obtain ⟨q0, q1, q2, q3⟩ := DN.four
        clear DS6 DN
        go_wp2_with (at_builtin; refine wpList_append_any _ rfl (.tmp 45) (.tmp 49) 40 rfl w.heap.size 47 i0 _ 2 16 Tryz.underlying40 hi hz0 hz1 hz2 rfl (by decide) (.slice T j tc) j _ rfl hT8 _ (some ⟨w5.heap.size + 1, 0, none⟩) 1 1 (toldC ⟨0, vt⟩) rfl hnew (by simp [toldC, Value.oneCell']) (by unfold maxLen; omega) (by omega) hbs ?_; rintro v' w7 hO9 hg9 - -; obtain ⟨T', tc', rfl⟩ := own_slice hO9)
        have hb9 := hb08.grown hg9 hbs (fun g hg => (hT8.lt g hg).1)
        have DS9 := DS8.grown hg9 (fun h => own_blk_ne hT8 DS8 (by decide) h.symm)
        have DR9 := DR8.grown hg9 (fun h => own_blk_ne hT8 DR8 (by decide) h.symm)
        have hO10 := hO8.grown hT8 hg9 (by decide) (by decide) (by decide) (by decide)
        have HO9 := Lib.hid hO9
        clear s0 s1 s2 s3 f0 f1 f2 f3 q0 q1 q2 q3 hT8 hO8 DS8 DR8 hb08 hbs hnew hg9 hO9
        go_roundw
        case rel => exact ⟨j + 1, T', tc', E1, m1, e1, E2, m2, e2, E3, m3, e3, E4, m4, e4, by omega, by go_num, rfl, ⟨hb9, DS9, DR9, by rw [HX.out.1, HN1.out.1 HZ.out]; exact hO10, by rw [HX.out.1]; exact HGd.out, by rw [HX.out.2, toldsC_snoc, HN1.out.2.2.1, HZ.out, ← HVT.out]; exact HO9.out⟩⟩
        case measure => simp [intOf]; omega
      · have hb05 := below_step hba hb5
        have hb06 := hb05.alloc hb05.size (.cells #[.slice none 0 0, .slice none 0 0, .slice none 0 0, .slice none 0 0] 28)
        have DS6 := (DSa.below hb5 DSa.lt).alloc (.cells #[.slice none 0 0, .slice none 0 0, .slice none 0 0, .slice none 0 0] 28)
        have DR6 := (DRa.below hb5 DRa.lt).alloc (.cells #[.slice none 0 0, .slice none 0 0, .slice none 0 0, .slice none 0 0] 28)
        have hO6 := (hOa.below hb5).alloc (.cells #[.slice none 0 0, .slice none 0 0, .slice none 0 0, .slice none 0 0] 28)
        have hT6 := (own_below hTa hb5).alloc (.cells #[.slice none 0 0, .slice none 0 0, .slice none 0 0, .slice none 0 0] 28)
        obtain ⟨ev, hev⟩ : ∃ v, v = X.er := ⟨_, rfl⟩
        rw [← hev]
        have HEV := Lib.hid hev
        have HNZ := Lib.hid hnz
        have g9 : (ev == 0) = false := by rw [hev]; simpa using hnz
        have hnew := reads_new (w5.alloc (.cells #[.slice none 0 0, .slice none 0 0, .slice none 0 0, .slice none 0 0] 28)) (toldC ⟨ev, 0⟩) 47 1 2 rfl
        rw [World.size_alloc] at hnew
        have hT8 := hT6.alloc (.cells #[.int .i64 ev, .int .u64 0] 47)
        have hO8 := hO6.alloc (.cells #[.int .i64 ev, .int .u64 0] 47)
        have DS8 := DS6.alloc (.cells #[.int .i64 ev, .int .u64 0] 47)
        have DR8 := DR6.alloc (.cells #[.int .i64 ev, .int .u64 0] 47)
        have hb08 := hb06.alloc hb06.size (.cells #[.int .i64 ev, .int .u64 0] 47)
        have hbs := hb08.size
        clear s0 s1 s2 s3 k0 k1 k2 k3 k4 DSa DRa hOa hTa HDo hb5 hb05 hev DS6 DR6 hO6 hT6 hb06 hba hnz
        go_wp2_with (at_builtin; refine wpList_append_any _ rfl (.tmp 45) (.tmp 49) 40 rfl w.heap.size 47 i0 _ 2 16 Tryz.underlying40 hi hz0 hz1 hz2 rfl (by decide) (.slice T j tc) j _ rfl hT8 _ (some ⟨w5.heap.size + 1, 0, none⟩) 1 1 (toldC ⟨ev, 0⟩) rfl hnew (by simp [toldC, Value.oneCell']) (by unfold maxLen; omega) (by omega) hbs ?_; rintro v' w7 hO9 hg9 - -; obtain ⟨T', tc', rfl⟩ := own_slice hO9)
        have hb9 := hb08.grown hg9 hbs (fun g hg => (hT8.lt g hg).1)
        have DS9 := DS8.grown hg9 (fun h => own_blk_ne hT8 DS8 (by decide) h.symm)
        have DR9 := DR8.grown hg9 (fun h => own_blk_ne hT8 DR8 (by decide) h.symm)
        have hO10 := hO8.grown hT8 hg9 (by decide) (by decide) (by decide) (by decide)
        have HO9 := Lib.hid hO9
        clear hT8 hO8 DS8 DR8 hb08 hbs hnew hg9 hO9 g9
        go_roundw
        case rel => exact ⟨j + 1, T', tc', G1, n1, p1, G2, n2, p2, G3, n3, p3, G4, n4, p4, by omega, by go_num, rfl, ⟨hb9, DS9, DR9, by rw [HX.out.1, HN1.out.2.1 HNZ.out]; exact hO10, by rw [HX.out.1]; exact HGd.out, by rw [HX.out.2, toldsC_snoc, HN1.out.2.2.1, HN1.out.2.2.2 HNZ.out, ← HEV.out]; exact HO9.out⟩⟩
        case measure => simp [intOf]; omega
    · obtain rfl : j = on := by omega
      have htk : l.take j = l := List.take_of_length_le (by rw [HL.out]; exact Nat.le_refl _)
      have hPo := hP.own
      have hPt := hP.told
      rw [htk] at hPo hPt
      have DS := hP.cell
      have DR := hP.res
      have hb5 := hP.below
      obtain ⟨s0, s1, s2, s3⟩ := DS.four
      obtain ⟨r0, r1, r2, r3⟩ := DR.four
      obtain ⟨f0, f1, f2, f3⟩ := DR.four_frozen
      clear hP htk
      go_wp2_with fail
      refine bodyPost_ret (v := .tuple #[.agg #[.slice G1 n1 p1, .slice G2 n2 p2, .slice G3 n3 p3, .slice G4 n4 p4], .slice T j tc, .int .i64 0]) ?_ rfl ⟨below_block4 (g := w.heap.size + 1) hb5 (Nat.le_succ _) _ _ _ _, G1, n1, p1, G2, n2, p2, G3, n3, p3, G4, n4, p4, T, tc, rfl, hPo.store DR _ _ _ _, own_block4 hPt DR (by decide) _ _ _ _⟩
      obtain ⟨z0, z1, z2, z3⟩ := (DR.store4 (.slice G1 n1 p1) (.slice G2 n2 p2) (.slice G3 n3 p3) (.slice G4 n4 p4)).four
      simp only [results, Tryz.results11]
      go_simp
end Go.Proofs.YtbmkbnalembbjaaGreatDoor

namespace Go.Proofs.YtbmkbnalembbjaaGreatDoor
open Go.RowKit
theorem idxU (kd : IntKind) (N : Nat) (t el : TypeId) (h : Tryz.prog.underlying t = some (.array N el)) (he : Tryz.prog.underlying el = some (.int kd)) (hs : ∀ w, (sizeOf el).run Tryz.prog w = .ok 1 w) (vs : Array Value) (k : Nat) (hk : k < N) (hv : vs.size = N) (w : World) : (Instr.index t (.agg vs) (.int .i64 k)).run Tryz.prog w = .ok (vs[k]!) w := by
  have h1 : (0 : Int) ≤ k ∧ (k : Int) < N := by omega
  have h2 : k < vs.size := by omega
  simp [Instr.index, asIntOf, run_underlying h, run_underlying he, isAgg, hs, hk, h1, h2, go_sem]
theorem size_ofN {t : TypeId} (h : (Tryz.prog.info? t).map (·.size) = some 1) (w : World) : (sizeOf t).run Tryz.prog w = .ok 1 w := by
  obtain ⟨i, hi, h1⟩ := Option.map_eq_some_iff.1 h
  simp [sizeOf, run_typeInfo w hi, h1]
theorem u64N_wrap (x : Int) : IntKind.u64.wrap x = (u64N x : Int) := by rw [IntKind.wrap_u64, u64N_cast]
theorem encN_take {ns : List Nat} {j : Nat} (h : j < ns.length) : encN (ns.take (j + 1)) = encN (ns.take j) ++ varN ns[j] := by
  rw [List.take_succ_eq_append_getElem h, encN_append, encN_one]
set_option maxRecDepth 100000 in
set_option maxHeartbeats 2000000 in
theorem tapeOps_any (A : Option Addr) (n c : Nat) (l : List OpV) (w : World) (hr : Reads w w.heap.size 5 A n (opsC l)) (hv : ∀ o ∈ l, (Lit.int .u64 o.v).wf = true) :
    Calls Tryz.prog 6 #[.slice A n c] w fun e w' => Below w.heap.size w w' ∧ ((200 < n ∧ e = .returned (.tuple #[.string ⟨#[]⟩, .int .i64 2])) ∨
      (n ≤ 200 ∧ ∃ s : ByteArray, e = .returned (.tuple #[.string s, .int .i64 0]) ∧ bytesN s = encN (opsN l))) := by
  have hln : l.length = n := by have := hr.1; rw [opsC_length] at this; omega
  have HL := Lib.hid hln
  have HP := Lib.hid (fun base A k c L n w => @put_any base A k c L n w)
  have HV := Lib.hid hv
  clear hln hv
  by_cases h200 : 200 < n
  · have g1 : decide (200 < n) = true := decide_eq_true h200
    have g2 : decide ((200 : Int) < (n : Int)) = true := decide_eq_true (by omega)
    go_enter Tryz.func6, Tryz.ntmps6
    go_wp2_with fail
    go_ret2
    exact ⟨Below.refl _ _, .inl ⟨h200, rfl⟩⟩
  · have g1 : decide (200 < n) = false := decide_eq_false h200
    have g2 : decide ((200 : Int) < (n : Int)) = false := decide_eq_false (by omega)
    go_enter Tryz.func6, Tryz.ntmps6
    go_wp2_with fail
    go_loopw [4, 14] (fun o i wr => ∃ (j : Nat) (A' : Option Addr) (k c' : Nat), j ≤ n ∧ i = .int .i64 j ∧ o = .slice A' k c' ∧ wr.ownsRow w.heap.size 5 1 (.slice A' k c') k (byteN (encN (opsN (l.take j)))) ∧ Below w.heap.size w wr) (fun _ i _ => n - (intOf i).toNat)
    case atStart => exact ⟨0, none, 0, 0, Nat.zero_le _, rfl, rfl, World.ownsRow_nil _ _ _ _, Below.refl _ _⟩
    case round =>
      obtain ⟨j, A', k, c', hj, rfl, rfl, hown, hb⟩ := hrel
      by_cases hlt : j < n
      · obtain ⟨wo, hwo⟩ : ∃ x, x = wr := ⟨wr, rfl⟩
        subst hwo
        obtain ⟨ad, o, rfl, had, ho, c0, c1, c2, c3, c4⟩ := (hr.below hb).op hlt
        have hmem := List.mem_of_getElem? ho
        have hvo : (u64N o.v : Int) = o.v := u64N_id (by have := HV.out o hmem; simp [Lit.wf, IntKind.min, IntKind.max, IntKind.signed, IntKind.bits] at this; omega)
        have HT : Hid (encN (opsN (l.take (j + 1))) = encN (opsN (l.take j)) ++ encN (opN o)) := by
          show _ = _
          obtain ⟨hl, rfl⟩ := List.getElem?_eq_some_iff.1 ho
          rw [List.take_succ_eq_append_getElem hl, opsN_snoc, encN_append]
        have hlk : k ≤ 10000 := by
          have h1 := hown.1
          rw [byteN_length] at h1
          have h2 := encN_ten (opsN (l.take j)) (fun m hm => by obtain ⟨y, _, hy⟩ := List.mem_flatMap.1 hm; exact opN_lt y m hy)
          have h3 : (opsN (l.take j)).length = (l.take j).length * 5 := opsN_length _
          have h4 : (l.take j).length ≤ j := by rw [List.length_take]; omega
          omega
        rw [← hvo] at c4
        have e0 := u64N_wrap o.kind
        have e1 := u64N_wrap o.a
        have e2 := u64N_wrap o.b
        have e3 := u64N_wrap o.c
        have HOp : Hid (opN o = [u64N o.kind, u64N o.a, u64N o.b, u64N o.c, u64N o.v]) := rfl
        have HLt := Lib.hid (opN_lt o)
        obtain ⟨kind, oa, ob, oc, ov⟩ := o
        dsimp only at c0 c1 c2 c3 c4 e0 e1 e2 e3 HOp hvo
        generalize u64N kind = k0 at *
        generalize u64N oa = k1 at *
        generalize u64N ob = k2 at *
        generalize u64N oc = k3 at *
        generalize u64N ov = k4 at *
        generalize opN ⟨kind, oa, ob, oc, ov⟩ = ns at *
        have hNs := HOp.out
        subst hNs
        have DO := Blk.new wo 52 #[.int .i64 kind, .int .i64 oa, .int .i64 ob, .int .i64 oc, .int .u64 k4]
        have d0 := DO.cell 0
        have d1 := DO.cell 1
        have d2 := DO.cell 2
        have d3 := DO.cell 3
        have d4 := DO.cell 4
        simp only [List.getElem?_toArray, List.getElem?_cons_zero, List.getElem?_cons_succ] at d0 d1 d2 d3 d4
        have hownA := hown.alloc (.cells #[.int .i64 kind, .int .i64 oa, .int .i64 ob, .int .i64 oc, .int .u64 k4] 52)
        have hbA := hb.alloc hb.size (.cells #[.int .i64 kind, .int .i64 oa, .int .i64 ob, .int .i64 oc, .int .u64 k4] 52)
        clear hown hb ho hmem hvo DO HOp
        go_wp2_with fail
        go_loopw [4, 33] (fun o2 i2 wr => ∃ (p : Nat) (A2 : Option Addr) (q c2 : Nat), p ≤ 5 ∧ i2 = .int .i64 p ∧ o2 = .slice A2 q c2 ∧ wr.ownsRow w.heap.size 5 1 (.slice A2 q c2) q (byteN (encN (opsN (l.take j)) ++ encN ([k0, k1, k2, k3, k4].take p))) ∧ Below w.heap.size w wr) (fun _ i2 _ => 5 - (intOf i2).toNat)
        case atStart => exact ⟨0, A', k, c', Nat.zero_le _, rfl, rfl, by simpa [encN] using hownA, hbA⟩
        case round =>
          obtain ⟨p, A2, q, c2, hp, rfl, rfl, hown2, hb2⟩ := hrel
          by_cases hlt2 : p < 5
          · obtain ⟨m, hm⟩ : ∃ m, [k0, k1, k2, k3, k4][p]? = some m := ⟨_, List.getElem?_eq_getElem (by simpa using hlt2)⟩
            have hm64 := HLt.out m (List.mem_of_getElem? hm)
            have hX : (Instr.index 70 (.agg #[.int .u64 k0, .int .u64 k1, .int .u64 k2, .int .u64 k3, .int .u64 k4]) (.int .i64 p)).run Tryz.prog wr = .ok (.int .u64 m) wr := by
              rw [idxU .u64 5 70 45 Tryz.underlying70 Tryz.underlying45 (size_ofN (by kernel_rfl)) #[.int .u64 k0, .int .u64 k1, .int .u64 k2, .int .u64 k3, .int .u64 k4] p hlt2 rfl wr]
              congr 1
              have : p = 0 ∨ p = 1 ∨ p = 2 ∨ p = 3 ∨ p = 4 := by omega
              rcases this with rfl | rfl | rfl | rfl | rfl <;> (simp at hm; subst hm; rfl)
            have HQ : Hid (encN ([k0, k1, k2, k3, k4].take (p + 1)) = encN ([k0, k1, k2, k3, k4].take p) ++ varN m) := by
              obtain ⟨hl, rfl⟩ := List.getElem?_eq_some_iff.1 hm
              exact encN_take hl
            have hq : q ≤ 1000000 := by
              have h1 := hown2.1
              rw [byteN_length, List.length_append] at h1
              have h2 := encN_ten ([k0, k1, k2, k3, k4].take p) (fun m hm => HLt.out m (List.mem_of_mem_take hm))
              have h4 : ([k0, k1, k2, k3, k4].take p).length ≤ 5 := by rw [List.length_take]; simp; omega
              have h5 := hownA.1
              rw [byteN_length] at h5
              omega
            have HPut := Lib.hid (HP.out w.heap.size A2 q c2 _ m wr hown2 hb2.size (by omega) hm64)
            clear hm
            go_wp2_with fail
            refine HPut.out.mono ?_
            rintro e w4 ⟨A3, q3, c3, rfl, hown4, hgr, -⟩
            have hb4 : Below w.heap.size w w4 := hb2.grown hgr hb2.size (fun g hg => (hown2.lt g hg).1)
            rw [List.append_assoc, ← HQ.out] at hown4
            go_wp2_with fail
            go_roundw
            case rel => exact ⟨p + 1, A3, q3, c3, by omega, by go_num, rfl, hown4, hb4⟩
            case measure => simp [intOf]; omega
          · obtain rfl : p = 5 := by omega
            rw [show [k0, k1, k2, k3, k4].take 5 = [k0, k1, k2, k3, k4] from rfl, ← HT.out] at hown2
            go_wp2_with fail
            go_roundw
            case rel => exact ⟨j + 1, A2, q, c2, by omega, by go_num, rfl, hown2, hb2⟩
            case measure => simp [intOf]; omega
      · obtain rfl : j = n := by omega
        have hall : l.take j = l := List.take_of_length_le (by rw [HL.out]; exact Nat.le_refl _)
        rw [hall] at hown
        obtain ⟨s, hcv, hbs⟩ := string_of wr w.heap.size A' k c' _ (encN_bytes _) hown
        have HS := Lib.hid hbs
        go_wp2_with fail
        go_ret2
        exact ⟨hb, .inr ⟨by omega, s, rfl, HS.out⟩⟩
end Go.Proofs.YtbmkbnalembbjaaGreatDoor

namespace Go.Proofs.YtbmkbnalembbjaaGreatDoor
open Go.RowKit
theorem RdAt.keep {w w' : World} {g : Nat} {L : List Nat} {b : Bool} {row : Option Nat} (h : RdAt w g L b) (hg : w.grownBy w' row) (hne : some g ≠ row) : RdAt w' g L b := by
  obtain ⟨s, hB, h1, h2⟩ := h
  exact ⟨s, hB.grown hg hne, h1, h2⟩
theorem RdAt.alloc {w : World} {g : Nat} {L : List Nat} {b : Bool} (h : RdAt w g L b) (o : Obj) : RdAt (w.alloc o) g L b := by
  obtain ⟨s, hB, h1, h2⟩ := h
  exact ⟨s, hB.alloc o, h1, h2⟩
theorem RdAt.far {w : World} {g : Nat} {L : List Nat} {b : Bool} (h : RdAt w g L b) {p : Addr} (hp : g ≠ p.block) (u : Value) : RdAt (w.setCell p u) g L b := by
  obtain ⟨s, hB, h1, h2⟩ := h
  exact ⟨s, hB.far hp u, h1, h2⟩
theorem RdAt.lt {w : World} {g : Nat} {L : List Nat} {b : Bool} (h : RdAt w g L b) : g < w.heap.size := by
  obtain ⟨s, hB, -⟩ := h
  exact hB.lt
theorem info_op : (Tryz.prog.info? 52).map (fun i => (i.zero, i.size, i.bytes)) = some (some (.agg #[.int .i64 0, .int .i64 0, .int .i64 0, .int .i64 0, .int .u64 0]), 5, 40) := by kernel_rfl
theorem nonempty_text {s : ByteArray} (h : bytesN s ≠ []) : s.toList.isEmpty = false := by
  rw [ByteArray.toList_eq]
  cases hd : s.data.toList with
  | nil => exact absurd (by unfold bytesN; rw [hd]; rfl) h
  | cons a l => rfl
theorem empty_text {s : ByteArray} (h : bytesN s = []) : s = ⟨#[]⟩ := by
  have h1 : s.data.toList = [] := by
    unfold bytesN at h
    simpa using h
  obtain ⟨⟨l⟩⟩ := s
  simp at h1
  subst h1
  rfl
theorem opsC_snoc (l : List OpV) (o : OpV) : opsC (l ++ [o]) = opsC l ++ opC o := by simp [opsC]
def fiveC (l : List Nat) : Array Value := ((l ++ List.replicate (5 - l.length) 0).map fun (n : Nat) => Value.int .u64 (n : Int)).toArray
theorem five_set : ∀ (l : List Nat) (n : Nat), l.length < 5 → (fiveC l).setIfInBounds l.length (.int .u64 (n : Int)) = fiveC (l ++ [n])
  | [], _, _ => rfl
  | [_], _, _ => rfl
  | [_, _], _, _ => rfl
  | [_, _, _], _, _ => rfl
  | [_, _, _, _], _, _ => rfl
  | _ :: _ :: _ :: _ :: _ :: _, _, h => by simp at h; omega
theorem five_at : ∀ (l : List Nat), l.length < 5 → (fiveC l)[l.length]? = some (.int .u64 0)
  | [], _ => rfl
  | [_], _ => rfl
  | [_, _], _ => rfl
  | [_, _, _], _ => rfl
  | [_, _, _, _], _ => rfl
  | _ :: _ :: _ :: _ :: _ :: _, h => by simp at h; omega
def rdLeft (W : World) (g : Nat) : Nat := match W.cell? ⟨g, 1, none⟩ with
  | some (.bool true) => 0
  | _ => match W.cell? ⟨g, 0, none⟩ with
    | some (.string s) => s.size + 1
    | _ => 0
theorem rdLeft_is {W : World} {g : Nat} {L : List Nat} {b : Bool} (h : RdAt W g L b) : rdLeft W g = if b = true then 0 else L.length + 1 := by
  obtain ⟨s, hB, rfl, -⟩ := h
  unfold rdLeft
  rw [show W.cell? ⟨g, 1, none⟩ = some (.bool b) from hB.cell 1, show W.cell? ⟨g, 0, none⟩ = some (.string s) from hB.cell 0]
  cases b
  · rw [if_neg (by decide), bytesN_length]
  · rfl
theorem numsR_left (k : Nat) (L : List Nat) (hk : 0 < k) : (numsR k L false).2.2 = true ∨ (numsR k L false).2.1.length < L.length := by
  induction k with
  | zero => omega
  | succ k ih =>
    show (numR (numsR k L false).2.1 (numsR k L false).2.2).2.2 = true ∨ (numR (numsR k L false).2.1 (numsR k L false).2.2).2.1.length < L.length
    obtain ⟨P, hP⟩ := numsR_suffix k L false
    have hle : (numsR k L false).2.1.length ≤ L.length := by
      have := congrArg List.length hP
      rw [List.length_append] at this
      omega
    unfold numR
    split
    · rename_i n R e he
      obtain ⟨Q, hQ, h⟩ := numI_shorter _ _ _ _ _ _ he
      have h1 := congrArg List.length h
      have h2 : 0 < Q.length := List.length_pos_iff.2 hQ
      rw [List.length_append] at h1
      right
      show R.length < L.length
      omega
    · exact .inl rfl
set_option maxRecDepth 100000 in
set_option maxHeartbeats 4000000 in
theorem readOps_any (s : ByteArray) (w : World) (hs : s.size ≤ 16777216) :
    Calls Tryz.prog 9 #[.string s] w fun e w' => Below w.heap.size w w' ∧
      ((∃ (os : List OpV) (A' : Option Addr) (c' : Nat), OpsRead (bytesN s) os ∧ os.length ≤ 200 ∧ e = .returned (.tuple #[.slice A' os.length c', .int .i64 0]) ∧ w'.ownsRow w.heap.size 52 5 (.slice A' os.length c') os.length (opsC os)) ∨
       ((∀ l : List OpV, (∀ o ∈ l, OpW o) → l.length ≤ 200 → bytesN s ≠ encN (opsN l)) ∧ e = .returned (.tuple #[.slice none 0 0, .int .i64 3]))) := by
  obtain ⟨i0, hi, hz0, hz1, hz2⟩ := info_parts info_op
  have HNum := Lib.hid (fun g L b w hR => num_any g L b w hR)
  obtain ⟨T, hT⟩ : ∃ T, T = bytesN s := ⟨_, rfl⟩
  have HTl : Hid (T.length ≤ 16777216) := by show _ ≤ _; rw [hT, bytesN_length]; exact hs
  have hstart : ReadAt T [] T false := ReadAt.start (by rw [hT]; exact bytesN_lt s)
  have DR := Blk.new w 79 #[.string s, .bool false]
  have hrd : RdAt (w.alloc (.cells #[.string s, .bool false] 79)) w.heap.size T false := ⟨s, DR, hT.symm, by omega⟩
  have hb0 := below_new w (.cells #[.string s, .bool false] 79)
  rw [← hT]
  have HSt := Lib.hid hstart
  have HRd := Lib.hid hrd
  clear DR hT hstart hrd hs
  go_enter Tryz.func9, Tryz.ntmps9
  go_wp2_with fail
  go_loopw [5] (fun o wr => ∃ (os : List OpV) (L : List Nat) (b : Bool) (A' : Option Addr) (k c' : Nat), o = .slice A' k c' ∧ Hid (RdAt wr w.heap.size L b) ∧ Hid (ReadAt T os L b) ∧ Hid (k = os.length ∧ k ≤ 16777216) ∧ wr.ownsRow (w.heap.size + 1) 52 5 (.slice A' k c') k (opsC os) ∧ Below w.heap.size w wr) (fun _ W => rdLeft W w.heap.size)
  case atStart => exact ⟨[], T, false, none, 0, 0, rfl, HRd, HSt, ⟨rfl, by omega⟩, World.ownsRow_nil _ _ _ _, hb0⟩
  case round =>
    obtain ⟨os, L, b, A', k, c', rfl, HR, HA, HK, hown, hb⟩ := hrel
    have hR := HR.out
    obtain ⟨s1, hB, hsL, hs1⟩ := hR
    have k0 := hB.cell 0
    have k1 := hB.cell 1
    simp only [List.getElem?_toArray, List.getElem?_cons_zero, List.getElem?_cons_succ] at k0 k1
    cases b
    · by_cases hne : L = []
      · subst hne
        obtain rfl := empty_text hsL
        have hK := HK.out
        have HRo := Lib.hid hown
        clear hB hsL hown
        have hb' := hb
        by_cases h200 : 200 < k
        · have g1 : decide (200 < k) = true := decide_eq_true h200
          have g2 : decide ((200 : Int) < (k : Int)) = true := decide_eq_true (by omega)
          go_wp2_with fail
          go_ret2
          refine ⟨hb', .inr ⟨fun l hl h2 hT => ?_, rfl⟩⟩
          have := HA.out.only hl hT
          subst this
          omega
        · have g1 : decide (200 < k) = false := decide_eq_false h200
          have g2 : decide ((200 : Int) < (k : Int)) = false := decide_eq_false (by omega)
          go_wp2_with fail
          go_ret2
          have h1 := hK.1
          subst h1
          exact ⟨hb', .inl ⟨os, A', c', HA.out.done, by omega, rfl, own_mono HRo.out (by omega)⟩⟩
      · have he := nonempty_text (by rw [hsL]; exact hne)
        have hK := HK.out
        have hkl : k * 5 ≤ 16777216 := by
          have h1 := HA.out.few
          have h2 := HTl.out
          rw [← hK.1] at h1
          omega
        have HNx := Lib.hid (HA.out.next hne)
        have HLf := Lib.hid (rdLeft_is HR.out)
        have HQ := Lib.hid (numsR_left 5 L (by decide))
        have HN5 := Lib.hid (And.intro (numsR_length 5 L false) (numsR_lt 5 L false))
        have D6 := Blk.new wr 70 #[.int .u64 0, .int .u64 0, .int .u64 0, .int .u64 0, .int .u64 0]
        have HR6 := Lib.hid (HR.out.alloc (.cells #[.int .u64 0, .int .u64 0, .int .u64 0, .int .u64 0, .int .u64 0] 70))
        have hown6 := hown.alloc (.cells #[.int .u64 0, .int .u64 0, .int .u64 0, .int .u64 0, .int .u64 0] 70)
        have hb6 := hb.alloc hb.size (.cells #[.int .u64 0, .int .u64 0, .int .u64 0, .int .u64 0, .int .u64 0] 70)
        have hrw := hB.lt
        obtain ⟨wo, hwo⟩ : ∃ x, x = wr := ⟨wr, rfl⟩
        subst hwo
        clear hB hsL hown hb hK
        go_wp2_with fail
        go_loopw [23] (fun i wr => ∃ p : Nat, p ≤ 5 ∧ i = .int .i64 p ∧ Hid (RdAt wr w.heap.size (numsR p L false).2.1 (numsR p L false).2.2) ∧ Blk wr wo.heap.size 70 (fiveC (numsR p L false).1) ∧ wr.ownsRow (w.heap.size + 1) 52 5 (.slice A' k c') k (opsC os) ∧ Below w.heap.size w wr) (fun i _ => 5 - (intOf i).toNat)
        case atStart => exact ⟨0, by omega, rfl, HR6, D6, hown6, hb6⟩
        case round =>
          obtain ⟨p, hp, rfl, HRp, hBp, hownp, hbp⟩ := hrel
          by_cases hlt : p < 5
          · have HN1 := Lib.hid (HNum.out w.heap.size (numsR p L false).2.1 (numsR p L false).2.2 wr HRp.out)
            have hnl := numsR_length p L false
            go_wp2_with fail
            refine HN1.out.mono ?_
            rintro e w4 ⟨rfl, hR4, hg4⟩
            have hB4 := hBp.grown hg4 (by intro e; injection e with e; omega)
            have hown4 := own_grown hownp hg4 (fun g h1 h2 => by have := (hownp.lt g h1).1; injection h2 with h2; omega)
            have hb4 := hbp.grown hg4 hbp.size (fun g h1 => by injection h1 with h1; omega)
            have f4 := hB4.frozen p
            have c4 : w4.cell? ⟨wo.heap.size, p, none⟩ = some (.int .u64 0) := by
              have := five_at (numsR p L false).1 (by omega)
              rw [hnl] at this
              exact (hB4.cell p).trans this
            have hR5 := hR4.far (p := ⟨wo.heap.size, p, none⟩) (by dsimp only; omega) (.int .u64 (numR (numsR p L false).2.1 (numsR p L false).2.2).1)
            have hown5 := own_apart hown4 (p := ⟨wo.heap.size, p, none⟩) (own_blk_ne hown4 hB4 (by decide)) (.int .u64 (numR (numsR p L false).2.1 (numsR p L false).2.2).1)
            have hb5 := hb4.setCell (p := ⟨wo.heap.size, p, none⟩) (by dsimp only; omega) (.int .u64 (numR (numsR p L false).2.1 (numsR p L false).2.2).1)
            have HB5 := Lib.hid (hB4.set_ p (.int .u64 (numR (numsR p L false).2.1 (numsR p L false).2.2).1))
            have HFive : Hid ((fiveC (numsR p L false).1).setIfInBounds p (.int .u64 (numR (numsR p L false).2.1 (numsR p L false).2.2).1) = fiveC (numsR (p + 1) L false).1) := by
              have := five_set (numsR p L false).1 (numR (numsR p L false).2.1 (numsR p L false).2.2).1 (by omega)
              rw [hnl] at this
              exact this
            have hrel : Hid (Hid (RdAt (w4.setCell ⟨wo.heap.size, p, none⟩ (.int .u64 (numR (numsR p L false).2.1 (numsR p L false).2.2).1)) w.heap.size (numsR (p + 1) L false).2.1 (numsR (p + 1) L false).2.2) ∧ Blk (w4.setCell ⟨wo.heap.size, p, none⟩ (.int .u64 (numR (numsR p L false).2.1 (numsR p L false).2.2).1)) wo.heap.size 70 (fiveC (numsR (p + 1) L false).1)) := ⟨hR5, by rw [← HFive.out]; exact HB5.out⟩
            generalize (numR (numsR p L false).2.1 (numsR p L false).2.2).1 = m at *
            clear hB4 hR4 hg4 HB5 HFive hR5
            go_wp2_with fail
            go_roundw
            case rel => exact ⟨p + 1, by omega, by go_num, hrel.out.1, hrel.out.2, hown5, hb5⟩
            case measure => simp [intOf]; omega
          · obtain rfl : p = 5 := by omega
            rw [show ((5 : Nat) : Int) = 5 from rfl]
            generalize numsR 5 L false = q at *
            obtain ⟨ns, L', b'⟩ := q
            obtain ⟨n0, n1, n2, n3, n4, rfl⟩ : ∃ a b c d e, ns = [a, b, c, d, e] := list5n HN5.out.1
            have hd0 := hBp.cell 0
            have hd1 := hBp.cell 1
            have hd2 := hBp.cell 2
            have hd3 := hBp.cell 3
            have hd4 := hBp.cell 4
            have d0 : wr.cell? ⟨wo.heap.size, 0, none⟩ = some (.int .u64 n0) := hd0
            have d1 : wr.cell? ⟨wo.heap.size, 1, none⟩ = some (.int .u64 n1) := hd1
            have d2 : wr.cell? ⟨wo.heap.size, 2, none⟩ = some (.int .u64 n2) := hd2
            have d3 : wr.cell? ⟨wo.heap.size, 3, none⟩ = some (.int .u64 n3) := hd3
            have d4 : wr.cell? ⟨wo.heap.size, 4, none⟩ = some (.int .u64 n4) := hd4
            have HO : Hid (opC (opOf [n0, n1, n2, n3, n4]) = [.int .i64 (i64N n0), .int .i64 (i64N n1), .int .i64 (i64N n2), .int .i64 (i64N n3), .int .u64 n4]) := rfl
            have e0 : IntKind.i64.wrap (n0 : Int) = i64N n0 := IntWalk.i64_left _
            have e1 : IntKind.i64.wrap (n1 : Int) = i64N n1 := IntWalk.i64_left _
            have e2 : IntKind.i64.wrap (n2 : Int) = i64N n2 := IntWalk.i64_left _
            have e3 : IntKind.i64.wrap (n3 : Int) = i64N n3 := IntWalk.i64_left _
            have f0 : wrap64 (n0 : Int) = i64N n0 := rfl
            have f1 : wrap64 (n1 : Int) = i64N n1 := rfl
            have f2 : wrap64 (n2 : Int) = i64N n2 := rfl
            have f3 : wrap64 (n3 : Int) = i64N n3 := rfl
            generalize i64N n0 = k0 at *
            generalize i64N n1 = k1 at *
            generalize i64N n2 = k2 at *
            generalize i64N n3 = k3 at *
            generalize opOf [n0, n1, n2, n3, n4] = o at *
            have hown7 := hownp.alloc (.cells #[.int .i64 k0, .int .i64 k1, .int .i64 k2, .int .i64 k3, .int .u64 n4] 52)
            have hnew := reads_new wr [.int .i64 k0, .int .i64 k1, .int .i64 k2, .int .i64 k3, .int .u64 n4] 52 1 5 rfl
            have hb7 := hbp.alloc hbp.size (.cells #[.int .i64 k0, .int .i64 k1, .int .i64 k2, .int .i64 k3, .int .u64 n4] 52)
            have hR7 := HRp.out.alloc (.cells #[.int .i64 k0, .int .i64 k1, .int .i64 k2, .int .i64 k3, .int .u64 n4] 52)
            have hs7 := hbp.size
            have hrl := HRp.out.lt
            dsimp only at HNx HQ
            clear hd0 hd1 hd2 hd3 hd4 hownp hBp
            go_wp2_with (at_builtin; refine wpList_append_any _ rfl (.tmp 31) (.tmp 47) 29 rfl (w.heap.size + 1) 52 i0 _ 5 40 Tryz.underlying29 hi hz0 hz1 hz2 rfl (by decide) (.slice A' k c') k _ rfl hown7 (wr.heap.size + 1) (some ⟨wr.heap.size, 0, none⟩) 1 1 [.int .i64 k0, .int .i64 k1, .int .i64 k2, .int .i64 k3, .int .u64 n4] rfl hnew (by simp [Value.oneCell']) (by simp [maxLen]; omega) (by omega) (by simp; omega) ?_; rintro v' w8 hown8 hgr hbl -; obtain ⟨A3, c3, rfl⟩ := own_slice hown8)
            have hR8 := hR7.keep hgr (fun e => by have := (hown7.lt _ e.symm).1; omega)
            have hb8 := hb7.grown hgr hb7.size (fun g hg => by have := (hown7.lt g hg).1; omega)
            have hkl2 := HK.out.1
            go_roundw
            case rel => exact ⟨os ++ [o], L', b', A3, k + 1, c3, rfl, hR8, HNx.out, ⟨by rw [List.length_append, ← hkl2]; rfl, by omega⟩, by rw [opsC_snoc, HO.out]; exact hown8, hb8⟩
            case measure =>
              rw [HLf.out, rdLeft_is hR8]
              show (if b' = true then 0 else L'.length + 1) < (if false = true then 0 else L.length + 1)
              simp only [Bool.false_eq_true, if_false]
              rcases HQ.out with h | h
              · rw [if_pos h]; omega
              · split <;> omega
    · clear hB hsL
      have hb' := hb
      cases he : s1.toList.isEmpty
      all_goals
        go_wp2_with fail
        go_ret2
        exact ⟨hb', .inr ⟨fun l hl _ hT => HA.out.none hl hT, rfl⟩⟩
end Go.Proofs.YtbmkbnalembbjaaGreatDoor

namespace Go.Proofs.YtbmkbnalembbjaaGreatDoor
def fA (l : List Nat) : Int := (l.getD 0 0 : Nat)
def fR (l : List Nat) : Int := RowKit.wrap64 (i64N (l.getD 0 0) - 1)
def fP (l : List Nat) : Rn := ⟨i64N (l.getD 0 0), i64N (l.getD 1 0)⟩
def fH (l : List Nat) : Slot := ⟨i64N (l.getD 0 0), decide (l.getD 1 0 = 1), i64N (l.getD 2 0)⟩
def badH (l : List Nat) : Bool := decide (1 < l.getD 1 0)
def noBad (_ : List Nat) : Bool := false
def gA (x : Int) : List Nat := [u64N x]
def gR (v : Int) : List Nat := [u64N (RowKit.wrap64 (v + 1))]
def gP (p : Rn) : List Nat := [u64N p.loc, u64N p.len]
def gH (s : Slot) : List Nat := [u64N s.gen, if s.opn then 1 else 0, u64N s.loc]
theorem list1n {l : List Nat} (h : l.length = 1) : ∃ a, l = [a] := by
  match l, h with
  | [a], _ => exact ⟨a, rfl⟩
structure StW (S : St) : Prop where
  a : ∀ x ∈ S.a, 0 ≤ x ∧ x < 18446744073709551616
  r : ∀ v ∈ S.r, -1 ≤ v ∧ v < 9223372036854775807
  p : ∀ x ∈ S.p, i64R x.loc ∧ i64R x.len
  l : ∀ s ∈ S.l, i64R s.gen ∧ i64R s.loc
def bodyN (S : St) : List Nat := S.a.flatMap gA ++ (S.r.flatMap gR ++ (S.p.flatMap gP ++ S.l.flatMap gH))
def stN (S : St) : List Nat := S.a.length :: S.r.length :: S.p.length :: S.l.length :: bodyN S
theorem fA_gA : ∀ x : Int, (0 ≤ x ∧ x < 18446744073709551616) → (gA x).length = 1 ∧ (∀ n ∈ gA x, n < 2 ^ 64) ∧ fA (gA x) = x ∧ noBad (gA x) = false := by
  intro x h
  refine ⟨rfl, fun n hn => ?_, ?_, rfl⟩
  · rw [List.mem_singleton.1 hn]; exact u64N_lt _
  · exact u64N_id h
theorem fR_gR : ∀ x : Int, (-1 ≤ x ∧ x < 9223372036854775807) → (gR x).length = 1 ∧ (∀ n ∈ gR x, n < 2 ^ 64) ∧ fR (gR x) = x ∧ noBad (gR x) = false := by
  intro x h
  refine ⟨rfl, fun n hn => ?_, ?_, rfl⟩
  · rw [List.mem_singleton.1 hn]; exact u64N_lt _
  · exact root_forth h
theorem fP_gP : ∀ x : Rn, (i64R x.loc ∧ i64R x.len) → (gP x).length = 2 ∧ (∀ n ∈ gP x, n < 2 ^ 64) ∧ fP (gP x) = x ∧ noBad (gP x) = false := by
  rintro ⟨a, b⟩ ⟨h1, h2⟩
  refine ⟨rfl, fun n hn => ?_, ?_, rfl⟩
  · simp only [gP, List.mem_cons, List.not_mem_nil, or_false] at hn
    rcases hn with rfl | rfl <;> exact u64N_lt _
  · simp only [gP, fP, List.getD_cons_zero, List.getD_cons_succ]
    rw [i64N_u64N h1, i64N_u64N h2]
theorem fH_gH : ∀ x : Slot, (i64R x.gen ∧ i64R x.loc) → (gH x).length = 3 ∧ (∀ n ∈ gH x, n < 2 ^ 64) ∧ fH (gH x) = x ∧ badH (gH x) = false := by
  rintro ⟨g, o, l⟩ ⟨h1, h2⟩
  refine ⟨rfl, fun n hn => ?_, ?_, ?_⟩
  · simp only [gH, List.mem_cons, List.not_mem_nil, or_false] at hn
    rcases hn with rfl | rfl | rfl
    · exact u64N_lt _
    · split <;> decide
    · exact u64N_lt _
  · simp only [gH, fH, List.getD_cons_zero, List.getD_cons_succ]
    rw [i64N_u64N h1, i64N_u64N h2]
    cases o <;> rfl
  · cases o <;> rfl
def readS (T : List Nat) : St × List Nat × Bool :=
  let c1 := cntR T false
  let c2 := cntR c1.2.1 c1.2.2
  let c3 := cntR c2.2.1 c2.2.2
  let c4 := cntR c3.2.1 c3.2.2
  let A := recR 1 fA noBad c1.1 c4.2.1 c4.2.2
  let R := recR 1 fR noBad c2.1 A.2.1 A.2.2
  let P := recR 2 fP noBad c3.1 R.2.1 R.2.2
  let H := recR 3 fH badH c4.1 P.2.1 P.2.2
  (⟨A.1, R.1, P.1, H.1⟩, H.2)
theorem flat_len1 {α : Type} (g : α → List Nat) (h : ∀ x, 1 ≤ (g x).length) (l : List α) : l.length ≤ (l.flatMap g).length := by
  induction l with
  | nil => simp
  | cons x l ih =>
    have := h x
    simp only [List.flatMap_cons, List.length_append, List.length_cons]
    omega
theorem readS_put {S : St} (hS : StW S) (h1 : S.a.length < 2 ^ 64) (h2 : S.r.length < 2 ^ 64) (h3 : S.p.length < 2 ^ 64) (h4 : S.l.length < 2 ^ 64) : readS (encN (stN S)) = (S, [], false) := by
  have q1 := flat_len1 gA (fun _ => Nat.le_refl _) S.a
  have q2 := flat_len1 gR (fun _ => Nat.le_refl _) S.r
  have q3 := flat_len1 gP (fun _ => by show 1 ≤ 2; omega) S.p
  have q4 := flat_len1 gH (fun _ => by show 1 ≤ 3; omega) S.l
  have hB : encN (bodyN S) = encN (S.a.flatMap gA) ++ (encN (S.r.flatMap gR) ++ (encN (S.p.flatMap gP) ++ (encN (S.l.flatMap gH) ++ []))) := by
    unfold bodyN
    rw [encN_append, encN_append, encN_append, List.append_nil]
  have hlen := encN_len (bodyN S)
  have hbl : (bodyN S).length = (S.a.flatMap gA).length + ((S.r.flatMap gR).length + ((S.p.flatMap gP).length + (S.l.flatMap gH).length)) := by
    unfold bodyN
    simp only [List.length_append]
  have e0 : encN (stN S) = varN S.a.length ++ (varN S.r.length ++ (varN S.p.length ++ (varN S.l.length ++ encN (bodyN S)))) := by
    unfold stN
    rw [encN, List.flatMap_cons, List.flatMap_cons, List.flatMap_cons, List.flatMap_cons]
    rfl
  unfold readS
  rw [e0]
  rw [cntR_put (n := S.a.length) h1 (by simp only [List.length_append]; omega)]
  simp only
  rw [cntR_put (n := S.r.length) h2 (by simp only [List.length_append]; omega)]
  simp only
  rw [cntR_put (n := S.p.length) h3 (by simp only [List.length_append]; omega)]
  simp only
  rw [cntR_put (n := S.l.length) h4 (by omega)]
  simp only
  rw [hB, recR_put fA_gA _ S.a _ _ rfl hS.a]
  simp only
  rw [recR_put fR_gR _ S.r _ _ rfl hS.r]
  simp only
  rw [recR_put fP_gP _ S.p _ _ rfl hS.p]
  simp only
  rw [recR_put fH_gH _ S.l _ _ rfl hS.l]
theorem readS_wf (T : List Nat) : ∀ x ∈ (readS T).1.a, 0 ≤ x ∧ x < 18446744073709551616 := by
  intro x hx
  obtain ⟨l, rfl, h, hl⟩ := recR_all (m := 1) (f := fA) (bad := noBad) _ _ _ x hx
  obtain ⟨a, rfl⟩ := list1n h
  have := hl a (by simp)
  show 0 ≤ (a : Int) ∧ (a : Int) < 18446744073709551616
  omega
end Go.Proofs.YtbmkbnalembbjaaGreatDoor

namespace Go.Proofs.YtbmkbnalembbjaaGreatDoor
open Go.RowKit
structure RdSt (w wr : World) (gs : Nat) (A : Option Addr) (n c : Nat) (RA : Option Addr) (rn rc : Nat) (PA : Option Addr) (pn pc : Nat) (HA : Option Addr) (hn hc : Nat) (S : St) (L : List Nat) (b : Bool) : Prop where
  rd : RdAt wr (w.heap.size + 1) L b
  res : Blk wr w.heap.size 28 #[.slice none 0 0, .slice none 0 0, .slice none 0 0, .slice none 0 0]
  box : Blk wr gs 28 #[.slice A n c, .slice RA rn rc, .slice PA pn pc, .slice HA hn hc]
  lo : w.heap.size + 2 ≤ gs
  own : StO wr w.heap.size A n c RA rn rc PA pn pc HA hn hc S
  hb : Below w.heap.size w wr
theorem RdAt.own_ne {w : World} {g base size k : Nat} {e : TypeId} {v : Value} {xs : List Value} {L : List Nat} {b : Bool} (h : RdAt w g L b) (ho : w.ownsRow base e size v k xs) (hne : e ≠ 79) : v.ownBlock ≠ some g := by
  obtain ⟨s, hB, -⟩ := h
  exact own_blk_ne ho hB hne
section
variable {w wr w4 : World} {gs : Nat} {A : Option Addr} {n c : Nat} {RA : Option Addr} {rn rc : Nat} {PA : Option Addr} {pn pc : Nat} {HA : Option Addr} {hn hc : Nat} {S : St} {L : List Nat} {b : Bool}
theorem RdSt.alloc (h : RdSt w wr gs A n c RA rn rc PA pn pc HA hn hc S L b) (o : Obj) : RdSt w (wr.alloc o) gs A n c RA rn rc PA pn pc HA hn hc S L b :=
  ⟨h.rd.alloc o, h.res.alloc o, h.box.alloc o, h.lo, h.own.below (below_new wr o), h.hb.alloc h.hb.size o⟩
theorem RdSt.drew (h : RdSt w wr gs A n c RA rn rc PA pn pc HA hn hc S L b) : RdSt w wr.drew gs A n c RA rn rc PA pn pc HA hn hc S L b :=
  ⟨h.rd, h.res, h.box, h.lo, h.own.drew, h.hb.drew⟩
theorem RdSt.num {L' : List Nat} {b' : Bool} (h : RdSt w wr gs A n c RA rn rc PA pn pc HA hn hc S L b) (hg : wr.grownBy w4 (some (w.heap.size + 1))) (hr : RdAt w4 (w.heap.size + 1) L' b') : RdSt w w4 gs A n c RA rn rc PA pn pc HA hn hc S L' b' :=
  ⟨hr, h.res.grown hg (by intro e; injection e with e; omega), h.box.grown hg (by intro e; injection e with e; have := h.lo; omega), h.lo,
    ⟨own_grown h.own.a hg (fun g h1 h2 => h.rd.own_ne h.own.a (by decide) (by rw [h1, h2])), own_grown h.own.r hg (fun g h1 h2 => h.rd.own_ne h.own.r (by decide) (by rw [h1, h2])), own_grown h.own.p hg (fun g h1 h2 => h.rd.own_ne h.own.p (by decide) (by rw [h1, h2])), own_grown h.own.l hg (fun g h1 h2 => h.rd.own_ne h.own.l (by decide) (by rw [h1, h2]))⟩,
    h.hb.grown hg h.hb.size (fun g h1 => by injection h1 with h1; omega)⟩
theorem RdSt.bad {x : Bool} (h : RdSt w wr gs A n c RA rn rc PA pn pc HA hn hc S L b) : RdSt w (wr.setCell ⟨w.heap.size + 1, 1, none⟩ (.bool x)) gs A n c RA rn rc PA pn pc HA hn hc S L x := by
  obtain ⟨s, hB, h1, h2⟩ := h.rd
  exact h.num (grown_cell wr (w.heap.size + 1) 1 (.bool x)) ⟨s, hB.set_ 1 (.bool x), h1, h2⟩
theorem RdSt.put0 {ys : List Int} {X : Option Addr} {x xc : Nat} (h : RdSt w wr gs A n c RA rn rc PA pn pc HA hn hc S L b) (hg : wr.grownBy w4 (Value.slice A n c).ownBlock) (hown : w4.ownsRow w.heap.size 45 1 (.slice X x xc) x (ys.map (.int .u64))) :
    RdSt w (w4.setCell ⟨gs, 0, none⟩ (.slice X x xc)) gs X x xc RA rn rc PA pn pc HA hn hc { S with a := ys } L b :=
  ⟨(h.rd.keep hg (fun e => h.rd.own_ne h.own.a (by decide) e.symm)).far (by have := h.lo; dsimp only; omega) _, (h.res.grown hg (fun e => own_blk_ne h.own.a h.res (by decide) e.symm)).far (by have := h.lo; dsimp only; omega) _,
    (h.box.grown hg (fun e => own_blk_ne h.own.a h.box (by decide) e.symm)).set_ 0 (.slice X x xc), h.lo,
    ⟨own_apart hown (p := ⟨gs, 0, none⟩) (own_blk_ne hown (h.box.grown hg (fun e => own_blk_ne h.own.a h.box (by decide) e.symm)) (by decide)) _, own_apart (own_grown h.own.r hg (fun g h1 h2 => own_types h.own.r h.own.a (by decide) h1 h2)) (p := ⟨gs, 0, none⟩) (own_blk_ne (own_grown h.own.r hg (fun g h1 h2 => own_types h.own.r h.own.a (by decide) h1 h2)) (h.box.grown hg (fun e => own_blk_ne h.own.a h.box (by decide) e.symm)) (by decide)) _, own_apart (own_grown h.own.p hg (fun g h1 h2 => own_types h.own.p h.own.a (by decide) h1 h2)) (p := ⟨gs, 0, none⟩) (own_blk_ne (own_grown h.own.p hg (fun g h1 h2 => own_types h.own.p h.own.a (by decide) h1 h2)) (h.box.grown hg (fun e => own_blk_ne h.own.a h.box (by decide) e.symm)) (by decide)) _, own_apart (own_grown h.own.l hg (fun g h1 h2 => own_types h.own.l h.own.a (by decide) h1 h2)) (p := ⟨gs, 0, none⟩) (own_blk_ne (own_grown h.own.l hg (fun g h1 h2 => own_types h.own.l h.own.a (by decide) h1 h2)) (h.box.grown hg (fun e => own_blk_ne h.own.a h.box (by decide) e.symm)) (by decide)) _⟩,
    (h.hb.grown hg h.hb.size (fun g h1 => (h.own.a.lt g h1).1)).setCell (by have := h.lo; dsimp only; omega) _⟩
theorem RdSt.put1 {ys : List Int} {X : Option Addr} {x xc : Nat} (h : RdSt w wr gs A n c RA rn rc PA pn pc HA hn hc S L b) (hg : wr.grownBy w4 (Value.slice RA rn rc).ownBlock) (hown : w4.ownsRow w.heap.size 3 1 (.slice X x xc) x (ys.map (.int .i64))) :
    RdSt w (w4.setCell ⟨gs, 1, none⟩ (.slice X x xc)) gs A n c X x xc PA pn pc HA hn hc { S with r := ys } L b :=
  ⟨(h.rd.keep hg (fun e => h.rd.own_ne h.own.r (by decide) e.symm)).far (by have := h.lo; dsimp only; omega) _, (h.res.grown hg (fun e => own_blk_ne h.own.r h.res (by decide) e.symm)).far (by have := h.lo; dsimp only; omega) _,
    (h.box.grown hg (fun e => own_blk_ne h.own.r h.box (by decide) e.symm)).set_ 1 (.slice X x xc), h.lo,
    ⟨own_apart (own_grown h.own.a hg (fun g h1 h2 => own_types h.own.a h.own.r (by decide) h1 h2)) (p := ⟨gs, 1, none⟩) (own_blk_ne (own_grown h.own.a hg (fun g h1 h2 => own_types h.own.a h.own.r (by decide) h1 h2)) (h.box.grown hg (fun e => own_blk_ne h.own.r h.box (by decide) e.symm)) (by decide)) _, own_apart hown (p := ⟨gs, 1, none⟩) (own_blk_ne hown (h.box.grown hg (fun e => own_blk_ne h.own.r h.box (by decide) e.symm)) (by decide)) _, own_apart (own_grown h.own.p hg (fun g h1 h2 => own_types h.own.p h.own.r (by decide) h1 h2)) (p := ⟨gs, 1, none⟩) (own_blk_ne (own_grown h.own.p hg (fun g h1 h2 => own_types h.own.p h.own.r (by decide) h1 h2)) (h.box.grown hg (fun e => own_blk_ne h.own.r h.box (by decide) e.symm)) (by decide)) _, own_apart (own_grown h.own.l hg (fun g h1 h2 => own_types h.own.l h.own.r (by decide) h1 h2)) (p := ⟨gs, 1, none⟩) (own_blk_ne (own_grown h.own.l hg (fun g h1 h2 => own_types h.own.l h.own.r (by decide) h1 h2)) (h.box.grown hg (fun e => own_blk_ne h.own.r h.box (by decide) e.symm)) (by decide)) _⟩,
    (h.hb.grown hg h.hb.size (fun g h1 => (h.own.r.lt g h1).1)).setCell (by have := h.lo; dsimp only; omega) _⟩
theorem RdSt.put2 {ys : List Rn} {X : Option Addr} {x xc : Nat} (h : RdSt w wr gs A n c RA rn rc PA pn pc HA hn hc S L b) (hg : wr.grownBy w4 (Value.slice PA pn pc).ownBlock) (hown : w4.ownsRow w.heap.size 57 2 (.slice X x xc) x (runsC ys)) :
    RdSt w (w4.setCell ⟨gs, 2, none⟩ (.slice X x xc)) gs A n c RA rn rc X x xc HA hn hc { S with p := ys } L b :=
  ⟨(h.rd.keep hg (fun e => h.rd.own_ne h.own.p (by decide) e.symm)).far (by have := h.lo; dsimp only; omega) _, (h.res.grown hg (fun e => own_blk_ne h.own.p h.res (by decide) e.symm)).far (by have := h.lo; dsimp only; omega) _,
    (h.box.grown hg (fun e => own_blk_ne h.own.p h.box (by decide) e.symm)).set_ 2 (.slice X x xc), h.lo,
    ⟨own_apart (own_grown h.own.a hg (fun g h1 h2 => own_types h.own.a h.own.p (by decide) h1 h2)) (p := ⟨gs, 2, none⟩) (own_blk_ne (own_grown h.own.a hg (fun g h1 h2 => own_types h.own.a h.own.p (by decide) h1 h2)) (h.box.grown hg (fun e => own_blk_ne h.own.p h.box (by decide) e.symm)) (by decide)) _, own_apart (own_grown h.own.r hg (fun g h1 h2 => own_types h.own.r h.own.p (by decide) h1 h2)) (p := ⟨gs, 2, none⟩) (own_blk_ne (own_grown h.own.r hg (fun g h1 h2 => own_types h.own.r h.own.p (by decide) h1 h2)) (h.box.grown hg (fun e => own_blk_ne h.own.p h.box (by decide) e.symm)) (by decide)) _, own_apart hown (p := ⟨gs, 2, none⟩) (own_blk_ne hown (h.box.grown hg (fun e => own_blk_ne h.own.p h.box (by decide) e.symm)) (by decide)) _, own_apart (own_grown h.own.l hg (fun g h1 h2 => own_types h.own.l h.own.p (by decide) h1 h2)) (p := ⟨gs, 2, none⟩) (own_blk_ne (own_grown h.own.l hg (fun g h1 h2 => own_types h.own.l h.own.p (by decide) h1 h2)) (h.box.grown hg (fun e => own_blk_ne h.own.p h.box (by decide) e.symm)) (by decide)) _⟩,
    (h.hb.grown hg h.hb.size (fun g h1 => (h.own.p.lt g h1).1)).setCell (by have := h.lo; dsimp only; omega) _⟩
theorem RdSt.put3 {ys : List Slot} {X : Option Addr} {x xc : Nat} (h : RdSt w wr gs A n c RA rn rc PA pn pc HA hn hc S L b) (hg : wr.grownBy w4 (Value.slice HA hn hc).ownBlock) (hown : w4.ownsRow w.heap.size 60 3 (.slice X x xc) x (slotsC ys)) :
    RdSt w (w4.setCell ⟨gs, 3, none⟩ (.slice X x xc)) gs A n c RA rn rc PA pn pc X x xc { S with l := ys } L b :=
  ⟨(h.rd.keep hg (fun e => h.rd.own_ne h.own.l (by decide) e.symm)).far (by have := h.lo; dsimp only; omega) _, (h.res.grown hg (fun e => own_blk_ne h.own.l h.res (by decide) e.symm)).far (by have := h.lo; dsimp only; omega) _,
    (h.box.grown hg (fun e => own_blk_ne h.own.l h.box (by decide) e.symm)).set_ 3 (.slice X x xc), h.lo,
    ⟨own_apart (own_grown h.own.a hg (fun g h1 h2 => own_types h.own.a h.own.l (by decide) h1 h2)) (p := ⟨gs, 3, none⟩) (own_blk_ne (own_grown h.own.a hg (fun g h1 h2 => own_types h.own.a h.own.l (by decide) h1 h2)) (h.box.grown hg (fun e => own_blk_ne h.own.l h.box (by decide) e.symm)) (by decide)) _, own_apart (own_grown h.own.r hg (fun g h1 h2 => own_types h.own.r h.own.l (by decide) h1 h2)) (p := ⟨gs, 3, none⟩) (own_blk_ne (own_grown h.own.r hg (fun g h1 h2 => own_types h.own.r h.own.l (by decide) h1 h2)) (h.box.grown hg (fun e => own_blk_ne h.own.l h.box (by decide) e.symm)) (by decide)) _, own_apart (own_grown h.own.p hg (fun g h1 h2 => own_types h.own.p h.own.l (by decide) h1 h2)) (p := ⟨gs, 3, none⟩) (own_blk_ne (own_grown h.own.p hg (fun g h1 h2 => own_types h.own.p h.own.l (by decide) h1 h2)) (h.box.grown hg (fun e => own_blk_ne h.own.l h.box (by decide) e.symm)) (by decide)) _, own_apart hown (p := ⟨gs, 3, none⟩) (own_blk_ne hown (h.box.grown hg (fun e => own_blk_ne h.own.l h.box (by decide) e.symm)) (by decide)) _⟩,
    (h.hb.grown hg h.hb.size (fun g h1 => (h.own.l.lt g h1).1)).setCell (by have := h.lo; dsimp only; omega) _⟩
end
end Go.Proofs.YtbmkbnalembbjaaGreatDoor
