/-
  Texts joined: QPlayFn FullG StoreFull Repeat WordNew QStNew QSameSt CloneB.
-/
import Derived.Shelf.Bits.Mul64
import Derived.Ground.NamesProg
import Derived.Shelf.Lay
import Derived.IntWalk
import Derived.Test.YtbmkbnalembbjaaGreatDoorQ0
import Derived.Test.YtbmkbnalembbjaaGreatDoorQ1
import Derived.Test.YtbmkbnalembbjaaGreatDoorQ2
import Derived.Test.YtbmkbnalembbjaaGreatDoorQ3
import Derived.Test.YtbmkbnalembbjaaGreatDoorQ5
import Derived.Test.YtbmkbnalembbjaaGreatDoorQ9
import Derived.Test.YtbmkbnalembbjaaGreatDoorQ13
import Derived.Test.YtbmkbnalembbjaaGreatDoorQ14
import Derived.Test.YtbmkbnalembbjaaGreatDoorQ15
import Derived.Test.YtbmkbnalembbjaaGreatDoorQ16
import Derived.Test.YtbmkbnalembbjaaGreatDoorQ19
import Derived.Test.YtbmkbnalembbjaaGreatDoorQ21
namespace Go.Proofs.YtbmkbnalembbjaaGreatDoor
open Go.RowKit
def toldC (t : ToldV) : List Value := [.int .i64 t.e, .int .u64 t.v]
def toldsC (l : List ToldV) : List Value := l.flatMap toldC
theorem toldsC_snoc (l : List ToldV) (t : ToldV) : toldsC (l ++ [t]) = toldsC l ++ toldC t := by simp [toldsC]
theorem info_told : (Tryz.prog.info? 47).map (fun i => (i.zero, i.size, i.bytes)) = some (some (.agg #[.int .i64 0, .int .u64 0]), 2, 16) := by kernel_rfl
theorem Reads.told {w : World} {B : Nat} {A : Option Addr} {n j : Nat} {l : List ToldV} (h : Reads w B 2 A n (toldsC l)) (hj : j < n) :
    ∃ ad t, A = some ad ∧ ad.block < B ∧ l[j]? = some t ∧ w.cell? (ad.add (j * 2)) = some (.int .i64 t.e) ∧ w.cell? ⟨(ad.add (j * 2)).block, (ad.add (j * 2)).off + 1, none⟩ = some (.int .u64 t.v) := by
  obtain ⟨ad, o, e, hb, ho, h0, hi⟩ := Reads.elem (f := toldC) (k := 2) (fun _ => rfl) h (by decide) hj
  exact ⟨ad, o, e, hb, ho, h0, hi 1 (by decide) (by decide)⟩
theorem StO.grown {w w' : World} {base : Nat} {A : Option Addr} {n c : Nat} {RA : Option Addr} {rn rc : Nat} {PA : Option Addr} {pn pc : Nat} {HA : Option Addr} {hn hc : Nat} {S : St} (h : StO w base A n c RA rn rc PA pn pc HA hn hc S)
    {base' size m : Nat} {e : TypeId} {v : Value} {xs : List Value} (ho : w.ownsRow base' e size v m xs) (hg : w.grownBy w' v.ownBlock) (h1 : e ≠ 45) (h2 : e ≠ 3) (h3 : e ≠ 57) (h4 : e ≠ 60) : StO w' base A n c RA rn rc PA pn pc HA hn hc S :=
  ⟨own_grownT h.a hg (fun _ hg' => own_types h.a.1 ho h1.symm hg'), own_grownT h.r hg (fun _ hg' => own_types h.r.1 ho h2.symm hg'), own_grownT h.p hg (fun _ hg' => own_types h.p.1 ho h3.symm hg'), own_grownT h.l hg (fun _ hg' => own_types h.l.1 ho h4.symm hg')⟩
theorem StO.alloc {w : World} {base : Nat} {A : Option Addr} {n c : Nat} {RA : Option Addr} {rn rc : Nat} {PA : Option Addr} {pn pc : Nat} {HA : Option Addr} {hn hc : Nat} {S : St} (h : StO w base A n c RA rn rc PA pn pc HA hn hc S) (o : Obj) : StO (w.alloc o) base A n c RA rn rc PA pn pc HA hn hc S :=
  ⟨h.a.alloc o, h.r.alloc o, h.p.alloc o, h.l.alloc o⟩
def playE (S : St) (k : Nat) : Int := if stE S ≠ 0 then stE S else if 200 < k then 2 else 0
theorem playE_zero {S : St} {k : Nat} (h : playE S k = 0) : StOk S ∧ k ≤ 200 := by
  unfold playE at h
  split at h
  · rename_i h0; exact absurd h h0
  · rename_i h0
    split at h
    · cases h
    · exact ⟨stE_ok.1 (by simpa using h0), by omega⟩
theorem play_take {S : St} {l : List OpV} {j : Nat} {o : OpV} (ho : l[j]? = some o) : playS S (l.take (j + 1)) = nextS (playS S (l.take j)) o ∧ playT S (l.take (j + 1)) = playT S (l.take j) ++ [toldS (playS S (l.take j)) o] := by
  obtain ⟨q, rfl⟩ := List.getElem?_eq_some_iff.1 ho
  rw [List.take_succ_eq_append_getElem q, playS_app, playT_app]
  exact ⟨rfl, rfl⟩
theorem StGood.known {S : St} (h : StGood S) {w : World} {base : Nat} {A : Option Addr} {n c : Nat} {RA : Option Addr} {rn rc : Nat} {PA : Option Addr} {pn pc : Nat} {HA : Option Addr} {hn hc : Nat} (hO : StO w base A n c RA rn rc PA pn pc HA hn hc S) : StK n c rn pn hn S := hO.known h.wf
set_option maxRecDepth 100000 in
set_option maxHeartbeats 4000000 in
theorem play_bad (A : Option Addr) (n c : Nat) (RA : Option Addr) (rn rc : Nat) (PA : Option Addr) (pn pc : Nat) (HA : Option Addr) (hn hc : Nat) (S : St) (OA : Option Addr) (on oc : Nat) (w : World) (hR : StR w w.heap.size A n RA rn PA pn HA hn S) (hK : StK n c rn pn hn S) (hE : playE S on ≠ 0) :
    Calls Tryz.prog 11 #[.agg #[.slice A n c, .slice RA rn rc, .slice PA pn pc, .slice HA hn hc], .slice OA on oc] w fun e w' => Below w.heap.size w w' ∧ e = .returned (.tuple #[.agg #[.slice none 0 0, .slice none 0 0, .slice none 0 0, .slice none 0 0], .slice none 0 0, .int .i64 (playE S on)]) := by
  have HCk := Lib.hid (fun w hR => stcheck_any A n c RA rn rc PA pn pc HA hn hc S w hR hK)
  have HX : Hid (playE S on = if stE S ≠ 0 then stE S else if 200 < on then 2 else 0) := rfl
  have HE := Lib.hid hE
  generalize playE S on = F at *
  generalize stE S = E at *
  have hb := (below_new w (.cells #[.slice A n c, .slice RA rn rc, .slice PA pn pc, .slice HA hn hc] 28)).alloc (by simp) (.cells #[.slice none 0 0, .slice none 0 0, .slice none 0 0, .slice none 0 0] 28)
  have DS := (Blk.new w 28 #[.slice A n c, .slice RA rn rc, .slice PA pn pc, .slice HA hn hc]).alloc (.cells #[.slice none 0 0, .slice none 0 0, .slice none 0 0, .slice none 0 0] 28)
  have DR := Blk.new (w.alloc (.cells #[.slice A n c, .slice RA rn rc, .slice PA pn pc, .slice HA hn hc] 28)) 28 #[.slice none 0 0, .slice none 0 0, .slice none 0 0, .slice none 0 0]
  rw [World.size_alloc] at DR
  obtain ⟨s0, s1, s2, s3⟩ := DS.four
  clear hE
  go_enter Tryz.func11, Tryz.ntmps11
  go_wp2_with fail
  refine (HCk.out _ ((hR.below hb).more hb.size)).mono ?_
  rintro e w2 ⟨rfl, hb2⟩
  have hb02 := below_step hb hb2
  have DR2 := DR.below hb2 DR.lt
  clear s0 s1 s2 s3
  obtain ⟨r0, r1, r2, r3⟩ := DR2.four
  obtain ⟨f0, f1, f2, f3⟩ := DR2.four_frozen
  by_cases h0 : E = 0
  · subst h0
    have h1 : 200 < on := by
      refine Classical.byContradiction fun h => HE.out ?_
      rw [HX.out, if_neg (fun h => h rfl), if_neg h]
    have g1 : decide (200 < on) = true := decide_eq_true h1
    have g1' : decide ((200 : Int) < (on : Int)) = true := decide_eq_true (by omega)
    have HF : Hid (F = 2) := by show _ = _; rw [HX.out, if_neg (fun h => h rfl), if_pos h1]
    clear h1
    go_wp2_with fail
    refine bodyPost_ret (v := .tuple #[.agg #[.slice none 0 0, .slice none 0 0, .slice none 0 0, .slice none 0 0], .slice none 0 0, .int .i64 2]) ?_ rfl ⟨below_block4 (g := w.heap.size + 1) hb02 (Nat.le_succ _) _ _ _ _, by rw [HF.out]⟩
    obtain ⟨z0, z1, z2, z3⟩ := (DR2.store4 (.slice none 0 0) (.slice none 0 0) (.slice none 0 0) (.slice none 0 0)).four
    simp only [results, Tryz.results11]
    go_simp
  · have g1 : (E == 0) = false := by simpa using h0
    have g2 : (E != 0) = true := by simpa using h0
    have HF : Hid (F = E) := by show _ = _; rw [HX.out, if_pos h0]
    clear h0
    go_wp2_with fail
    refine bodyPost_ret (v := .tuple #[.agg #[.slice none 0 0, .slice none 0 0, .slice none 0 0, .slice none 0 0], .slice none 0 0, .int .i64 E]) ?_ rfl ⟨below_block4 (g := w.heap.size + 1) hb02 (Nat.le_succ _) _ _ _ _, by rw [HF.out]⟩
    obtain ⟨z0, z1, z2, z3⟩ := (DR2.store4 (.slice none 0 0) (.slice none 0 0) (.slice none 0 0) (.slice none 0 0)).four
    simp only [results, Tryz.results11]
    go_simp
structure PlayAt (w wr : World) (S : St) (T : Option Addr) (j tc : Nat) (l : List OpV) (B1 : Option Addr) (n1 d1 : Nat) (B2 : Option Addr) (n2 d2 : Nat) (B3 : Option Addr) (n3 d3 : Nat) (B4 : Option Addr) (n4 d4 : Nat) : Prop where
  below : Below w.heap.size w wr
  cell : Blk wr w.heap.size 28 #[.slice B1 n1 d1, .slice B2 n2 d2, .slice B3 n3 d3, .slice B4 n4 d4]
  res : Blk wr (w.heap.size + 1) 28 #[.slice none 0 0, .slice none 0 0, .slice none 0 0, .slice none 0 0]
  own : StO wr w.heap.size B1 n1 d1 B2 n2 d2 B3 n3 d3 B4 n4 d4 (playS S (l.take j))
  good : StGood (playS S (l.take j))
  told : wr.ownsRow w.heap.size 47 2 (.slice T j tc) j (toldsC (playT S (l.take j)))
set_option maxRecDepth 100000 in
set_option maxHeartbeats 2000000 in
theorem play_ok (A : Option Addr) (n c : Nat) (RA : Option Addr) (rn rc : Nat) (PA : Option Addr) (pn pc : Nat) (HA : Option Addr) (hn hc : Nat) (S : St) (OA : Option Addr) (on oc : Nat) (l : List OpV) (w : World) (hR : StR w w.heap.size A n RA rn PA pn HA hn S) (hK : StK n c rn pn hn S)
    (hOK : StOk S) (hn2 : on ≤ 200) (hr : Reads w w.heap.size 5 OA on (opsC l)) (hv : ∀ o ∈ l, (Lit.int .u64 o.v).wf = true) (hT : FTab w) :
    Calls Tryz.prog 11 #[.agg #[.slice A n c, .slice RA rn rc, .slice PA pn pc, .slice HA hn hc], .slice OA on oc] w fun e w' => Below w.heap.size w w' ∧
      ∃ (B1 : Option Addr) (n1 d1 : Nat) (B2 : Option Addr) (n2 d2 : Nat) (B3 : Option Addr) (n3 d3 : Nat) (B4 : Option Addr) (n4 d4 : Nat) (T : Option Addr) (tc : Nat), e = .returned (.tuple #[.agg #[.slice B1 n1 d1, .slice B2 n2 d2, .slice B3 n3 d3, .slice B4 n4 d4], .slice T on tc, .int .i64 0]) ∧
        StO w' w.heap.size B1 n1 d1 B2 n2 d2 B3 n3 d3 B4 n4 d4 (playS S l) ∧ w'.ownsRow w.heap.size 47 2 (.slice T on tc) on (toldsC (playT S l)) := by
  obtain ⟨i0, hi, hz0, hz1, hz2⟩ := info_parts info_told
  have HCk := Lib.hid (fun w hR => stcheck_any A n c RA rn rc PA pn pc HA hn hc S w hR hK)
  rw [stE_ok.2 hOK] at HCk
  obtain ⟨y1, y2, y3, y4, -⟩ := hOK.lens
  obtain ⟨z1, z2, z3, z4⟩ := hR.lens
  have HOw := Lib.hid (fun w hR => pown_any A n c RA rn rc PA pn pc HA hn hc S w hR (by omega) (by omega) (by omega) (by omega))
  have g1 : decide (200 < on) = false := decide_eq_false (by omega)
  have g1' : decide ((200 : Int) < (on : Int)) = false := decide_eq_false (by omega)
  have HN := Lib.hid hn2
  have HG : Hid (StGood S) := ⟨hOK, hK.wf⟩
  have HV := Lib.hid hv
  have HT := Lib.hid hT
  have HL : Hid (l.length = on) := by have := hr.1; rw [opsC_length] at this; show _ = _; omega
  have hb := (below_new w (.cells #[.slice A n c, .slice RA rn rc, .slice PA pn pc, .slice HA hn hc] 28)).alloc (by simp) (.cells #[.slice none 0 0, .slice none 0 0, .slice none 0 0, .slice none 0 0] 28)
  have DS := (Blk.new w 28 #[.slice A n c, .slice RA rn rc, .slice PA pn pc, .slice HA hn hc]).alloc (.cells #[.slice none 0 0, .slice none 0 0, .slice none 0 0, .slice none 0 0] 28)
  have DR := Blk.new (w.alloc (.cells #[.slice A n c, .slice RA rn rc, .slice PA pn pc, .slice HA hn hc] 28)) 28 #[.slice none 0 0, .slice none 0 0, .slice none 0 0, .slice none 0 0]
  rw [World.size_alloc] at DR
  obtain ⟨s0, s1, s2, s3⟩ := DS.four
  clear y1 y2 y3 y4 z1 z2 z3 z4 hn2 hv hT hOK hK
  go_enter Tryz.func11, Tryz.ntmps11
  go_wp2_with fail
  refine (HCk.out _ ((hR.below hb).more hb.size)).mono ?_
  rintro e w2 ⟨rfl, hb2⟩
  have hb02 := below_step hb hb2
  have DS2 := DS.below hb2 DS.lt
  have DR2 := DR.below hb2 DR.lt
  clear s0 s1 s2 s3 hb hb2 DS DR HCk
  obtain ⟨s0, s1, s2, s3⟩ := DS2.four
  go_wp2_with fail
  refine (HOw.out _ ((hR.below hb02).more hb02.size)).mono ?_
  rintro e w3 ⟨hb3, B1, d1, B2, d2, B3, d3, B4, d4, rfl, hO⟩
  have hb03 := below_step hb02 hb3
  have DS3 := DS2.below hb3 DS2.lt
  have DR3 := DR2.below hb3 DR2.lt
  clear s0 s1 s2 s3
  obtain ⟨s0, s1, s2, s3⟩ := DS3.four
  obtain ⟨f0, f1, f2, f3⟩ := DS3.four_frozen
  have hO3 := (hO.mono hb02.size).store DS3 (.slice B1 n d1) (.slice B2 rn d2) (.slice B3 pn d3) (.slice B4 hn d4)
  have hb04 := below_block4 (g := w.heap.size) hb03 (Nat.le_refl _) (.slice B1 n d1) (.slice B2 rn d2) (.slice B3 pn d3) (.slice B4 hn d4)
  have DS4 := DS3.store4 (.slice B1 n d1) (.slice B2 rn d2) (.slice B3 pn d3) (.slice B4 hn d4)
  have DR4 := DR3.far4 (g' := w.heap.size) (by omega) (.slice B1 n d1) (.slice B2 rn d2) (.slice B3 pn d3) (.slice B4 hn d4)
  clear DS2 DR2 hb02 hb3 hO DS3 DR3 hb03
  go_wp2_with fail
  clear s0 s1 s2 s3 f0 f1 f2 f3
  go_loopw [8, 31] (fun o i wr => ∃ (j : Nat) (T : Option Addr) (tc : Nat) (B1 : Option Addr) (n1 d1 : Nat) (B2 : Option Addr) (n2 d2 : Nat) (B3 : Option Addr) (n3 d3 : Nat) (B4 : Option Addr) (n4 d4 : Nat), j ≤ on ∧ i = .int .i64 j ∧ o = .slice T j tc ∧ PlayAt w wr S T j tc l B1 n1 d1 B2 n2 d2 B3 n3 d3 B4 n4 d4) (fun _ i _ => on - (intOf i).toNat)
  case atStart => exact ⟨0, none, 0, B1, n, d1, B2, rn, d2, B3, pn, d3, B4, hn, d4, Nat.zero_le _, rfl, rfl, ⟨hb04, DS4, DR4, hO3, HG.out, World.ownsRow_nil _ _ _ _⟩⟩
  case round =>
    clear hb04 DS4 DR4 hO3
    obtain ⟨j, T, tc, G1, n1, p1, G2, n2, p2, G3, n3, p3, G4, n4, p4, hj, rfl, rfl, hP⟩ := hrel
    by_cases hlt : j < on
    · obtain ⟨ad, o, rfl, had, ho, c0, c1, c2, c3, c4⟩ := (hr.below hP.below).op hlt
      have HX := Lib.hid (play_take (S := S) ho)
      have hvo := HV.out o (List.mem_of_getElem? ho)
      have hv0 : 0 ≤ o.v ∧ o.v < 18446744073709551616 := by simp [Lit.wf, IntKind.min, IntKind.max, IntKind.signed, IntKind.bits] at hvo; omega
      have HDo := Lib.hid (fun w hR hT => do_any G1 n1 p1 G2 n2 p2 G3 n3 p3 G4 n4 p4 (playS S (l.take j)) o w hR (hP.good.known hP.own) hT hv0.1 hv0.2)
      have HGd := Lib.hid (nextS_good hP.good o hvo)
      obtain ⟨S1, hS1⟩ : ∃ S1, S1 = playS S (l.take j) := ⟨_, rfl⟩
      have hPo := hP.own
      have hPt := hP.told
      rw [← hS1] at HDo HGd hPo HX
      obtain ⟨X, hX⟩ : ∃ X, X = doO S1 o := ⟨_, rfl⟩
      rw [← hX] at HDo
      have HN1 : Hid ((X.er = 0 → nextS S1 o = X.st) ∧ (X.er ≠ 0 → nextS S1 o = S1) ∧ toldS S1 o = ⟨X.er, X.told⟩ ∧ (X.er ≠ 0 → X.told = 0)) := by
        show _ ∧ _
        rw [hX]
        exact ⟨fun h => if_pos h, fun h => if_neg h, rfl, doO_told S1 o⟩
      obtain ⟨L1, hL1⟩ : ∃ L1, L1 = playT S (l.take j) := ⟨_, rfl⟩
      rw [← hL1] at HX hPt
      have DS := hP.cell
      have DR := hP.res
      have hbr := hP.below
      have hba := hbr.alloc hbr.size (.cells #[.int .i64 o.kind, .int .i64 o.a, .int .i64 o.b, .int .i64 o.c, .int .u64 o.v] 52)
      have DSa := DS.alloc (.cells #[.int .i64 o.kind, .int .i64 o.a, .int .i64 o.b, .int .i64 o.c, .int .u64 o.v] 52)
      have DRa := DR.alloc (.cells #[.int .i64 o.kind, .int .i64 o.a, .int .i64 o.b, .int .i64 o.c, .int .u64 o.v] 52)
      have hOa := hPo.alloc (.cells #[.int .i64 o.kind, .int .i64 o.a, .int .i64 o.b, .int .i64 o.c, .int .u64 o.v] 52)
      have hTa := hPt.alloc (.cells #[.int .i64 o.kind, .int .i64 o.a, .int .i64 o.b, .int .i64 o.c, .int .u64 o.v] 52)
      have DO := Blk.new wr 52 #[.int .i64 o.kind, .int .i64 o.a, .int .i64 o.b, .int .i64 o.c, .int .u64 o.v]
      have hj200 : j < 200 := by have := HN.out; omega
      obtain ⟨s0, s1, s2, s3⟩ := DSa.four
      obtain ⟨k0, k1, k2, k3, k4⟩ := DO.five
      clear hP hvo hv0 hS1 hX hL1 hPo hPt DS DR hbr DO ho
      go_wp2_with fail
      refine (HDo.out _ hOa.reads (HT.out.below hba)).mono ?_
      rintro e w5 ⟨hb5, ⟨hz, E1, m1, e1, E2, m2, e2, E3, m3, e3, E4, m4, e4, rfl, hO⟩ | ⟨hnz, rfl⟩⟩
      · have hb05 := below_step hba hb5
        have hb06 := hb05.alloc hb05.size (.cells #[.slice E1 m1 e1, .slice E2 m2 e2, .slice E3 m3 e3, .slice E4 m4 e4] 28)
        have DN := Blk.new w5 28 #[.slice E1 m1 e1, .slice E2 m2 e2, .slice E3 m3 e3, .slice E4 m4 e4]
        have DS6 := (DSa.below hb5 DSa.lt).alloc (.cells #[.slice E1 m1 e1, .slice E2 m2 e2, .slice E3 m3 e3, .slice E4 m4 e4] 28)
        have DR6 := (DRa.below hb5 DRa.lt).alloc (.cells #[.slice E1 m1 e1, .slice E2 m2 e2, .slice E3 m3 e3, .slice E4 m4 e4] 28)
        have hO6 := (hO.mono hba.size).alloc (.cells #[.slice E1 m1 e1, .slice E2 m2 e2, .slice E3 m3 e3, .slice E4 m4 e4] 28)
        have hT6 := (own_below hTa hb5).alloc (.cells #[.slice E1 m1 e1, .slice E2 m2 e2, .slice E3 m3 e3, .slice E4 m4 e4] 28)
        obtain ⟨vt, hvt⟩ : ∃ v, v = X.told := ⟨_, rfl⟩
        rw [← hvt]
        have HVT := Lib.hid hvt
        have HZ := Lib.hid hz
        have DS7 := DS6.store4 (.slice E1 m1 e1) (.slice E2 m2 e2) (.slice E3 m3 e3) (.slice E4 m4 e4)
        have DR7 := DR6.far4 (g' := w.heap.size) (by omega) (.slice E1 m1 e1) (.slice E2 m2 e2) (.slice E3 m3 e3) (.slice E4 m4 e4)
        have hO7 := hO6.store DS6 (.slice E1 m1 e1) (.slice E2 m2 e2) (.slice E3 m3 e3) (.slice E4 m4 e4)
        have hT7 := own_block4 hT6 DS6 (by decide) (.slice E1 m1 e1) (.slice E2 m2 e2) (.slice E3 m3 e3) (.slice E4 m4 e4)
        have hb07 := below_block4 (g := w.heap.size) hb06 (Nat.le_refl _) (.slice E1 m1 e1) (.slice E2 m2 e2) (.slice E3 m3 e3) (.slice E4 m4 e4)
        have hnew := reads_new (((((w5.alloc (.cells #[.slice E1 m1 e1, .slice E2 m2 e2, .slice E3 m3 e3, .slice E4 m4 e4] 28)).setCell ⟨w.heap.size, 0, none⟩ (.slice E1 m1 e1)).setCell ⟨w.heap.size, 1, none⟩ (.slice E2 m2 e2)).setCell ⟨w.heap.size, 2, none⟩ (.slice E3 m3 e3)).setCell ⟨w.heap.size, 3, none⟩ (.slice E4 m4 e4)) (toldC ⟨0, vt⟩) 47 1 2 rfl
        have hsz : (((((w5.alloc (.cells #[.slice E1 m1 e1, .slice E2 m2 e2, .slice E3 m3 e3, .slice E4 m4 e4] 28)).setCell ⟨w.heap.size, 0, none⟩ (.slice E1 m1 e1)).setCell ⟨w.heap.size, 1, none⟩ (.slice E2 m2 e2)).setCell ⟨w.heap.size, 2, none⟩ (.slice E3 m3 e3)).setCell ⟨w.heap.size, 3, none⟩ (.slice E4 m4 e4)).heap.size = w5.heap.size + 1 := by simp
        rw [hsz] at hnew
        clear hsz
        have hT8 := hT7.alloc (.cells #[.int .i64 0, .int .u64 vt] 47)
        have hO8 := hO7.alloc (.cells #[.int .i64 0, .int .u64 vt] 47)
        have DS8 := DS7.alloc (.cells #[.int .i64 0, .int .u64 vt] 47)
        have DR8 := DR7.alloc (.cells #[.int .i64 0, .int .u64 vt] 47)
        have hb08 := hb07.alloc hb07.size (.cells #[.int .i64 0, .int .u64 vt] 47)
        have hbs := hb08.size
        clear s0 s1 s2 s3 k0 k1 k2 k3 k4 DSa DRa hOa hTa HDo hb5 hb05 hO hvt DR6 hO6 hT6 hb06 hba hz DS7 DR7 hO7 hT7 hb07
        obtain ⟨s0, s1, s2, s3⟩ := DS6.four
        obtain ⟨f0, f1, f2, f3⟩ := DS6.four_frozen
        obtain ⟨q0, q1, q2, q3⟩ := DN.four
        clear DS6 DN
        go_wp2_with (at_builtin; refine wpList_append_any _ rfl (.tmp 45) (.tmp 49) 40 rfl w.heap.size 47 i0 _ 2 16 Tryz.underlying40 hi hz0 hz1 hz2 rfl (by decide) (.slice T j tc) j _ rfl hT8 _ (some ⟨w5.heap.size + 1, 0, none⟩) 1 1 (toldC ⟨0, vt⟩) rfl hnew (by simp [toldC, Value.oneCell']) (by unfold maxLen; omega) (by omega) hbs ?_; rintro v' w7 hO9 hg9 - -; obtain ⟨T', tc', rfl⟩ := own_slice hO9)
        have hb9 := hb08.grown hg9 hbs (fun g hg => (hT8.lt g hg).1)
        have DS9 := DS8.grown hg9 (fun h => own_blk_ne hT8 DS8 (by decide) h.symm)
        have DR9 := DR8.grown hg9 (fun h => own_blk_ne hT8 DR8 (by decide) h.symm)
        have hO10 := hO8.grown hT8 hg9 (by decide) (by decide) (by decide) (by decide)
        have HO9 := Lib.hid hO9
        clear s0 s1 s2 s3 f0 f1 f2 f3 q0 q1 q2 q3 hT8 hO8 DS8 DR8 hb08 hbs hnew hg9 hO9
        go_roundw
        case rel => exact ⟨j + 1, T', tc', E1, m1, e1, E2, m2, e2, E3, m3, e3, E4, m4, e4, by omega, by go_num, rfl, ⟨hb9, DS9, DR9, by rw [HX.out.1, HN1.out.1 HZ.out]; exact hO10, by rw [HX.out.1]; exact HGd.out, by rw [HX.out.2, toldsC_snoc, HN1.out.2.2.1, HZ.out, ← HVT.out]; exact HO9.out⟩⟩
        case measure => simp [intOf]; omega
      · have hb05 := below_step hba hb5
        have hb06 := hb05.alloc hb05.size (.cells #[.slice none 0 0, .slice none 0 0, .slice none 0 0, .slice none 0 0] 28)
        have DS6 := (DSa.below hb5 DSa.lt).alloc (.cells #[.slice none 0 0, .slice none 0 0, .slice none 0 0, .slice none 0 0] 28)
        have DR6 := (DRa.below hb5 DRa.lt).alloc (.cells #[.slice none 0 0, .slice none 0 0, .slice none 0 0, .slice none 0 0] 28)
        have hO6 := (hOa.below hb5).alloc (.cells #[.slice none 0 0, .slice none 0 0, .slice none 0 0, .slice none 0 0] 28)
        have hT6 := (own_below hTa hb5).alloc (.cells #[.slice none 0 0, .slice none 0 0, .slice none 0 0, .slice none 0 0] 28)
        obtain ⟨ev, hev⟩ : ∃ v, v = X.er := ⟨_, rfl⟩
        rw [← hev]
        have HEV := Lib.hid hev
        have HNZ := Lib.hid hnz
        have g9 : (ev == 0) = false := by rw [hev]; simpa using hnz
        have hnew := reads_new (w5.alloc (.cells #[.slice none 0 0, .slice none 0 0, .slice none 0 0, .slice none 0 0] 28)) (toldC ⟨ev, 0⟩) 47 1 2 rfl
        rw [World.size_alloc] at hnew
        have hT8 := hT6.alloc (.cells #[.int .i64 ev, .int .u64 0] 47)
        have hO8 := hO6.alloc (.cells #[.int .i64 ev, .int .u64 0] 47)
        have DS8 := DS6.alloc (.cells #[.int .i64 ev, .int .u64 0] 47)
        have DR8 := DR6.alloc (.cells #[.int .i64 ev, .int .u64 0] 47)
        have hb08 := hb06.alloc hb06.size (.cells #[.int .i64 ev, .int .u64 0] 47)
        have hbs := hb08.size
        clear s0 s1 s2 s3 k0 k1 k2 k3 k4 DSa DRa hOa hTa HDo hb5 hb05 hev DS6 DR6 hO6 hT6 hb06 hba hnz
        go_wp2_with (at_builtin; refine wpList_append_any _ rfl (.tmp 45) (.tmp 49) 40 rfl w.heap.size 47 i0 _ 2 16 Tryz.underlying40 hi hz0 hz1 hz2 rfl (by decide) (.slice T j tc) j _ rfl hT8 _ (some ⟨w5.heap.size + 1, 0, none⟩) 1 1 (toldC ⟨ev, 0⟩) rfl hnew (by simp [toldC, Value.oneCell']) (by unfold maxLen; omega) (by omega) hbs ?_; rintro v' w7 hO9 hg9 - -; obtain ⟨T', tc', rfl⟩ := own_slice hO9)
        have hb9 := hb08.grown hg9 hbs (fun g hg => (hT8.lt g hg).1)
        have DS9 := DS8.grown hg9 (fun h => own_blk_ne hT8 DS8 (by decide) h.symm)
        have DR9 := DR8.grown hg9 (fun h => own_blk_ne hT8 DR8 (by decide) h.symm)
        have hO10 := hO8.grown hT8 hg9 (by decide) (by decide) (by decide) (by decide)
        have HO9 := Lib.hid hO9
        clear hT8 hO8 DS8 DR8 hb08 hbs hnew hg9 hO9 g9
        go_roundw
        case rel => exact ⟨j + 1, T', tc', G1, n1, p1, G2, n2, p2, G3, n3, p3, G4, n4, p4, by omega, by go_num, rfl, ⟨hb9, DS9, DR9, by rw [HX.out.1, HN1.out.2.1 HNZ.out]; exact hO10, by rw [HX.out.1]; exact HGd.out, by rw [HX.out.2, toldsC_snoc, HN1.out.2.2.1, HN1.out.2.2.2 HNZ.out, ← HEV.out]; exact HO9.out⟩⟩
        case measure => simp [intOf]; omega
    · obtain rfl : j = on := by omega
      have htk : l.take j = l := List.take_of_length_le (by rw [HL.out]; exact Nat.le_refl _)
      have hPo := hP.own
      have hPt := hP.told
      rw [htk] at hPo hPt
      have DS := hP.cell
      have DR := hP.res
      have hb5 := hP.below
      obtain ⟨s0, s1, s2, s3⟩ := DS.four
      obtain ⟨r0, r1, r2, r3⟩ := DR.four
      obtain ⟨f0, f1, f2, f3⟩ := DR.four_frozen
      clear hP htk
      go_wp2_with fail
      refine bodyPost_ret (v := .tuple #[.agg #[.slice G1 n1 p1, .slice G2 n2 p2, .slice G3 n3 p3, .slice G4 n4 p4], .slice T j tc, .int .i64 0]) ?_ rfl ⟨below_block4 (g := w.heap.size + 1) hb5 (Nat.le_succ _) _ _ _ _, G1, n1, p1, G2, n2, p2, G3, n3, p3, G4, n4, p4, T, tc, rfl, hPo.store DR _ _ _ _, own_block4 hPt DR (by decide) _ _ _ _⟩
      obtain ⟨z0, z1, z2, z3⟩ := (DR.store4 (.slice G1 n1 p1) (.slice G2 n2 p2) (.slice G3 n3 p3) (.slice G4 n4 p4)).four
      simp only [results, Tryz.results11]
      go_simp
end Go.Proofs.YtbmkbnalembbjaaGreatDoor

namespace Go.Proofs.YtbmkbnalembbjaaGreatDoor
open Go.RowKit
def FullG (ok : Nat → Value → Prop) (k : Nat) (t : TypeId) (W : World) (base : Nat) (A : Option Addr) (c : Nat) : Prop := ∃ ys, OwnT W base t k ok (.slice A c c) c ys
section
variable {ok ok' : Nat → Value → Prop} {k k' : Nat} {t t' : TypeId} {W W' : World} {base base' c c' : Nat} {A : Option Addr}
theorem FullG.below (h : FullG ok k t W base A c) (hb : Below W.heap.size W W') : FullG ok k t W' base A c := by
  obtain ⟨ys, h⟩ := h
  exact ⟨ys, h.below hb⟩
theorem FullG.of {n : Nat} {xs : List Value} (h : OwnT W base' t k ok (.slice A n c) n xs) (hb : base ≤ base') : FullG ok k t W base A c := by
  rcases h.1.2 with ⟨h1, h2⟩ | ⟨g, cap, cur, h1, -⟩
  · injection h1 with a1 a2 a3
    subst a1 a2 a3
    exact ⟨xs, h.mono hb⟩
  · injection h1 with a1 a2 a3
    subst a1 a3
    obtain ⟨cur, h1, h2, h3, h4, h5, -, h7⟩ := h.open
    exact ⟨_, (OwnT.close cur h1 h2 (Nat.le_refl _) h4 h5 h7).mono hb⟩
theorem FullG.mono (h : FullG ok k t W base' A c) (hb : base ≤ base') : FullG ok k t W base A c := by
  obtain ⟨ys, h⟩ := h
  exact ⟨ys, h.mono hb⟩
theorem FullG.cap (h : FullG ok k t W base A c) : c ≤ 9223372036854775807 := by
  obtain ⟨ys, h⟩ := h
  rcases h.1.2 with ⟨h1, h2⟩ | ⟨g, cap, cur, h1, -, -, -, h3, -⟩
  · omega
  · injection h1 with a1 a2 a3
    unfold maxLen at h3
    omega
theorem FullG.cell {j : Nat} (h : FullG ok k t W base A c) (hj : j < c * k) : ∃ (g : Nat) (v : Value), A = some ⟨g, 0, none⟩ ∧ base ≤ g ∧ W.cell? ⟨g, j, none⟩ = some v ∧ ok (j % k) v ∧ W.frozen? ⟨g, j, none⟩ = false := by
  obtain ⟨ys, h⟩ := h
  have hc : 0 < c := Nat.pos_of_ne_zero (fun h0 => by rw [h0, Nat.zero_mul] at hj; omega)
  obtain ⟨g, rfl, hg⟩ := own_ptr h.1 hc
  obtain ⟨cur, b1, b2, b3, b4, b5, -, b7⟩ := h.open
  have hB : Blk W g t cur.toArray := b2
  have hl : j < cur.length := by rw [b5]; exact hj
  refine ⟨g, cur[j], rfl, hg, ?_, b7 j _ (List.getElem?_eq_getElem hl), hB.frozen j⟩
  rw [hB.cell, List.getElem?_toArray, List.getElem?_eq_getElem hl]
theorem ownT_put {w : World} {base g n c k : Nat} {e : TypeId} {ok : Nat → Value → Prop} {xs : List Value} (h : OwnT w base e k ok (.slice (some ⟨g, 0, none⟩) n c) n xs) (j : Nat) (u : Value) (hu : ok (j % k) u) :
    OwnT (w.setCell ⟨g, j, none⟩ u) base e k ok (.slice (some ⟨g, 0, none⟩) n c) n (xs.set j u) := by
  obtain ⟨cur, hb, hg, hc, hm, hl, ht, hty⟩ := h.open
  have hB : Blk w g e cur.toArray := hg
  have hB2 := hB.set_ j u
  simp only [List.setIfInBounds_toArray] at hB2
  have := OwnT.close (size := k) (n := n) (c := c) (ok := ok) (cur.set j u) hb hB2 hc hm (by rw [List.length_set]; exact hl) (fun i v hv => by
    by_cases hij : j = i
    · subst hij
      by_cases hlt : j < cur.length
      · rw [List.getElem?_set_self hlt] at hv
        injection hv with hv
        rw [← hv]; exact hu
      · rw [List.set_eq_of_length_le (by omega)] at hv
        exact hty j v hv
    · rw [List.getElem?_set_ne hij] at hv
      exact hty i v hv)
  rw [List.take_set, ht] at this
  exact this
theorem FullG.put {g j : Nat} {u : Value} (h : FullG ok k t W base A c) (hu : ok (j % k) u) : FullG ok k t (W.setCell ⟨g, j, none⟩ u) base A c := by
  obtain ⟨ys, h⟩ := h
  by_cases hb : (Value.slice A c c).ownBlock = some g
  · rcases h.1.2 with ⟨h1, h2⟩ | ⟨g2, cap, cur0, h1, -⟩
    · rw [h1] at hb
      simp [Value.ownBlock] at hb
    · injection h1 with a1 a2 a3
      subst a1
      simp only [Value.ownBlock, Option.some.injEq] at hb
      subst hb
      exact ⟨_, ownT_put h j u hu⟩
  · exact ⟨ys, h.apart (p := ⟨g, j, none⟩) hb u⟩
theorem FullG.far {g j : Nat} {u : Value} (h : FullG ok k t W base A c) (h' : FullG ok' k' t' W base' (some ⟨g, 0, none⟩) c') (ht : t' ≠ t) : FullG ok k t (W.setCell ⟨g, j, none⟩ u) base A c := by
  obtain ⟨ys, h⟩ := h
  obtain ⟨zs, h'⟩ := h'
  exact ⟨ys, h.apart (p := ⟨g, j, none⟩) (own_kinds (g := g) h'.1 h.1 ht rfl) u⟩
end
end Go.Proofs.YtbmkbnalembbjaaGreatDoor

namespace Go.Proofs.YtbmkbnalembbjaaGreatDoor
open Go.RowKit
theorem FullG.nil {ok : Nat → Value → Prop} {k : Nat} {t : TypeId} {W : World} {base : Nat} : FullG ok k t W base none 0 := ⟨[], OwnT.nil _ _ _ _ _⟩
theorem FullG.blk_ne {ok : Nat → Value → Prop} {k : Nat} {t t' : TypeId} {W : World} {base c g g' : Nat} {cs : Array Value} (h : FullG ok k t W base (some ⟨g, 0, none⟩) c) (hB : Blk W g' t' cs) (ht : t ≠ t') : g' ≠ g := by
  obtain ⟨ys, h⟩ := h
  intro e
  subst e
  exact own_blk_ne h.1 hB ht rfl
theorem FullG.at {ok : Nat → Value → Prop} {k : Nat} {t : TypeId} {W : World} {base c j i : Nat} {A : Option Addr} (h : FullG ok k t W base A c) (hj : j < c) (hi : i < k) : ∃ (g : Nat) (v : Value), A = some ⟨g, 0, none⟩ ∧ base ≤ g ∧ W.cell? ⟨g, j * k + i, none⟩ = some v ∧ ok i v ∧ W.frozen? ⟨g, j * k + i, none⟩ = false := by
  have h1 : j * k + i < c * k := by
    have : (j + 1) * k ≤ c * k := Nat.mul_le_mul_right k hj
    rw [Nat.add_mul] at this
    omega
  obtain ⟨g, v, a1, a2, a3, a4, a5⟩ := h.cell h1
  have h2 : (j * k + i) % k = i := by rw [Nat.add_comm, Nat.mul_comm, Nat.add_mul_mod_self_left]; exact Nat.mod_eq_of_lt hi
  rw [h2] at a4
  exact ⟨g, v, a1, a2, a3, a4, a5⟩
structure F4 (W : World) (base : Nat) (A1 : Option Addr) (c1 : Nat) (A2 : Option Addr) (c2 : Nat) (A3 : Option Addr) (c3 : Nat) (A4 : Option Addr) (c4 : Nat) : Prop where
  a : FullG isW 1 45 W base A1 c1
  r : FullG isN 1 3 W base A2 c2
  p : FullG isI 2 57 W base A3 c3
  l : FullG isS 3 60 W base A4 c4
section
variable {W W' : World} {base base' : Nat} {A1 : Option Addr} {c1 : Nat} {A2 : Option Addr} {c2 : Nat} {A3 : Option Addr} {c3 : Nat} {A4 : Option Addr} {c4 : Nat}
theorem F4.nil : F4 W base none 0 none 0 none 0 none 0 := ⟨.nil, .nil, .nil, .nil⟩
theorem F4.below (h : F4 W base A1 c1 A2 c2 A3 c3 A4 c4) (hb : Below W.heap.size W W') : F4 W' base A1 c1 A2 c2 A3 c3 A4 c4 := ⟨h.a.below hb, h.r.below hb, h.p.below hb, h.l.below hb⟩
theorem F4.mono (h : F4 W base' A1 c1 A2 c2 A3 c3 A4 c4) (hb : base ≤ base') : F4 W base A1 c1 A2 c2 A3 c3 A4 c4 := ⟨h.a.mono hb, h.r.mono hb, h.p.mono hb, h.l.mono hb⟩
theorem F4.of {n rn pn hn : Nat} {S : St} (h : StO W base A1 n c1 A2 rn c2 A3 pn c3 A4 hn c4 S) : F4 W base A1 c1 A2 c2 A3 c3 A4 c4 :=
  ⟨FullG.of h.a (Nat.le_refl _), FullG.of h.r (Nat.le_refl _), FullG.of h.p (Nat.le_refl _), FullG.of h.l (Nat.le_refl _)⟩
theorem F4.putA {g j b c : Nat} {x : Int} (h : F4 W base A1 c1 A2 c2 A3 c3 A4 c4) (h' : FullG isW 1 45 W b (some ⟨g, 0, none⟩) c) : F4 (W.setCell ⟨g, j, none⟩ (.int .u64 x)) base A1 c1 A2 c2 A3 c3 A4 c4 :=
  ⟨h.a.put ⟨x, rfl⟩, h.r.far h' (by decide), h.p.far h' (by decide), h.l.far h' (by decide)⟩
theorem F4.putR {g j b c : Nat} {x : Int} (h : F4 W base A1 c1 A2 c2 A3 c3 A4 c4) (h' : FullG isN 1 3 W b (some ⟨g, 0, none⟩) c) : F4 (W.setCell ⟨g, j, none⟩ (.int .i64 x)) base A1 c1 A2 c2 A3 c3 A4 c4 :=
  ⟨h.a.far h' (by decide), h.r.put ⟨x, rfl⟩, h.p.far h' (by decide), h.l.far h' (by decide)⟩
theorem F4.putP {g j b c : Nat} {x : Int} (h : F4 W base A1 c1 A2 c2 A3 c3 A4 c4) (h' : FullG isI 2 57 W b (some ⟨g, 0, none⟩) c) : F4 (W.setCell ⟨g, j, none⟩ (.int .i64 x)) base A1 c1 A2 c2 A3 c3 A4 c4 :=
  ⟨h.a.far h' (by decide), h.r.far h' (by decide), h.p.put ⟨x, rfl⟩, h.l.far h' (by decide)⟩
theorem F4.putL {g j b c : Nat} {x : Int} (h : F4 W base A1 c1 A2 c2 A3 c3 A4 c4) (h' : FullG isS 3 60 W b (some ⟨g, 0, none⟩) c) : F4 (W.setCell ⟨g, j, none⟩ (.int .i64 x)) base A1 c1 A2 c2 A3 c3 A4 c4 :=
  ⟨h.a.far h' (by decide), h.r.far h' (by decide), h.p.far h' (by decide), h.l.put (fun _ => ⟨x, rfl⟩)⟩
end
def FullOut (base : Nat) (e : Ending) (w' : World) : Prop :=
  ∃ (B1 : Option Addr) (n1 d1 : Nat) (B2 : Option Addr) (n2 d2 : Nat) (B3 : Option Addr) (n3 d3 : Nat) (B4 : Option Addr) (n4 d4 : Nat) (x y : Value), e = .returned (.tuple #[.agg #[.slice B1 n1 d1, .slice B2 n2 d2, .slice B3 n3 d3, .slice B4 n4 d4], x, y]) ∧ F4 w' base B1 d1 B2 d2 B3 d3 B4 d4
theorem FullOut.none {base : Nat} {w' : World} {x y : Value} : FullOut base (.returned (.tuple #[.agg #[.slice none 0 0, .slice none 0 0, .slice none 0 0, .slice none 0 0], x, y])) w' := ⟨_, _, _, _, _, _, _, _, _, _, _, _, _, _, rfl, F4.nil⟩
section
variable (A : Option Addr) (n c : Nat) (RA : Option Addr) (rn rc : Nat) (PA : Option Addr) (pn pc : Nat) (HA : Option Addr) (hn hc : Nat) (S : St) (w : World) (hR : StR w w.heap.size A n RA rn PA pn HA hn S) (hK : StK n c rn pn hn S)
include hR hK
theorem makeX (slot r b t : Int) (f : Bool) :
    Calls Tryz.prog 19 #[.agg #[.slice A n c, .slice RA rn rc, .slice PA pn pc, .slice HA hn hc], .int .i64 slot, .agg #[.int .i64 r, .int .i64 b, .int .i64 t, .bool f]] w fun e w' => Below w.heap.size w w' ∧ FullOut w.heap.size e w' := by
  by_cases hE : makeE S slot r b t f = 0
  · have hf : f = false := by
      cases f
      · rfl
      · exfalso
        unfold makeE at hE
        split at hE
        · contradiction
        · split at hE
          · cases hE
          · split at hE
            · contradiction
            · rw [if_pos rfl] at hE; cases hE
    subst hf
    refine (make_out A n c RA rn rc PA pn pc HA hn hc S slot r b t w hR hK).mono ?_
    rintro e w' ⟨hb, ⟨-, B1, n1, d1, B2, n2, d2, B3, n3, d3, B4, n4, d4, rfl, hO⟩ | ⟨-, rfl⟩⟩
    · exact ⟨hb, _, _, _, _, _, _, _, _, _, _, _, _, _, _, rfl, F4.of hO⟩
    · exact ⟨hb, .none⟩
  · refine (makeFn_bad A n c RA rn rc PA pn pc HA hn hc S slot r b t f w hR hK hE).mono ?_
    rintro e w' ⟨hb, rfl⟩
    exact ⟨hb, .none⟩
theorem collX :
    Calls Tryz.prog 20 #[.agg #[.slice A n c, .slice RA rn rc, .slice PA pn pc, .slice HA hn hc]] w fun e w' => Below w.heap.size w w' ∧ FullOut w.heap.size e w' := by
  refine (coll_out A n c RA rn rc PA pn pc HA hn hc S w hR hK).mono ?_
  rintro e w' ⟨hb, ⟨-, B1, n1, d1, B2, n2, d2, B3, n3, d3, B4, n4, d4, rfl, hO⟩ | ⟨-, rfl⟩⟩
  · exact ⟨hb, _, _, _, _, _, _, _, _, _, _, _, _, _, _, rfl, F4.of hO⟩
  · exact ⟨hb, .none⟩
theorem doX (o : OpV) (hT : FTab w) (v0 : 0 ≤ o.v) (v1 : o.v < 18446744073709551616) :
    Calls Tryz.prog 21 #[.agg #[.slice A n c, .slice RA rn rc, .slice PA pn pc, .slice HA hn hc], .agg #[.int .i64 o.kind, .int .i64 o.a, .int .i64 o.b, .int .i64 o.c, .int .u64 o.v]] w fun e w' => Below w.heap.size w w' ∧ FullOut w.heap.size e w' := by
  refine (do_any A n c RA rn rc PA pn pc HA hn hc S o w hR hK hT v0 v1).mono ?_
  rintro e w' ⟨hb, ⟨-, B1, n1, d1, B2, n2, d2, B3, n3, d3, B4, n4, d4, rfl, hO⟩ | ⟨-, rfl⟩⟩
  · exact ⟨hb, _, _, _, _, _, _, _, _, _, _, _, _, _, _, rfl, F4.of hO⟩
  · exact ⟨hb, .none⟩
theorem playX (hT : FTab w) :
    Calls Tryz.prog 11 #[.agg #[.slice A n c, .slice RA rn rc, .slice PA pn pc, .slice HA hn hc], .slice none 0 0] w fun e w' => Below w.heap.size w w' ∧ FullOut w.heap.size e w' := by
  by_cases hE : playE S 0 = 0
  · refine (play_ok A n c RA rn rc PA pn pc HA hn hc S none 0 0 [] w hR hK (playE_zero hE).1 (by decide) ⟨rfl, fun h => absurd h (by decide)⟩ (fun o ho => by cases ho) hT).mono ?_
    rintro e w' ⟨hb, B1, n1, d1, B2, n2, d2, B3, n3, d3, B4, n4, d4, T, tc, rfl, hO, -⟩
    exact ⟨hb, _, _, _, _, _, _, _, _, _, _, _, _, _, _, rfl, F4.of hO⟩
  · refine (play_bad A n c RA rn rc PA pn pc HA hn hc S none 0 0 w hR hK hE).mono ?_
    rintro e w' ⟨hb, rfl⟩
    exact ⟨hb, .none⟩
end
end Go.Proofs.YtbmkbnalembbjaaGreatDoor

namespace Go.Proofs
open Go.RowKit Go.Shelf
shelf_lay Lays.n212 Nm 212 at Tryz as Tryz.mulU
end Go.Proofs
namespace Go.Proofs.YtbmkbnalembbjaaGreatDoor
open Go.RowKit
theorem replicate_snoc2 (v : Value) (a b : Nat) : List.replicate (a + b) v = List.replicate a v ++ List.replicate b v := by rw [List.replicate_append_replicate]
theorem splice_rep {cur : List Value} {v : Value} {M m : Nat} (h : cur.take M = List.replicate M v) (hM : M + m ≤ cur.length) : (splice cur M (List.replicate m v)).take (M + m) = List.replicate (M + m) v ∧ (splice cur M (List.replicate m v)).length = cur.length := by
  have hl := length_splice cur M (List.replicate m v) (by simpa using hM)
  refine ⟨?_, hl⟩
  have hM2 : M ≤ cur.length := by omega
  have ht : (cur.take M).length = M := by rw [List.length_take]; omega
  unfold splice
  rw [h, ← List.append_assoc, replicate_snoc2, List.take_append_of_le_length (by simp), List.take_of_length_le (by simp)]
set_option maxRecDepth 100000 in
set_option maxHeartbeats 1000000 in
theorem repeat_one (gv n : Nat) (v : Int) (w : World) (hv : Blk w gv 3 #[.int .i64 v]) (hn : n ≤ 1000) :
    Calls Tryz.prog 63 #[.slice (some ⟨gv, 0, none⟩) 1 1, .int .i64 n] w fun e w' => ∃ g, e = .returned (.slice (some ⟨g, 0, none⟩) n n) ∧ w'.ownsRow w.heap.size 3 1 (.slice (some ⟨g, 0, none⟩) n n) n ((List.replicate n v).map (.int .i64)) ∧ Below w.heap.size w w' := by
  have HMul := Lib.hid (fun w => Any.bits_Mul Tryz.mulU 1 n (by decide) (by omega) w)
  obtain ⟨i0, hi, hz0, hz1, hz2⟩ := info_parts info_int
  have hmk := run_make_rowN (P := Tryz.prog) 23 3 i0 (.int .i64 0) Tryz.underlying23 hi hz0 .i64 .i64 n n (Nat.le_refl _) (by rw [hz2]; omega) (by omega) w
  rw [hz1, Nat.mul_one] at hmk
  have hmk : (Instr.makeSlice 23 (.int .i64 n) (.int .i64 n)).run Tryz.prog w = .ok (.slice (some ⟨w.heap.size, 0, none⟩) n n) (w.alloc (.cells (madeCells #[Value.int .i64 0] n) 3)) := hmk
  have hd0 : 1 * n / 18446744073709551616 = 0 := by omega
  have hd1 : 1 * n % 18446744073709551616 = n := by omega
  rw [hd0, hd1] at HMul
  have hvl := hv.lt
  have hvc := hv.cell 0
  simp only [List.getElem?_toArray, List.getElem?_cons_zero] at hvc
  -- what make makes, and the first copy
  have hg0 : ((w.alloc (.cells (madeCells #[Value.int .i64 0] n) 3))).heap[w.heap.size]? = some (.cells (List.replicate n (Value.int .i64 0)).toArray 3 (0, 0)) := by rw [madeCells_one]; exact heap_alloc_new w _
  have hb0 := below_new w (.cells (madeCells #[Value.int .i64 0] n) 3)
  have hv0 := hv.alloc (.cells (madeCells #[Value.int .i64 0] n) 3)
  obtain ⟨W0, hW0⟩ : ∃ W0, W0 = w.alloc (.cells (madeCells #[Value.int .i64 0] n) 3) := ⟨_, rfl⟩
  rw [← hW0] at hg0 hb0 hv0
  obtain ⟨m, hm⟩ : ∃ m, m = Nat.min 1 n := ⟨_, rfl⟩
  have hm1 : m ≤ n := by rw [hm]; exact Nat.min_le_right _ _
  have hm2 : m ≤ 1 := by rw [hm]; exact Nat.min_le_left _ _
  have hm3 : n = 0 ∨ m = 1 := by rw [hm]; simp only [Nat.min_def]; split <;> omega
  obtain ⟨cur, hcur⟩ : ∃ cur, cur = splice (List.replicate n (Value.int .i64 0)) 0 (List.replicate m (Value.int .i64 v)) := ⟨_, rfl⟩
  have hsp := splice_rep (v := Value.int .i64 v) (M := 0) (m := m) (cur := List.replicate n (Value.int .i64 0)) (by simp) (by simpa using hm1)
  rw [← hcur, Nat.zero_add, List.length_replicate] at hsp
  obtain ⟨W1, hW1⟩ : ∃ W1, W1 = W0.setRow w.heap.size cur.toArray := ⟨_, rfl⟩
  have hcp : ∀ ty, (Builtin.copy_ #[23, 23] ty #[.slice (some ⟨w.heap.size, 0, none⟩) n n, .slice (some ⟨gv, 0, none⟩) 1 1]).run Tryz.prog W0 = .ok (goInt m) W1 := fun ty => by
    rw [hW1, hcur]
    refine run_copyK (P := Tryz.prog) W0 23 23 ty 3 1 w.heap.size 0 n n ⟨gv, 0, none⟩ 1 1 m _ 3 _ Tryz.underlying23 size_int hg0 hm.symm (by simp) (fun j u hj => ?_) (by simp; omega) (fun u hu => by obtain ⟨-, rfl⟩ := List.mem_replicate.1 hu; rfl)
    obtain ⟨h1, rfl⟩ := List.getElem?_eq_some_iff.1 hj
    simp only [List.length_replicate] at h1
    obtain rfl : j = 0 := by omega
    rw [Addr.add_lit, List.getElem_replicate]
    have := hv0.cell 0
    simpa using this
  have hg1 : W1.heap[w.heap.size]? = some (.cells cur.toArray 3 (0, 0)) := by rw [hW1]; exact setRow_heap W0 _ _ _ _ _ hg0
  have hb1 : Below w.heap.size w W1 := by rw [hW1]; exact below_setRow hb0 (Nat.le_refl _) _
  have g1 : decide ((n : Int) < 0) = false := decide_eq_false (by omega)
  have g2 : decide (9223372036854775807 < n) = false := decide_eq_false (by omega)
  rw [hW0] at hcp
  have HG := Lib.hid hg1
  have HB := Lib.hid hb1
  have HC := Lib.hid hcp
  have HS := Lib.hid hsp
  have w1 : IntKind.u64.wrap (n : Int) = n := IntWalk.u64_in _ (by omega)
  have w2 : IntKind.i64.wrap (n : Int) = n := IntWalk.i64_in _ (by omega)
  have HM3 := Lib.hid hm3
  clear hg1 hb1 hcp hsp hW1 hcur hg0 hb0 hv0 hW0 hm hd0 hd1 hm3 hvc
  go_enter Tryz.func63, Tryz.ntmps63
  go_wp2_with (first | (go_at_call 97; refine (HMul.out _).mono ?_; rintro e w' ⟨rfl, hw⟩; rw [hw]; clear hw w') | (refine wpList_copy_run _ rfl (.tmp 31) (.tmp 32) 23 23 rfl (.slice (some ⟨w.heap.size, 0, none⟩) n n) (.slice (some ⟨gv, 0, none⟩) 1 1) rfl rfl (HC.out _) ?_))
  go_loopw [8] (fun s wr => ∃ (M : Nat) (cur : List Value), s = .int .i64 M ∧ M ≤ n ∧ (n = 0 ∨ 1 ≤ M) ∧ Hid (wr.heap[w.heap.size]? = some (.cells cur.toArray 3 (0, 0)) ∧ cur.length = n ∧ cur.take M = List.replicate M (.int .i64 v)) ∧ Hid (Below w.heap.size w wr)) (fun s _ => n - (intOf s).toNat)
  case atStart => exact ⟨m, cur, rfl, hm1, by rcases HM3.out with h | h; exact .inl h; exact .inr (by omega), ⟨HG.out, HS.out.2, HS.out.1⟩, HB⟩
  case round =>
    obtain ⟨M, cur, rfl, hM, hM1, HC, HB⟩ := hrel
    by_cases hlt : M < n
    · have hM1 : 1 ≤ M := by omega
      obtain ⟨k, hk⟩ : ∃ k, k = Nat.min M (n - M) := ⟨_, rfl⟩
      have hk1 : 1 ≤ k := by rw [hk]; simp only [Nat.min_def]; split <;> omega
      have hk2 : k ≤ n - M := by rw [hk]; exact Nat.min_le_right _ _
      have hk3 : k ≤ M := by rw [hk]; exact Nat.min_le_left _ _
      obtain ⟨c1, c2, c3⟩ := HC.out
      have hsp := splice_rep (v := Value.int .i64 v) (M := M) (m := k) (cur := cur) c3 (by omega)
      obtain ⟨W2, hW2⟩ : ∃ W2, W2 = wr.drew.setRow w.heap.size (splice cur M (List.replicate k (Value.int .i64 v))).toArray := ⟨_, rfl⟩
      have hcp : ∀ ty, (Builtin.copy_ #[23, 23] ty #[.slice (some ⟨w.heap.size, M, none⟩) (n - M) (n - M), .slice (some ⟨w.heap.size, 0, none⟩) M n]).run Tryz.prog wr.drew = .ok (goInt k) W2 := fun ty => by
        rw [hW2]
        refine run_copyK (P := Tryz.prog) wr.drew 23 23 ty 3 1 w.heap.size M (n - M) (n - M) ⟨w.heap.size, 0, none⟩ M n k cur 3 _ Tryz.underlying23 size_int c1 hk.symm (by simp) (fun j u hj => ?_) (by simp; omega) (fun u hu => by obtain ⟨-, rfl⟩ := List.mem_replicate.1 hu; rfl)
        obtain ⟨h1, rfl⟩ := List.getElem?_eq_some_iff.1 hj
        simp only [List.length_replicate] at h1
        rw [Addr.add_lit, Nat.zero_add, cell_of_row wr.drew _ _ _ _ _ c1, List.getElem_replicate]
        have h2 : (cur.take M)[j]? = some (Value.int .i64 v) := by rw [c3, List.getElem?_replicate, if_pos (by omega)]
        rw [List.getElem?_take, if_pos (by omega)] at h2
        simpa using h2
      have hg2 : W2.heap[w.heap.size]? = some (.cells (splice cur M (List.replicate k (Value.int .i64 v))).toArray 3 (0, 0)) := by rw [hW2]; exact setRow_heap wr.drew _ _ _ _ _ c1
      have hb2 : Below w.heap.size w W2 := by rw [hW2]; exact below_setRow HB.out.drew (Nat.le_refl _) _
      obtain ⟨M2, hM2⟩ : ∃ M2, M2 = M + k := ⟨_, rfl⟩
      rw [← hM2] at hsp
      have w3 : IntKind.i64.wrap ((M : Int) + k) = M2 := by rw [IntWalk.i64_in _ (by omega)]; omega
      have HC2 := Lib.hid hcp
      have HG2 := Lib.hid hg2
      have HB2 := Lib.hid hb2
      have HS2 := Lib.hid (And.intro hsp.2 hsp.1)
      have q1 : M2 ≤ n := by omega
      have q2 : M < M2 := by omega
      have q3 : ¬ n = M := by omega
      have q4 : M ≤ n := hM
      have HCl := Lib.hid c2
      clear hcp hg2 hb2 hsp hW2 hM2 hk hk1 hk2 hk3 c1 c2 c3
      go_wp2
      go_region_law (refine step_copy_run rfl (.tmp 41) (.tmp 44) 23 23 rfl (.slice (some ⟨w.heap.size, M, none⟩) (n - M) (n - M)) (.slice (some ⟨w.heap.size, 0, none⟩) M n) (by simp [Act.eval, Act.put]) (by simp [Act.eval, Act.put]) (HC2.out _) ?_)
      all_goals
        simp only [Act.put, List.getElem_toArray, List.getElem_cons_zero, List.getElem_cons_succ, List.setIfInBounds_toArray, List.set_cons_zero, List.set_cons_succ]
        go_wp2
        go_roundw
        case rel => exact ⟨M2, _, by first | rfl | go_num, q1, .inr (by omega), ⟨HG2.out, by rw [HS2.out.1]; exact HCl.out, HS2.out.2⟩, HB2⟩
        case measure => simp [intOf]; omega
    · obtain ⟨c1, c2, c3⟩ := HC.out
      have hMn : M = n := by omega
      have hown := own_close (base := w.heap.size) (size := 1) (n := n) (c := n) cur (Nat.le_refl _) c1 (Nat.le_refl _) (by unfold maxLen; omega) (by omega)
      rw [Nat.mul_one, ← hMn, c3, hMn] at hown
      have HO := Lib.hid hown
      have q5 : decide (M < n) = false := decide_eq_false hlt
      clear c1 c2 c3 hown hMn
      go_wp2
      go_ret
      exact ⟨_, rfl, by rw [List.map_replicate]; exact HO.out, HB.out⟩
end Go.Proofs.YtbmkbnalembbjaaGreatDoor

namespace Go.Proofs.YtbmkbnalembbjaaGreatDoor
open Go.RowKit
set_option maxHeartbeats 400000 in
theorem wnew_ok (n : Nat) (w : World) (hn : n ≤ 256) :
    Calls Tryz.prog 60 #[.int .i64 n] w fun e w' => e = .returned (.tuple #[.slice (some ⟨w.heap.size, 0, none⟩) n n, .int .i64 0]) ∧ w' = w.alloc (.cells (madeCells #[Value.int .u64 0] n) 45) := by
  obtain ⟨i0, hi, hz0, hz1, hz2⟩ := info_parts info_u64
  have hmk := fun W => run_make_rowN (P := Tryz.prog) 22 45 i0 (.int .u64 0) Tryz.underlying22 hi hz0 .i64 .i64 n n (Nat.le_refl _) (by rw [hz2]; omega) (by omega) W
  rw [hz1, Nat.mul_one] at hmk
  have h1 : ¬ (n : Int) < 0 := by omega
  have h2 : ¬ (256 : Int) < n := by omega
  go_enter Tryz.func60, Tryz.ntmps60
  go_wp2
  go_ret2
  exact ⟨rfl, rfl⟩
end Go.Proofs.YtbmkbnalembbjaaGreatDoor

namespace Go.Proofs.YtbmkbnalembbjaaGreatDoor
open Go.RowKit
theorem made_slots (n : Nat) : madeCells #[.int .i64 0, .bool false, .int .i64 0] (n * 3) = (slotsC (List.replicate n ⟨0, false, 0⟩)).toArray := by
  apply Array.ext
  · simp [madeCells, slotsC_length]
  · intro i h1 h2
    have h3 : i < n * 3 := by simpa [madeCells] using h1
    have hq : i / 3 < n := Nat.div_lt_of_lt_mul (by omega)
    have hr : i % 3 < 3 := Nat.mod_lt _ (by decide)
    have hi : i / 3 * 3 + i % 3 = i := by omega
    have h4 := slotsC_at (List.replicate n ⟨0, false, 0⟩) (i / 3) (i % 3) (by simpa using hq) hr
    rw [hi, List.getElem_replicate] at h4
    have h5 : (madeCells #[.int .i64 0, .bool false, .int .i64 0] (n * 3))[i]? = (slotC ⟨0, false, 0⟩)[i % 3]? := by
      rw [Array.getElem?_eq_getElem h1]
      have hr2 : i % 3 = 0 ∨ i % 3 = 1 ∨ i % 3 = 2 := by omega
      rcases hr2 with e | e | e <;> simp [madeCells, e, slotC]
    rw [← h4, Array.getElem?_eq_getElem h1] at h5
    rw [List.getElem?_eq_getElem (by simpa using h2)] at h5
    simpa using h5
theorem own_slots (w : World) (base n : Nat) (hb : base ≤ w.heap.size) (hn : n ≤ maxLen) :
    (w.alloc (.cells (madeCells #[.int .i64 0, .bool false, .int .i64 0] (n * 3)) 60)).ownsRow base 60 3 (.slice (some ⟨w.heap.size, 0, none⟩) n n) n (slotsC (List.replicate n ⟨0, false, 0⟩)) := by
  rw [made_slots]
  have h := own_close (w := w.alloc (.cells (slotsC (List.replicate n ⟨0, false, 0⟩)).toArray 60)) (base := base) (e := 60) (size := 3) (n := n) (c := n) (g := w.heap.size) (slotsC (List.replicate n ⟨0, false, 0⟩)) hb (heap_alloc_new w _) (Nat.le_refl _) hn (by rw [slotsC_length, List.length_replicate])
  rwa [List.take_of_length_le (by rw [slotsC_length, List.length_replicate]; exact Nat.le_refl _)] at h
theorem info_slot3 : (Tryz.prog.info? 60).map (fun i => (i.zero, i.size, i.bytes)) = some (some (.agg #[.int .i64 0, .bool false, .int .i64 0]), 3, 24) := by kernel_rfl
set_option maxHeartbeats 400000 in
theorem hnew_ok (n : Nat) (w : World) (hn : n ≤ 16) :
    Calls Tryz.prog 61 #[.int .i64 n] w fun e w' => e = .returned (.tuple #[.slice (some ⟨w.heap.size, 0, none⟩) n n, .int .i64 0]) ∧ w' = w.alloc (.cells (madeCells #[.int .i64 0, .bool false, .int .i64 0] (n * 3)) 60) := by
  obtain ⟨i0, hi, hz0, hz1, hz2⟩ := info_parts info_slot3
  have hmk := fun W => run_make_rowN (P := Tryz.prog) 26 60 i0 (.agg #[.int .i64 0, .bool false, .int .i64 0]) Tryz.underlying26 hi hz0 .i64 .i64 n n (Nat.le_refl _) (by rw [hz2]; omega) (by omega) W
  rw [hz1] at hmk
  have hcs : (Value.agg #[.int .i64 0, .bool false, .int .i64 0]).cells = #[.int .i64 0, .bool false, .int .i64 0] := rfl
  rw [hcs] at hmk
  have h1 : ¬ (n : Int) < 0 := by omega
  have h2 : ¬ (16 : Int) < n := by omega
  clear hcs
  go_enter Tryz.func61, Tryz.ntmps61
  go_wp2
  go_ret2
  exact ⟨rfl, rfl⟩
def newA (W : Nat) : List Int := if 0 < W then (List.replicate W 0).set 0 (wordOf 0 (W - 1) 0 true) else []
def newSt (W R H : Nat) : St := ⟨newA W, List.replicate R (-1), [], List.replicate H ⟨0, false, 0⟩⟩
set_option maxRecDepth 100000 in
set_option maxHeartbeats 2000000 in
theorem newFn_ok (W R H : Nat) (w : World) (hW : W ≤ 256) (hR : R ≤ 32) (hH : H ≤ 16) :
    Calls Tryz.prog 33 #[.int .i64 W, .int .i64 R, .int .i64 H] w fun e w' => Below w.heap.size w w' ∧ ∃ (A1 : Option Addr) (c1 : Nat) (A2 : Option Addr) (c2 : Nat) (A4 : Option Addr) (c4 : Nat),
      e = .returned (.tuple #[.agg #[.slice A1 W c1, .slice A2 R c2, .slice none 0 0, .slice A4 H c4], .int .i64 0]) := by
  have HW := Lib.hid (fun w => wnew_ok W w hW)
  have HHn := Lib.hid (fun w => hnew_ok H w hH)
  have HRp := Lib.hid (fun gv w hv => repeat_one gv R (-1) w hv (by omega))
  have g1 : decide (((R : Nat) : Int) < 0) = false := decide_eq_false (by omega)
  have g2 : decide (32 < R) = false := decide_eq_false (by omega)
  have g2' : decide ((32 : Int) < (R : Int)) = false := decide_eq_false (by omega)
  have hb1 := below_new w (.cells #[.slice none 0 0, .slice none 0 0, .slice none 0 0, .slice none 0 0] 28)
  have DR := Blk.new w 28 #[.slice none 0 0, .slice none 0 0, .slice none 0 0, .slice none 0 0]
  go_enter Tryz.func33, Tryz.ntmps33
  go_wp2_with fail
  refine (HW.out _).mono ?_
  rintro e w1 ⟨rfl, rfl⟩
  have hO1 := own_make1 (w.alloc (.cells #[.slice none 0 0, .slice none 0 0, .slice none 0 0, .slice none 0 0] 28)) w.heap.size 45 (.int .u64 0) W _ rfl hb1.size (by unfold maxLen; omega)
  have hb2 := hb1.alloc hb1.size (.cells (madeCells #[.int .u64 0] W) 45)
  have DR := DR.alloc (.cells (madeCells #[.int .u64 0] W) 45)
  rw [World.size_alloc] at hO1
  go_wp2_with fail
  refine (HHn.out _).mono ?_
  rintro e w2 ⟨rfl, rfl⟩
  have hO4 := own_slots ((w.alloc (.cells #[.slice none 0 0, .slice none 0 0, .slice none 0 0, .slice none 0 0] 28)).alloc (.cells (madeCells #[.int .u64 0] W) 45)) w.heap.size H hb2.size (by unfold maxLen; omega)
  have hO1 := hO1.alloc (.cells (madeCells #[.int .i64 0, .bool false, .int .i64 0] (H * 3)) 60)
  have hb3 := hb2.alloc hb2.size (.cells (madeCells #[.int .i64 0, .bool false, .int .i64 0] (H * 3)) 60)
  have DR := DR.alloc (.cells (madeCells #[.int .i64 0, .bool false, .int .i64 0] (H * 3)) 60)
  simp only [World.size_alloc] at hO4
  obtain ⟨W2, hW2⟩ : ∃ W2, W2 = ((w.alloc (.cells #[.slice none 0 0, .slice none 0 0, .slice none 0 0, .slice none 0 0] 28)).alloc (.cells (madeCells #[.int .u64 0] W) 45)).alloc (.cells (madeCells #[.int .i64 0, .bool false, .int .i64 0] (H * 3)) 60) := ⟨_, rfl⟩
  rw [← hW2] at hO1 hO4 hb3 DR ⊢
  clear hW2 hb1 hb2 HW HHn
  by_cases h0 : 0 < W
  · have g3 : decide (0 < W) = true := decide_eq_true h0
    have g3' : decide ((0 : Int) < (W : Int)) = true := decide_eq_true (by omega)
    obtain ⟨b, hb⟩ : ∃ b : Nat, b + 1 = W := ⟨W - 1, by omega⟩
    have hw : IntKind.i64.wrap ((W : Int) - 1) = b := (IntWalk.i64_in _ (by omega)).trans (by omega)
    have HWd := Lib.hid (fun w => hword_ok 0 b 0 true w (headE_ok.2 (by simp; omega)))
    have HNA : Hid (newA W = (List.replicate W 0).set 0 (wordOf 0 b 0 true)) := by
      show _ = _
      unfold newA
      rw [if_pos h0, show ((W : Int) - 1) = b by omega]
    generalize wordOf 0 b 0 true = x at *
    go_wp2_with fail
    refine (HWd.out _).mono ?_
    rintro e w3 ⟨rfl, hb4⟩
    have hO1 := own_below hO1 hb4
    have hO4 := own_below hO4 hb4
    have DR := DR.below hb4 DR.lt
    have hb04 := below_step hb3 hb4
    have cc := hO1.cellAt 0 (by omega)
    have ff := hO1.frozenAt 0
    rw [List.getElem?_replicate, if_pos h0] at cc
    have hO1s := (hO1.stored 0 (.int .u64 x)).1
    have hO4s := own_apart hO4 (p := ⟨w.heap.size + 1, 0, none⟩) (by simp [Value.ownBlock]) (.int .u64 x)
    have hb05 := hb04.setCell (p := ⟨w.heap.size + 1, 0, none⟩) (by simp) (.int .u64 x)
    have DRs := DR.far (p := ⟨w.heap.size + 1, 0, none⟩) (by simp) (.int .u64 x)
    clear hO1 hO4 DR HWd hb3
    have DV := Blk.new (w3.setCell ⟨w.heap.size + 1, 0, none⟩ (.int .u64 x)) 3 #[.int .i64 (-1)]
    rw [World.size_setCell] at DV
    have hbv := hb05.alloc hb05.size (.cells #[.int .i64 (-1)] 3)
    have DRv := DRs.alloc (.cells #[.int .i64 (-1)] 3)
    have hO1v := hO1s.alloc (.cells #[.int .i64 (-1)] 3)
    have hO4v := hO4s.alloc (.cells #[.int .i64 (-1)] 3)
    clear hO1s hO4s DRs hb05
    go_wp2_with fail
    refine (HRp.out _ _ DV).mono ?_
    rintro e w5 ⟨g, rfl, hO2, hb6⟩
    have DRz := DRv.below hb6 DRv.lt
    have hb7 := below_step hbv hb6
    obtain ⟨r0, r1, r2, r3⟩ := DRz.four
    have f0 := DRz.frozen 0
    have f1 := DRz.frozen 1
    have f2 := DRz.frozen 2
    have f3 := DRz.frozen 3
    clear hO1v hO4v hO2 DRv hbv hb6 DV HRp
    go_wp2_with fail
    refine bodyPost_ret (v := .tuple #[.agg #[.slice (some ⟨w.heap.size + 1, 0, none⟩) W W, .slice (some ⟨g, 0, none⟩) R R, .slice none 0 0, .slice (some ⟨w.heap.size + 1 + 1, 0, none⟩) H H], .int .i64 0]) ?_ rfl ⟨below_block4 hb7 (Nat.le_refl _) _ _ _ _, _, W, _, R, _, H, rfl⟩
    have z4 := (((DRz.set_ 0 (.slice (some ⟨w.heap.size + 1, 0, none⟩) W W)).set_ 1 (.slice (some ⟨g, 0, none⟩) R R)).set_ 2 (.slice none 0 0)).set_ 3 (.slice (some ⟨w.heap.size + 1 + 1, 0, none⟩) H H)
    obtain ⟨z0, z1, z2, z3⟩ := z4.four
    simp only [results, Tryz.results33]
    go_simp
  · have g3 : decide (0 < W) = false := decide_eq_false h0
    have g3' : decide ((0 : Int) < (W : Int)) = false := decide_eq_false (by omega)
    have HNA : Hid (newA W = []) := by show _ = _; unfold newA; rw [if_neg h0]
    have DV := Blk.new (W2) 3 #[.int .i64 (-1)]
    have hbv := hb3.alloc hb3.size (.cells #[.int .i64 (-1)] 3)
    have DRv := DR.alloc (.cells #[.int .i64 (-1)] 3)
    have hO1v := hO1.alloc (.cells #[.int .i64 (-1)] 3)
    have hO4v := hO4.alloc (.cells #[.int .i64 (-1)] 3)
    clear hO1 hO4 DR hb3
    go_wp2_with fail
    refine (HRp.out _ _ DV).mono ?_
    rintro e w5 ⟨g, rfl, hO2, hb6⟩
    have DRz := DRv.below hb6 DRv.lt
    have hb7 := below_step hbv hb6
    obtain ⟨r0, r1, r2, r3⟩ := DRz.four
    have f0 := DRz.frozen 0
    have f1 := DRz.frozen 1
    have f2 := DRz.frozen 2
    have f3 := DRz.frozen 3
    clear hO1v hO4v hO2 DRv hbv hb6 DV HRp
    go_wp2_with fail
    refine bodyPost_ret (v := .tuple #[.agg #[.slice (some ⟨w.heap.size + 1, 0, none⟩) W W, .slice (some ⟨g, 0, none⟩) R R, .slice none 0 0, .slice (some ⟨w.heap.size + 1 + 1, 0, none⟩) H H], .int .i64 0]) ?_ rfl ⟨below_block4 hb7 (Nat.le_refl _) _ _ _ _, _, W, _, R, _, H, rfl⟩
    have z4 := (((DRz.set_ 0 (.slice (some ⟨w.heap.size + 1, 0, none⟩) W W)).set_ 1 (.slice (some ⟨g, 0, none⟩) R R)).set_ 2 (.slice none 0 0)).set_ 3 (.slice (some ⟨w.heap.size + 1 + 1, 0, none⟩) H H)
    obtain ⟨z0, z1, z2, z3⟩ := z4.four
    simp only [results, Tryz.results33]
    go_simp
set_option maxHeartbeats 1000000 in
theorem stores_true (w : World) : Calls Tryz.prog 14 #[] w fun e w' => e = .returned (.bool true) ∧ Below w.heap.size w w' := by
  have H := Lib.hid (newFn_ok 4 1 1 w (by decide) (by decide) (by decide))
  go_enter Tryz.func14, Tryz.ntmps14
  go_wp2_with fail
  refine H.out.mono ?_
  rintro e w1 ⟨hb, A1, c1, A2, c2, A4, c4, rfl⟩
  have DG := Blk.new w1 28 #[.slice A1 4 c1, .slice A2 1 c2, .slice none 0 0, .slice A4 1 c4]
  have hb2 := hb.alloc hb.size (.cells #[.slice A1 4 c1, .slice A2 1 c2, .slice none 0 0, .slice A4 1 c4] 28)
  obtain ⟨o0, o1, o2, o3⟩ := DG.four
  go_wp2_with fail
  go_ret
  exact ⟨by first | rfl | simp, hb2⟩
end Go.Proofs.YtbmkbnalembbjaaGreatDoor

namespace Go.Proofs.YtbmkbnalembbjaaGreatDoor
open Go.RowKit
set_option maxHeartbeats 400000 in
theorem equal_slotS (A A2 : Option Addr) (n c c2 B B2 : Nat) (l : List Slot) (w : World) (hr : Reads w B 3 A n (slotsC l)) (hr2 : Reads w B2 3 A2 n (slotsC l)) (hn : n ≤ 1000000000000000000) :
    Calls Tryz.prog 32 #[.slice A n c, .slice A2 n c2] w fun e w' => e = .returned (.bool true) ∧ ∃ q, w' = w.drewN q := by
  go_enter Tryz.func32, Tryz.ntmps32
  go_wp2
  go_loopw [13] (fun i wr => ∃ j : Nat, j ≤ n ∧ i = .int .i64 j ∧ ∃ q, wr = w.drewN q) (fun i _ => n - (intOf i).toNat)
  case atStart => exact ⟨0, Nat.zero_le _, rfl, 0, rfl⟩
  case round =>
    obtain ⟨j, hj, rfl, q, rfl⟩ := hrel
    by_cases hlt : j < n
    · obtain ⟨ad, r, rfl, _, hs, c0, c1, cu⟩ := hr.slot hlt
      obtain ⟨ad2, r2, rfl, _, hs2, d0, d1, du⟩ := hr2.slot hlt
      obtain rfl : r = r2 := Option.some.inj (hs.symm.trans hs2)
      obtain ⟨x, y, z⟩ := r
      dsimp only at *
      have hlt' : (j : Int) < n := by omega
      clear hs hs2
      go_wp2
      go_quiet (fail)
      go_wp2
      go_roundw
      case rel => exact ⟨j + 1, by omega, by go_num, _, rfl⟩
      case measure => simp [intOf]; omega
    · go_wp2
      go_ret
      exact ⟨rfl, _, rfl⟩
theorem eq_trueS {α : Type} [DecidableEq α] (a : α) : decide (a = a) = true := decide_eq_true rfl
set_option maxRecDepth 100000 in
set_option maxHeartbeats 2000000 in
theorem sameSt_true (A : Option Addr) (n c : Nat) (RA : Option Addr) (rn rc : Nat) (PA : Option Addr) (pn pc : Nat) (HA : Option Addr) (hn hc : Nat) (A' : Option Addr) (c' : Nat) (RA' : Option Addr) (rc' : Nat) (PA' : Option Addr) (pc' : Nat) (HA' : Option Addr) (hc' : Nat) (S : St) (w : World)
    (hR : StR w w.heap.size A n RA rn PA pn HA hn S) (hR' : StR w w.heap.size A' n RA' rn PA' pn HA' hn S) (h1 : n ≤ 1000000000000000000) (h2 : rn ≤ 1000000000000000000) (h3 : pn ≤ 1000000000000000000) (h4 : hn ≤ 1000000000000000000) :
    Calls Tryz.prog 12 #[.agg #[.slice A n c, .slice RA rn rc, .slice PA pn pc, .slice HA hn hc], .agg #[.slice A' n c', .slice RA' rn rc', .slice PA' pn pc', .slice HA' hn hc']] w fun e w' => e = .returned (.bool true) ∧ Below w.heap.size w w' := by
  have hb1 := below_new w (.cells #[.slice A n c, .slice RA rn rc, .slice PA pn pc, .slice HA hn hc] 28)
  have DS := (Blk.new w 28 #[.slice A n c, .slice RA rn rc, .slice PA pn pc, .slice HA hn hc]).alloc (.cells #[.slice A' n c', .slice RA' rn rc', .slice PA' pn pc', .slice HA' hn hc'] 28)
  have DT := Blk.new (w.alloc (.cells #[.slice A n c, .slice RA rn rc, .slice PA pn pc, .slice HA hn hc] 28)) 28 #[.slice A' n c', .slice RA' rn rc', .slice PA' pn pc', .slice HA' hn hc']
  have hb2 := hb1.alloc hb1.size (.cells #[.slice A' n c', .slice RA' rn rc', .slice PA' pn pc', .slice HA' hn hc'] 28)
  rw [World.size_alloc] at DT
  have R1 := hR.below hb2
  have R2 := hR'.below hb2
  have E1 := Lib.hid (fun W r r' => equal_u64 A A' n c n c' w.heap.size w.heap.size S.a S.a W r r' h1 h1)
  have E2 := Lib.hid (fun W r r' => equal_int RA RA' rn rc rn rc' w.heap.size w.heap.size S.r S.r W r r' h2 h2)
  have E3 := Lib.hid (fun W r r' => equal_pin PA PA' pn pc pc' w.heap.size w.heap.size S.p W r r' h3)
  have E4 := Lib.hid (fun W r r' => equal_slotS HA HA' hn hc hc' w.heap.size w.heap.size S.l W r r' h4)
  simp only [eq_trueS] at E1 E2
  obtain ⟨s0, s1, s2, s3⟩ := DS.four
  obtain ⟨t0, t1, t2, t3⟩ := DT.four
  clear hR hR'
  go_enter Tryz.func12, Tryz.ntmps12
  go_wp2_with fail
  refine Calls.mono (E1.out _ (by exact R1.a) (by exact R2.a)) ?_
  rintro e w1 ⟨rfl, q1, rfl⟩
  go_wp2_with fail
  refine Calls.mono (E2.out _ (by exact R1.r) (by exact R2.r)) ?_
  rintro e w2 ⟨rfl, q2, rfl⟩
  go_wp2_with fail
  refine Calls.mono (E3.out _ (by exact R1.p) (by exact R2.p)) ?_
  rintro e w3 ⟨rfl, q3, rfl⟩
  go_wp2_with fail
  refine Calls.mono (E4.out _ (by exact R1.l) (by exact R2.l)) ?_
  rintro e w4 ⟨rfl, q4, rfl⟩
  go_wp2_with fail
  go_ret
  exact ⟨by first | rfl | simp, by first | exact below_drewN hb2 _ | exact below_drewN (below_drewN (below_drewN (below_drewN hb2 _) _) _) _⟩
end Go.Proofs.YtbmkbnalembbjaaGreatDoor

namespace Go.Proofs.YtbmkbnalembbjaaGreatDoor
open Go.RowKit
set_option maxHeartbeats 400000 in
theorem clone_pinB (A : Option Addr) (n c B : Nat) (xs : List Value) (w : World) (hr : Reads w B 2 A n xs) (hB : B ≤ w.heap.size) (h1 : ∀ u ∈ xs, u.oneCell' = true) (hn : n * 16 ≤ 140737488355328) :
    Calls Tryz.prog 17 #[.slice A n c] w fun e w' => ∃ A' c', e = .returned (.slice A' n c') ∧ w'.ownsRow w.heap.size 57 2 (.slice A' n c') n xs ∧ Below w.heap.size w w' := by
  obtain ⟨i0, hi, hz0, hz1, hz2⟩ := info_parts info_pin
  rcases A with _ | ad
  · have hm : n = 0 := by
      rcases Nat.eq_zero_or_pos n with h0 | h0
      · exact h0
      · obtain ⟨ad, h, _⟩ := hr.2 h0
        cases h
    subst hm
    have hx : xs = [] := List.eq_nil_of_length_eq_zero (by simpa using hr.1)
    subst hx
    have hnil := fun (w : World) => Lib.run_eql_slice_nil (P := Tryz.prog) w 24 57 none 0 c 0 0 Tryz.underlying24
    go_enter Tryz.func17, Tryz.ntmps17
    go_wp2
    go_ret
    exact ⟨none, 0, rfl, World.ownsRow_nil _ _ _ _, Below.refl _ _⟩
  · have hnil := fun (w : World) => Lib.run_eql_slice_nil (P := Tryz.prog) w 24 57 (some ad) n c 0 0 Tryz.underlying24
    have hmade := World.ownsRow_made (e := 57) (size := 2) w #[] 0 (Nat.le_refl w.heap.size) (Nat.zero_le _) rfl
    go_enter Tryz.func17, Tryz.ntmps17
    go_wp2_with (at_builtin; refine wpList_append_any _ rfl (.tmp 5) (.tmp 6) 24 rfl w.heap.size 57 i0 _ 2 16 Tryz.underlying24 hi hz0 hz1 hz2 rfl (by decide) (.slice (some ⟨w.heap.size, 0, none⟩) 0 0) 0 [] rfl hmade B (some ad) n c xs rfl (hr.alloc hB _) h1 (by simp [maxLen]; omega) (by omega) (by simp) ?_; rintro v' w1 hown hgr hbl -; obtain ⟨A', c', rfl⟩ := own_slice hown)
    go_ret
    exact ⟨A', c', rfl, by simpa using hown, ((Below.refl _ _).alloc (Nat.le_refl _) _).grown hgr (by simp) (by simp [Value.ownBlock])⟩
set_option maxHeartbeats 400000 in
theorem clone_slotsB (A : Option Addr) (n c B : Nat) (xs : List Value) (w : World) (hr : Reads w B 3 A n xs) (hB : B ≤ w.heap.size) (h1 : ∀ u ∈ xs, u.oneCell' = true) (hn : n * 24 ≤ 140737488355328) :
    Calls Tryz.prog 18 #[.slice A n c] w fun e w' => ∃ A' c', e = .returned (.slice A' n c') ∧ w'.ownsRow w.heap.size 60 3 (.slice A' n c') n xs ∧ Below w.heap.size w w' := by
  obtain ⟨i0, hi, hz0, hz1, hz2⟩ := info_parts info_slot
  rcases A with _ | ad
  · have hm : n = 0 := by
      rcases Nat.eq_zero_or_pos n with h0 | h0
      · exact h0
      · obtain ⟨ad, h, _⟩ := hr.2 h0
        cases h
    subst hm
    have hx : xs = [] := List.eq_nil_of_length_eq_zero (by simpa using hr.1)
    subst hx
    have hnil := fun (w : World) => Lib.run_eql_slice_nil (P := Tryz.prog) w 26 60 none 0 c 0 0 Tryz.underlying26
    go_enter Tryz.func18, Tryz.ntmps18
    go_wp2
    go_ret
    exact ⟨none, 0, rfl, World.ownsRow_nil _ _ _ _, Below.refl _ _⟩
  · have hnil := fun (w : World) => Lib.run_eql_slice_nil (P := Tryz.prog) w 26 60 (some ad) n c 0 0 Tryz.underlying26
    have hmade := World.ownsRow_made (e := 60) (size := 3) w #[] 0 (Nat.le_refl w.heap.size) (Nat.zero_le _) rfl
    go_enter Tryz.func18, Tryz.ntmps18
    go_wp2_with (at_builtin; refine wpList_append_any _ rfl (.tmp 5) (.tmp 6) 26 rfl w.heap.size 60 i0 (.agg #[.int .i64 0, .bool false, .int .i64 0]) 3 24 Tryz.underlying26 hi hz0 hz1 hz2 rfl (by decide) (.slice (some ⟨w.heap.size, 0, none⟩) 0 0) 0 [] rfl hmade B (some ad) n c xs rfl (hr.alloc hB _) h1 (by simp [maxLen]; omega) (by omega) (by simp) ?_; rintro v' w1 hown hgr hbl -; obtain ⟨A', c', rfl⟩ := own_slice hown)
    go_ret
    exact ⟨A', c', rfl, by simpa using hown, ((Below.refl _ _).alloc (Nat.le_refl _) _).grown hgr (by simp) (by simp [Value.ownBlock])⟩
end Go.Proofs.YtbmkbnalembbjaaGreatDoor
