/-
  Texts joined: PlayFn LawOps PlaysTrue TwinDefs LawHalves LawPins LawNums LawObs LawStore PlayRow PlayLists SlicesTold.
-/
import Derived.Lib.SmallJoins
import Derived.SizedLaws
import Derived.Deep.Strs
import Derived.Test.YtccmichgbkmdpaaGreatDoorCards
import Derived.Test.YtccmichgbkmdpaaGreatDoorTie
import Derived.Deep.DeepHandedRow
import Derived.Lib.LaidTab
import Derived.Test.YtccmichgbkmdpaaGreatDoorRows
import Derived.Test.YtccmichgbkmdpaaGreatDoorG0
import Derived.Test.YtccmichgbkmdpaaGreatDoorG1
import Derived.Test.YtccmichgbkmdpaaGreatDoorG2
import Derived.Test.YtccmichgbkmdpaaGreatDoorG6
import Derived.Test.YtccmichgbkmdpaaGreatDoorG10
import Derived.Test.YtccmichgbkmdpaaGreatDoorG16
import Derived.Test.YtccmichgbkmdpaaGreatDoorG20
namespace Go.Proofs.YtccmichgbkmdpaaGreatDoor
open Go.RowKit
def opC (o : OpV) : List Value := [.int .i64 o.kind, .int .i64 o.a, .int .i64 o.b, .int .i64 o.c, .int .u64 o.v]
def opsC (l : List OpV) : List Value := l.flatMap opC
theorem opsC_length (l : List OpV) : (opsC l).length = l.length * 5 := flat_length opC 5 (fun _ => rfl) l
def toldC (t : ToldV) : List Value := [.int .i64 t.e, .int .u64 t.v]
def toldsC (l : List ToldV) : List Value := l.flatMap toldC
theorem toldsC_length (l : List ToldV) : (toldsC l).length = l.length * 2 := flat_length toldC 2 (fun _ => rfl) l
theorem toldsC_snoc (l : List ToldV) (t : ToldV) : toldsC (l ++ [t]) = toldsC l ++ toldC t := by simp [toldsC]
theorem info_told : (Tryz.prog.info? 38).map (fun i => (i.zero, i.size, i.bytes)) = some (some (.agg #[.int .i64 0, .int .u64 0]), 2, 16) := by kernel_rfl
theorem Reads.op {w : World} {B : Nat} {A : Option Addr} {n j : Nat} {l : List OpV} (h : Reads w B 5 A n (opsC l)) (hj : j < n) :
    ∃ ad o, A = some ad ∧ ad.block < B ∧ l[j]? = some o ∧ w.cell? (ad.add (j * 5)) = some (.int .i64 o.kind) ∧
      w.cell? ⟨(ad.add (j * 5)).block, (ad.add (j * 5)).off + 1, none⟩ = some (.int .i64 o.a) ∧ w.cell? ⟨(ad.add (j * 5)).block, (ad.add (j * 5)).off + 2, none⟩ = some (.int .i64 o.b) ∧
      w.cell? ⟨(ad.add (j * 5)).block, (ad.add (j * 5)).off + 3, none⟩ = some (.int .i64 o.c) ∧ w.cell? ⟨(ad.add (j * 5)).block, (ad.add (j * 5)).off + 4, none⟩ = some (.int .u64 o.v) := by
  obtain ⟨ad, o, e, hb, ho, h0, hi⟩ := Reads.elem (f := opC) (k := 5) (fun _ => rfl) h (by decide) hj
  exact ⟨ad, o, e, hb, ho, h0, hi 1 (by decide) (by decide), hi 2 (by decide) (by decide), hi 3 (by decide) (by decide), hi 4 (by decide) (by decide)⟩
theorem Reads.told {w : World} {B : Nat} {A : Option Addr} {n j : Nat} {l : List ToldV} (h : Reads w B 2 A n (toldsC l)) (hj : j < n) :
    ∃ ad t, A = some ad ∧ ad.block < B ∧ l[j]? = some t ∧ w.cell? (ad.add (j * 2)) = some (.int .i64 t.e) ∧ w.cell? ⟨(ad.add (j * 2)).block, (ad.add (j * 2)).off + 1, none⟩ = some (.int .u64 t.v) := by
  obtain ⟨ad, o, e, hb, ho, h0, hi⟩ := Reads.elem (f := toldC) (k := 2) (fun _ => rfl) h (by decide) hj
  exact ⟨ad, o, e, hb, ho, h0, hi 1 (by decide) (by decide)⟩
theorem StO.grown {w w' : World} {base : Nat} {A : Option Addr} {n c : Nat} {RA : Option Addr} {rn rc : Nat} {PA : Option Addr} {pn pc : Nat} {HA : Option Addr} {hn hc : Nat} {S : St} (h : StO w base A n c RA rn rc PA pn pc HA hn hc S)
    {base' size m : Nat} {e : TypeId} {v : Value} {xs : List Value} (ho : w.ownsRow base' e size v m xs) (hg : w.grownBy w' v.ownBlock) (h1 : e ≠ 36) (h2 : e ≠ 3) (h3 : e ≠ 68) (h4 : e ≠ 71) : StO w' base A n c RA rn rc PA pn pc HA hn hc S :=
  ⟨own_grown h.a hg (fun _ hg' => own_types h.a ho h1.symm hg'), own_grown h.r hg (fun _ hg' => own_types h.r ho h2.symm hg'), own_grown h.p hg (fun _ hg' => own_types h.p ho h3.symm hg'), own_grown h.l hg (fun _ hg' => own_types h.l ho h4.symm hg')⟩
theorem StO.alloc {w : World} {base : Nat} {A : Option Addr} {n c : Nat} {RA : Option Addr} {rn rc : Nat} {PA : Option Addr} {pn pc : Nat} {HA : Option Addr} {hn hc : Nat} {S : St} (h : StO w base A n c RA rn rc PA pn pc HA hn hc S) (o : Obj) : StO (w.alloc o) base A n c RA rn rc PA pn pc HA hn hc S :=
  ⟨h.a.alloc o, h.r.alloc o, h.p.alloc o, h.l.alloc o⟩
def playE (S : St) (k : Nat) : Int := if stE S ≠ 0 then stE S else if 200 < k then 2 else 0
theorem playE_zero {S : St} {k : Nat} (h : playE S k = 0) : StOk S ∧ k ≤ 200 := by
  unfold playE at h
  split at h
  · rename_i h0; exact absurd h h0
  · rename_i h0
    split at h
    · cases h
    · exact ⟨stE_ok.1 (by simpa using h0), by omega⟩
theorem playE_of {S : St} {k : Nat} (h : StOk S) (hk : k ≤ 200) : playE S k = 0 := by
  unfold playE
  rw [if_neg (by rw [stE_ok.2 h]; decide), if_neg (by omega)]
theorem play_take {S : St} {l : List OpV} {j : Nat} {o : OpV} (ho : l[j]? = some o) : playS S (l.take (j + 1)) = nextS (playS S (l.take j)) o ∧ playT S (l.take (j + 1)) = playT S (l.take j) ++ [toldS (playS S (l.take j)) o] := by
  obtain ⟨q, rfl⟩ := List.getElem?_eq_some_iff.1 ho
  rw [List.take_succ_eq_append_getElem q, playS_app, playT_app]
  exact ⟨rfl, rfl⟩
theorem StGood.known {S : St} (h : StGood S) {w : World} {base : Nat} {A : Option Addr} {n c : Nat} {RA : Option Addr} {rn rc : Nat} {PA : Option Addr} {pn pc : Nat} {HA : Option Addr} {hn hc : Nat} (hO : StO w base A n c RA rn rc PA pn pc HA hn hc S) : StK n c rn pn hn S := hO.known h.wf
set_option maxRecDepth 100000 in
set_option maxHeartbeats 4000000 in
theorem play_bad (A : Option Addr) (n c : Nat) (RA : Option Addr) (rn rc : Nat) (PA : Option Addr) (pn pc : Nat) (HA : Option Addr) (hn hc : Nat) (S : St) (OA : Option Addr) (on oc : Nat) (w : World) (hR : StR w w.heap.size A n RA rn PA pn HA hn S) (hK : StK n c rn pn hn S) (hE : playE S on ≠ 0) :
    Calls Tryz.prog 6 #[.agg #[.slice A n c, .slice RA rn rc, .slice PA pn pc, .slice HA hn hc], .slice OA on oc] w fun e w' => Below w.heap.size w w' ∧ e = .returned (.tuple #[.agg #[.slice none 0 0, .slice none 0 0, .slice none 0 0, .slice none 0 0], .slice none 0 0, .int .i64 (playE S on)]) := by
  have HCk := Lib.hid (fun w hR => stcheck_any A n c RA rn rc PA pn pc HA hn hc S w hR hK)
  have HX : Hid (playE S on = if stE S ≠ 0 then stE S else if 200 < on then 2 else 0) := rfl
  have HE := Lib.hid hE
  generalize playE S on = F at *
  generalize stE S = E at *
  have hb := (below_new w (.cells #[.slice A n c, .slice RA rn rc, .slice PA pn pc, .slice HA hn hc] 28)).alloc (by simp) (.cells #[.slice none 0 0, .slice none 0 0, .slice none 0 0, .slice none 0 0] 28)
  have DS := (Blk.new w 28 #[.slice A n c, .slice RA rn rc, .slice PA pn pc, .slice HA hn hc]).alloc (.cells #[.slice none 0 0, .slice none 0 0, .slice none 0 0, .slice none 0 0] 28)
  have DR := Blk.new (w.alloc (.cells #[.slice A n c, .slice RA rn rc, .slice PA pn pc, .slice HA hn hc] 28)) 28 #[.slice none 0 0, .slice none 0 0, .slice none 0 0, .slice none 0 0]
  rw [World.size_alloc] at DR
  obtain ⟨s0, s1, s2, s3⟩ := DS.four
  clear hE
  go_enter Tryz.func6, Tryz.ntmps6
  go_wp2_with fail
  refine (HCk.out _ ((hR.below hb).more hb.size)).mono ?_
  rintro e w2 ⟨rfl, hb2⟩
  have hb02 := below_step hb hb2
  have DR2 := DR.below hb2 DR.lt
  clear s0 s1 s2 s3
  obtain ⟨r0, r1, r2, r3⟩ := DR2.four
  obtain ⟨f0, f1, f2, f3⟩ := DR2.four_frozen
  by_cases h0 : E = 0
  · subst h0
    have h1 : 200 < on := by
      refine Classical.byContradiction fun h => HE.out ?_
      rw [HX.out, if_neg (fun h => h rfl), if_neg h]
    have g1 : decide (200 < on) = true := decide_eq_true h1
    have g1' : decide ((200 : Int) < (on : Int)) = true := decide_eq_true (by omega)
    have HF : Hid (F = 2) := by show _ = _; rw [HX.out, if_neg (fun h => h rfl), if_pos h1]
    clear h1
    go_wp2_with fail
    refine bodyPost_ret (v := .tuple #[.agg #[.slice none 0 0, .slice none 0 0, .slice none 0 0, .slice none 0 0], .slice none 0 0, .int .i64 2]) ?_ rfl ⟨below_block4 (g := w.heap.size + 1) hb02 (Nat.le_succ _) _ _ _ _, by rw [HF.out]⟩
    obtain ⟨z0, z1, z2, z3⟩ := (DR2.store4 (.slice none 0 0) (.slice none 0 0) (.slice none 0 0) (.slice none 0 0)).four
    simp only [results, Tryz.results6]
    go_simp
  · have g1 : (E == 0) = false := by simpa using h0
    have g2 : (E != 0) = true := by simpa using h0
    have HF : Hid (F = E) := by show _ = _; rw [HX.out, if_pos h0]
    clear h0
    go_wp2_with fail
    refine bodyPost_ret (v := .tuple #[.agg #[.slice none 0 0, .slice none 0 0, .slice none 0 0, .slice none 0 0], .slice none 0 0, .int .i64 E]) ?_ rfl ⟨below_block4 (g := w.heap.size + 1) hb02 (Nat.le_succ _) _ _ _ _, by rw [HF.out]⟩
    obtain ⟨z0, z1, z2, z3⟩ := (DR2.store4 (.slice none 0 0) (.slice none 0 0) (.slice none 0 0) (.slice none 0 0)).four
    simp only [results, Tryz.results6]
    go_simp
structure PlayAt (w wr : World) (S : St) (T : Option Addr) (j tc : Nat) (l : List OpV) (B1 : Option Addr) (n1 d1 : Nat) (B2 : Option Addr) (n2 d2 : Nat) (B3 : Option Addr) (n3 d3 : Nat) (B4 : Option Addr) (n4 d4 : Nat) : Prop where
  below : Below w.heap.size w wr
  cell : Blk wr w.heap.size 28 #[.slice B1 n1 d1, .slice B2 n2 d2, .slice B3 n3 d3, .slice B4 n4 d4]
  res : Blk wr (w.heap.size + 1) 28 #[.slice none 0 0, .slice none 0 0, .slice none 0 0, .slice none 0 0]
  own : StO wr w.heap.size B1 n1 d1 B2 n2 d2 B3 n3 d3 B4 n4 d4 (playS S (l.take j))
  good : StGood (playS S (l.take j))
  told : wr.ownsRow w.heap.size 38 2 (.slice T j tc) j (toldsC (playT S (l.take j)))
set_option maxRecDepth 100000 in
set_option maxHeartbeats 2000000 in
theorem play_ok (A : Option Addr) (n c : Nat) (RA : Option Addr) (rn rc : Nat) (PA : Option Addr) (pn pc : Nat) (HA : Option Addr) (hn hc : Nat) (S : St) (OA : Option Addr) (on oc : Nat) (l : List OpV) (w : World) (hR : StR w w.heap.size A n RA rn PA pn HA hn S) (hK : StK n c rn pn hn S)
    (hOK : StOk S) (hn2 : on ≤ 200) (hr : Reads w w.heap.size 5 OA on (opsC l)) (hv : ∀ o ∈ l, (Lit.int .u64 o.v).wf = true) (hT : FTab w) :
    Calls Tryz.prog 6 #[.agg #[.slice A n c, .slice RA rn rc, .slice PA pn pc, .slice HA hn hc], .slice OA on oc] w fun e w' => Below w.heap.size w w' ∧
      ∃ (B1 : Option Addr) (n1 d1 : Nat) (B2 : Option Addr) (n2 d2 : Nat) (B3 : Option Addr) (n3 d3 : Nat) (B4 : Option Addr) (n4 d4 : Nat) (T : Option Addr) (tc : Nat), e = .returned (.tuple #[.agg #[.slice B1 n1 d1, .slice B2 n2 d2, .slice B3 n3 d3, .slice B4 n4 d4], .slice T on tc, .int .i64 0]) ∧
        StO w' w.heap.size B1 n1 d1 B2 n2 d2 B3 n3 d3 B4 n4 d4 (playS S l) ∧ w'.ownsRow w.heap.size 38 2 (.slice T on tc) on (toldsC (playT S l)) := by
  obtain ⟨i0, hi, hz0, hz1, hz2⟩ := info_parts info_told
  have HCk := Lib.hid (fun w hR => stcheck_any A n c RA rn rc PA pn pc HA hn hc S w hR hK)
  rw [stE_ok.2 hOK] at HCk
  obtain ⟨y1, y2, y3, y4, -⟩ := hOK.lens
  obtain ⟨z1, z2, z3, z4⟩ := hR.lens
  have HOw := Lib.hid (fun w hR => pown_any A n c RA rn rc PA pn pc HA hn hc S w hR (by omega) (by omega) (by omega) (by omega))
  have g1 : decide (200 < on) = false := decide_eq_false (by omega)
  have g1' : decide ((200 : Int) < (on : Int)) = false := decide_eq_false (by omega)
  have HN := Lib.hid hn2
  have HG : Hid (StGood S) := ⟨hOK, hK.wf⟩
  have HV := Lib.hid hv
  have HT := Lib.hid hT
  have HL : Hid (l.length = on) := by have := hr.1; rw [opsC_length] at this; show _ = _; omega
  have hb := (below_new w (.cells #[.slice A n c, .slice RA rn rc, .slice PA pn pc, .slice HA hn hc] 28)).alloc (by simp) (.cells #[.slice none 0 0, .slice none 0 0, .slice none 0 0, .slice none 0 0] 28)
  have DS := (Blk.new w 28 #[.slice A n c, .slice RA rn rc, .slice PA pn pc, .slice HA hn hc]).alloc (.cells #[.slice none 0 0, .slice none 0 0, .slice none 0 0, .slice none 0 0] 28)
  have DR := Blk.new (w.alloc (.cells #[.slice A n c, .slice RA rn rc, .slice PA pn pc, .slice HA hn hc] 28)) 28 #[.slice none 0 0, .slice none 0 0, .slice none 0 0, .slice none 0 0]
  rw [World.size_alloc] at DR
  obtain ⟨s0, s1, s2, s3⟩ := DS.four
  clear y1 y2 y3 y4 z1 z2 z3 z4 hn2 hv hT hOK hK
  go_enter Tryz.func6, Tryz.ntmps6
  go_wp2_with fail
  refine (HCk.out _ ((hR.below hb).more hb.size)).mono ?_
  rintro e w2 ⟨rfl, hb2⟩
  have hb02 := below_step hb hb2
  have DS2 := DS.below hb2 DS.lt
  have DR2 := DR.below hb2 DR.lt
  clear s0 s1 s2 s3 hb hb2 DS DR HCk
  obtain ⟨s0, s1, s2, s3⟩ := DS2.four
  go_wp2_with fail
  refine (HOw.out _ ((hR.below hb02).more hb02.size)).mono ?_
  rintro e w3 ⟨hb3, B1, d1, B2, d2, B3, d3, B4, d4, rfl, hO⟩
  have hb03 := below_step hb02 hb3
  have DS3 := DS2.below hb3 DS2.lt
  have DR3 := DR2.below hb3 DR2.lt
  clear s0 s1 s2 s3
  obtain ⟨s0, s1, s2, s3⟩ := DS3.four
  obtain ⟨f0, f1, f2, f3⟩ := DS3.four_frozen
  have hO3 := (hO.mono hb02.size).store DS3 (.slice B1 n d1) (.slice B2 rn d2) (.slice B3 pn d3) (.slice B4 hn d4)
  have hb04 := below_block4 (g := w.heap.size) hb03 (Nat.le_refl _) (.slice B1 n d1) (.slice B2 rn d2) (.slice B3 pn d3) (.slice B4 hn d4)
  have DS4 := DS3.store4 (.slice B1 n d1) (.slice B2 rn d2) (.slice B3 pn d3) (.slice B4 hn d4)
  have DR4 := DR3.far4 (g' := w.heap.size) (by omega) (.slice B1 n d1) (.slice B2 rn d2) (.slice B3 pn d3) (.slice B4 hn d4)
  clear DS2 DR2 hb02 hb3 hO DS3 DR3 hb03
  go_wp2_with fail
  clear s0 s1 s2 s3 f0 f1 f2 f3
  go_loopw [8, 31] (fun o i wr => ∃ (j : Nat) (T : Option Addr) (tc : Nat) (B1 : Option Addr) (n1 d1 : Nat) (B2 : Option Addr) (n2 d2 : Nat) (B3 : Option Addr) (n3 d3 : Nat) (B4 : Option Addr) (n4 d4 : Nat), j ≤ on ∧ i = .int .i64 j ∧ o = .slice T j tc ∧ PlayAt w wr S T j tc l B1 n1 d1 B2 n2 d2 B3 n3 d3 B4 n4 d4) (fun _ i _ => on - (intOf i).toNat)
  case atStart => exact ⟨0, none, 0, B1, n, d1, B2, rn, d2, B3, pn, d3, B4, hn, d4, Nat.zero_le _, rfl, rfl, ⟨hb04, DS4, DR4, hO3, HG.out, World.ownsRow_nil _ _ _ _⟩⟩
  case round =>
    clear hb04 DS4 DR4 hO3
    obtain ⟨j, T, tc, G1, n1, p1, G2, n2, p2, G3, n3, p3, G4, n4, p4, hj, rfl, rfl, hP⟩ := hrel
    by_cases hlt : j < on
    · obtain ⟨ad, o, rfl, had, ho, c0, c1, c2, c3, c4⟩ := (hr.below hP.below).op hlt
      have HX := Lib.hid (play_take (S := S) ho)
      have hvo := HV.out o (List.mem_of_getElem? ho)
      have hv0 : 0 ≤ o.v ∧ o.v < 18446744073709551616 := by simp [Lit.wf, IntKind.min, IntKind.max, IntKind.signed, IntKind.bits] at hvo; omega
      have HDo := Lib.hid (fun w hR hT => do_any G1 n1 p1 G2 n2 p2 G3 n3 p3 G4 n4 p4 (playS S (l.take j)) o w hR (hP.good.known hP.own) hT hv0.1 hv0.2)
      have HGd := Lib.hid (nextS_good hP.good o hvo)
      obtain ⟨S1, hS1⟩ : ∃ S1, S1 = playS S (l.take j) := ⟨_, rfl⟩
      have hPo := hP.own
      have hPt := hP.told
      rw [← hS1] at HDo HGd hPo HX
      obtain ⟨X, hX⟩ : ∃ X, X = doO S1 o := ⟨_, rfl⟩
      rw [← hX] at HDo
      have HN1 : Hid ((X.er = 0 → nextS S1 o = X.st) ∧ (X.er ≠ 0 → nextS S1 o = S1) ∧ toldS S1 o = ⟨X.er, X.told⟩ ∧ (X.er ≠ 0 → X.told = 0)) := by
        show _ ∧ _
        rw [hX]
        exact ⟨fun h => if_pos h, fun h => if_neg h, rfl, doO_told S1 o⟩
      obtain ⟨L1, hL1⟩ : ∃ L1, L1 = playT S (l.take j) := ⟨_, rfl⟩
      rw [← hL1] at HX hPt
      have DS := hP.cell
      have DR := hP.res
      have hbr := hP.below
      have hba := hbr.alloc hbr.size (.cells #[.int .i64 o.kind, .int .i64 o.a, .int .i64 o.b, .int .i64 o.c, .int .u64 o.v] 41)
      have DSa := DS.alloc (.cells #[.int .i64 o.kind, .int .i64 o.a, .int .i64 o.b, .int .i64 o.c, .int .u64 o.v] 41)
      have DRa := DR.alloc (.cells #[.int .i64 o.kind, .int .i64 o.a, .int .i64 o.b, .int .i64 o.c, .int .u64 o.v] 41)
      have hOa := hPo.alloc (.cells #[.int .i64 o.kind, .int .i64 o.a, .int .i64 o.b, .int .i64 o.c, .int .u64 o.v] 41)
      have hTa := hPt.alloc (.cells #[.int .i64 o.kind, .int .i64 o.a, .int .i64 o.b, .int .i64 o.c, .int .u64 o.v] 41)
      have DO := Blk.new wr 41 #[.int .i64 o.kind, .int .i64 o.a, .int .i64 o.b, .int .i64 o.c, .int .u64 o.v]
      have hj200 : j < 200 := by have := HN.out; omega
      obtain ⟨s0, s1, s2, s3⟩ := DSa.four
      obtain ⟨k0, k1, k2, k3, k4⟩ := DO.five
      clear hP hvo hv0 hS1 hX hL1 hPo hPt DS DR hbr DO ho
      go_wp2_with fail
      refine (HDo.out _ hOa.reads (HT.out.below hba)).mono ?_
      rintro e w5 ⟨hb5, ⟨hz, E1, m1, e1, E2, m2, e2, E3, m3, e3, E4, m4, e4, rfl, hO⟩ | ⟨hnz, rfl⟩⟩
      · have hb05 := below_step hba hb5
        have hb06 := hb05.alloc hb05.size (.cells #[.slice E1 m1 e1, .slice E2 m2 e2, .slice E3 m3 e3, .slice E4 m4 e4] 28)
        have DN := Blk.new w5 28 #[.slice E1 m1 e1, .slice E2 m2 e2, .slice E3 m3 e3, .slice E4 m4 e4]
        have DS6 := (DSa.below hb5 DSa.lt).alloc (.cells #[.slice E1 m1 e1, .slice E2 m2 e2, .slice E3 m3 e3, .slice E4 m4 e4] 28)
        have DR6 := (DRa.below hb5 DRa.lt).alloc (.cells #[.slice E1 m1 e1, .slice E2 m2 e2, .slice E3 m3 e3, .slice E4 m4 e4] 28)
        have hO6 := (hO.mono hba.size).alloc (.cells #[.slice E1 m1 e1, .slice E2 m2 e2, .slice E3 m3 e3, .slice E4 m4 e4] 28)
        have hT6 := (own_below hTa hb5).alloc (.cells #[.slice E1 m1 e1, .slice E2 m2 e2, .slice E3 m3 e3, .slice E4 m4 e4] 28)
        obtain ⟨vt, hvt⟩ : ∃ v, v = X.told := ⟨_, rfl⟩
        rw [← hvt]
        have HVT := Lib.hid hvt
        have HZ := Lib.hid hz
        have DS7 := DS6.store4 (.slice E1 m1 e1) (.slice E2 m2 e2) (.slice E3 m3 e3) (.slice E4 m4 e4)
        have DR7 := DR6.far4 (g' := w.heap.size) (by omega) (.slice E1 m1 e1) (.slice E2 m2 e2) (.slice E3 m3 e3) (.slice E4 m4 e4)
        have hO7 := hO6.store DS6 (.slice E1 m1 e1) (.slice E2 m2 e2) (.slice E3 m3 e3) (.slice E4 m4 e4)
        have hT7 := own_block4 hT6 DS6 (by decide) (.slice E1 m1 e1) (.slice E2 m2 e2) (.slice E3 m3 e3) (.slice E4 m4 e4)
        have hb07 := below_block4 (g := w.heap.size) hb06 (Nat.le_refl _) (.slice E1 m1 e1) (.slice E2 m2 e2) (.slice E3 m3 e3) (.slice E4 m4 e4)
        have hnew := reads_new (((((w5.alloc (.cells #[.slice E1 m1 e1, .slice E2 m2 e2, .slice E3 m3 e3, .slice E4 m4 e4] 28)).setCell ⟨w.heap.size, 0, none⟩ (.slice E1 m1 e1)).setCell ⟨w.heap.size, 1, none⟩ (.slice E2 m2 e2)).setCell ⟨w.heap.size, 2, none⟩ (.slice E3 m3 e3)).setCell ⟨w.heap.size, 3, none⟩ (.slice E4 m4 e4)) (toldC ⟨0, vt⟩) 38 1 2 rfl
        have hsz : (((((w5.alloc (.cells #[.slice E1 m1 e1, .slice E2 m2 e2, .slice E3 m3 e3, .slice E4 m4 e4] 28)).setCell ⟨w.heap.size, 0, none⟩ (.slice E1 m1 e1)).setCell ⟨w.heap.size, 1, none⟩ (.slice E2 m2 e2)).setCell ⟨w.heap.size, 2, none⟩ (.slice E3 m3 e3)).setCell ⟨w.heap.size, 3, none⟩ (.slice E4 m4 e4)).heap.size = w5.heap.size + 1 := by simp
        rw [hsz] at hnew
        clear hsz
        have hT8 := hT7.alloc (.cells #[.int .i64 0, .int .u64 vt] 38)
        have hO8 := hO7.alloc (.cells #[.int .i64 0, .int .u64 vt] 38)
        have DS8 := DS7.alloc (.cells #[.int .i64 0, .int .u64 vt] 38)
        have DR8 := DR7.alloc (.cells #[.int .i64 0, .int .u64 vt] 38)
        have hb08 := hb07.alloc hb07.size (.cells #[.int .i64 0, .int .u64 vt] 38)
        have hbs := hb08.size
        clear s0 s1 s2 s3 k0 k1 k2 k3 k4 DSa DRa hOa hTa HDo hb5 hb05 hO hvt DR6 hO6 hT6 hb06 hba hz DS7 DR7 hO7 hT7 hb07
        obtain ⟨s0, s1, s2, s3⟩ := DS6.four
        obtain ⟨f0, f1, f2, f3⟩ := DS6.four_frozen
        obtain ⟨q0, q1, q2, q3⟩ := DN.four
        clear DS6 DN
        go_wp2_with (at_builtin; refine wpList_append_any _ rfl (.tmp 45) (.tmp 49) 31 rfl w.heap.size 38 i0 _ 2 16 Tryz.underlying31 hi hz0 hz1 hz2 rfl (by decide) (.slice T j tc) j _ rfl hT8 _ (some ⟨w5.heap.size + 1, 0, none⟩) 1 1 (toldC ⟨0, vt⟩) rfl hnew (by simp [toldC, Value.oneCell']) (by unfold maxLen; omega) (by omega) hbs ?_; rintro v' w7 hO9 hg9 - -; obtain ⟨T', tc', rfl⟩ := own_slice hO9)
        have hb9 := hb08.grown hg9 hbs (fun g hg => (hT8.lt g hg).1)
        have DS9 := DS8.grown hg9 (fun h => own_blk_ne hT8 DS8 (by decide) h.symm)
        have DR9 := DR8.grown hg9 (fun h => own_blk_ne hT8 DR8 (by decide) h.symm)
        have hO10 := hO8.grown hT8 hg9 (by decide) (by decide) (by decide) (by decide)
        have HO9 := Lib.hid hO9
        clear s0 s1 s2 s3 f0 f1 f2 f3 q0 q1 q2 q3 hT8 hO8 DS8 DR8 hb08 hbs hnew hg9 hO9
        go_roundw
        case rel => exact ⟨j + 1, T', tc', E1, m1, e1, E2, m2, e2, E3, m3, e3, E4, m4, e4, by omega, by go_num, rfl, ⟨hb9, DS9, DR9, by rw [HX.out.1, HN1.out.1 HZ.out]; exact hO10, by rw [HX.out.1]; exact HGd.out, by rw [HX.out.2, toldsC_snoc, HN1.out.2.2.1, HZ.out, ← HVT.out]; exact HO9.out⟩⟩
        case measure => simp [intOf]; omega
      · have hb05 := below_step hba hb5
        have hb06 := hb05.alloc hb05.size (.cells #[.slice none 0 0, .slice none 0 0, .slice none 0 0, .slice none 0 0] 28)
        have DS6 := (DSa.below hb5 DSa.lt).alloc (.cells #[.slice none 0 0, .slice none 0 0, .slice none 0 0, .slice none 0 0] 28)
        have DR6 := (DRa.below hb5 DRa.lt).alloc (.cells #[.slice none 0 0, .slice none 0 0, .slice none 0 0, .slice none 0 0] 28)
        have hO6 := (hOa.below hb5).alloc (.cells #[.slice none 0 0, .slice none 0 0, .slice none 0 0, .slice none 0 0] 28)
        have hT6 := (own_below hTa hb5).alloc (.cells #[.slice none 0 0, .slice none 0 0, .slice none 0 0, .slice none 0 0] 28)
        obtain ⟨ev, hev⟩ : ∃ v, v = X.er := ⟨_, rfl⟩
        rw [← hev]
        have HEV := Lib.hid hev
        have HNZ := Lib.hid hnz
        have g9 : (ev == 0) = false := by rw [hev]; simpa using hnz
        have hnew := reads_new (w5.alloc (.cells #[.slice none 0 0, .slice none 0 0, .slice none 0 0, .slice none 0 0] 28)) (toldC ⟨ev, 0⟩) 38 1 2 rfl
        rw [World.size_alloc] at hnew
        have hT8 := hT6.alloc (.cells #[.int .i64 ev, .int .u64 0] 38)
        have hO8 := hO6.alloc (.cells #[.int .i64 ev, .int .u64 0] 38)
        have DS8 := DS6.alloc (.cells #[.int .i64 ev, .int .u64 0] 38)
        have DR8 := DR6.alloc (.cells #[.int .i64 ev, .int .u64 0] 38)
        have hb08 := hb06.alloc hb06.size (.cells #[.int .i64 ev, .int .u64 0] 38)
        have hbs := hb08.size
        clear s0 s1 s2 s3 k0 k1 k2 k3 k4 DSa DRa hOa hTa HDo hb5 hb05 hev DS6 DR6 hO6 hT6 hb06 hba hnz
        go_wp2_with (at_builtin; refine wpList_append_any _ rfl (.tmp 45) (.tmp 49) 31 rfl w.heap.size 38 i0 _ 2 16 Tryz.underlying31 hi hz0 hz1 hz2 rfl (by decide) (.slice T j tc) j _ rfl hT8 _ (some ⟨w5.heap.size + 1, 0, none⟩) 1 1 (toldC ⟨ev, 0⟩) rfl hnew (by simp [toldC, Value.oneCell']) (by unfold maxLen; omega) (by omega) hbs ?_; rintro v' w7 hO9 hg9 - -; obtain ⟨T', tc', rfl⟩ := own_slice hO9)
        have hb9 := hb08.grown hg9 hbs (fun g hg => (hT8.lt g hg).1)
        have DS9 := DS8.grown hg9 (fun h => own_blk_ne hT8 DS8 (by decide) h.symm)
        have DR9 := DR8.grown hg9 (fun h => own_blk_ne hT8 DR8 (by decide) h.symm)
        have hO10 := hO8.grown hT8 hg9 (by decide) (by decide) (by decide) (by decide)
        have HO9 := Lib.hid hO9
        clear hT8 hO8 DS8 DR8 hb08 hbs hnew hg9 hO9 g9
        go_roundw
        case rel => exact ⟨j + 1, T', tc', G1, n1, p1, G2, n2, p2, G3, n3, p3, G4, n4, p4, by omega, by go_num, rfl, ⟨hb9, DS9, DR9, by rw [HX.out.1, HN1.out.2.1 HNZ.out]; exact hO10, by rw [HX.out.1]; exact HGd.out, by rw [HX.out.2, toldsC_snoc, HN1.out.2.2.1, HN1.out.2.2.2 HNZ.out, ← HEV.out]; exact HO9.out⟩⟩
        case measure => simp [intOf]; omega
    · obtain rfl : j = on := by omega
      have htk : l.take j = l := List.take_of_length_le (by rw [HL.out]; exact Nat.le_refl _)
      have hPo := hP.own
      have hPt := hP.told
      rw [htk] at hPo hPt
      have DS := hP.cell
      have DR := hP.res
      have hb5 := hP.below
      obtain ⟨s0, s1, s2, s3⟩ := DS.four
      obtain ⟨r0, r1, r2, r3⟩ := DR.four
      obtain ⟨f0, f1, f2, f3⟩ := DR.four_frozen
      clear hP htk
      go_wp2_with fail
      refine bodyPost_ret (v := .tuple #[.agg #[.slice G1 n1 p1, .slice G2 n2 p2, .slice G3 n3 p3, .slice G4 n4 p4], .slice T j tc, .int .i64 0]) ?_ rfl ⟨below_block4 (g := w.heap.size + 1) hb5 (Nat.le_succ _) _ _ _ _, G1, n1, p1, G2, n2, p2, G3, n3, p3, G4, n4, p4, T, tc, rfl, hPo.store DR _ _ _ _, own_block4 hPt DR (by decide) _ _ _ _⟩
      obtain ⟨z0, z1, z2, z3⟩ := (DR.store4 (.slice G1 n1 p1) (.slice G2 n2 p2) (.slice G3 n3 p3) (.slice G4 n4 p4)).four
      simp only [results, Tryz.results6]
      go_simp
end Go.Proofs.YtccmichgbkmdpaaGreatDoor

namespace Go.Proofs.YtccmichgbkmdpaaGreatDoor
open Go.ChangeShapes Go.WideShapes Go.ChangeAt Go.RowKit Go.Joins Go.Deep
instance : Inhabited OpV := ⟨⟨0, 0, 0, 0, 0⟩⟩
theorem open_elemsW {α : Type} [Inhabited α] (f : α → List Value) (Q : α → Prop) (k : Nat) (hk0 : 0 < k) (hf : ∀ a, (f a).length = k) {H : Type} {enc : TypeId × Value → H} {P : Program} {t e : TypeId} {W : World} {r : Reach} {base : Nat} {sp : Nat → Bool} {v : Value} {d : DataW H} {ps : List MemPlace}
    (ht : P.underlying t = some (.slice e)) (hc : P.cellsOf e = k) (hel : ∀ n cs y, DataW.trod enc P W 0 sp true n e cs = some y → ∃ a, cs = f a ∧ Q a)
    (hval : Value.okWide P W r base t v) (hlt : ∀ x ∈ ps, x.block < W.heap.size) (h : DataW.Trod enc P W 0 sp true t v d ps) :
    ∃ (A : Option Addr) (n c : Nat) (l : List α), v = .slice A n c ∧ n ≤ c ∧ c ≤ maxLen ∧ Reads W W.heap.size k A n (l.flatMap f) ∧ l.length = n ∧ (∀ a ∈ l, Q a) ∧ (A = none → c = 0) := by
  obtain ⟨a0, len0, cap0, rfl⟩ := okWide_slice ht hval
  obtain ⟨fuel, hf'⟩ := h
  rcases open_slice ht hf' with ⟨hcs, hx⟩ | ⟨a, len, cap, m, n, D, Pl, hcs, hb, hlc, hm, hmm, hx, hcell⟩
  · simp [Value.cells] at hcs
    obtain ⟨rfl, rfl, rfl⟩ := hcs
    exact ⟨none, 0, 0, [], rfl, Nat.le_refl _, Nat.zero_le _, Reads.none_, rfl, (fun a ha => by cases ha), fun _ => rfl⟩
  · simp [Value.cells] at hcs
    obtain ⟨rfl, rfl, rfl⟩ := hcs
    simp only [Prod.mk.injEq] at hx
    obtain ⟨rfl, rfl⟩ := hx
    have hlm : len0 ≤ m := by rw [hmm]; split <;> omega
    rw [hc] at hcell hlt
    obtain ⟨V, hV⟩ := choose_lt (α := α) (p := fun i x => W.cells? 0 (a.add (i * k)) k = some (f x) ∧ Q x) (fun i hi => by
      obtain ⟨cs', h1, h2⟩ := hcell i hi
      obtain ⟨x, rfl, hq⟩ := hel _ _ _ h2
      exact ⟨x, h1, hq⟩)
    refine ⟨some a, len0, cap0, (List.range len0).map V, rfl, hlc, hm, ⟨by rw [flat_length f k hf]; simp, fun hn => ⟨a, rfl, ?_, fun j u hu => ?_⟩⟩, by simp, fun y hy => by
      obtain ⟨i, hi, rfl⟩ := List.mem_map.1 hy
      exact (hV i (by have := List.mem_range.1 hi; omega)).2, fun h => by cases h⟩
    · have := hlt (.cell a.block (a.off + 0)) (List.mem_append_left _ (by
        unfold MemPlace.row
        refine List.mem_map.2 ⟨0, List.mem_range.2 ?_, rfl⟩
        exact Nat.mul_pos (by omega) hk0))
      exact this
    · have hj : j < len0 * k := by
        have := (List.getElem?_eq_some_iff.1 hu).1
        rw [flat_length f k hf] at this
        simpa using this
      have hq : j / k < len0 := Nat.div_lt_of_lt_mul (by rw [Nat.mul_comm]; exact hj)
      have hr : j % k < k := Nat.mod_lt _ hk0
      have hjd : j / k * k + j % k = j := by rw [Nat.mul_comm]; exact Nat.div_add_mod j k
      rw [← hjd, flat_at f k hf _ _ _ (by simpa using hq) hr] at hu
      simp only [List.getElem_map, List.getElem_range] at hu
      have := (World.cells?_some (hV (j / k) (by omega)).1).2.2 (j % k) hr
      rw [add_of_add, hjd] at this
      rw [this]
      exact hu
theorem trod_struct5o {H : Type} {enc : TypeId × Value → H} {P : Program} {w : World} {base : Nat} {spare : Nat → Bool} {held : Bool} {t : TypeId} {f0 f1 f2 f3 f4 : Field} {fuel : Nat} {cs : List Value} {x : DataW H × List MemPlace} (ht : P.underlying t = some (.struct #[f0, f1, f2, f3, f4])) (h : DataW.trod enc P w base spare held fuel t cs = some x) :
    ∃ y0 y1 y2 y3 y4 n, cs.length = P.cellsOf t ∧ DataW.trod enc P w base spare held n f0.type ((cs.drop f0.offset).take (P.cellsOf f0.type)) = some y0 ∧
      DataW.trod enc P w base spare held n f1.type ((cs.drop f1.offset).take (P.cellsOf f1.type)) = some y1 ∧ DataW.trod enc P w base spare held n f2.type ((cs.drop f2.offset).take (P.cellsOf f2.type)) = some y2 ∧
      DataW.trod enc P w base spare held n f3.type ((cs.drop f3.offset).take (P.cellsOf f3.type)) = some y3 ∧ DataW.trod enc P w base spare held n f4.type ((cs.drop f4.offset).take (P.cellsOf f4.type)) = some y4 := by
  obtain ⟨xs, n, _, rfl, hl, hlen, hf⟩ := DataW.trod_struct ht h
  match xs, hlen with
  | [y0, y1, y2, y3, y4], _ => exact ⟨y0, y1, y2, y3, y4, n, hl, by simpa using hf 0 _ rfl, by simpa using hf 1 _ rfl, by simpa using hf 2 _ rfl, by simpa using hf 3 _ rfl, by simpa using hf 4 _ rfl⟩
theorem list5o {α : Type} {l : List α} (h : l.length = 5) : ∃ a b c d e, l = [a, b, c, d, e] := by
  match l, h with
  | [a, b, c, d, e], _ => exact ⟨a, b, c, d, e, rfl⟩
set_option maxRecDepth 100000 in
theorem open_ops {H : Type} {enc : TypeId × Value → H} {W : World} {r : Reach} {base : Nat} {sp : Nat → Bool} {v : Value} {d : DataW H} {ps : List MemPlace}
    (hval : Value.okWide Tryz.prog W r base 29 v) (hlt : ∀ x ∈ ps, x.block < W.heap.size) (h : DataW.Trod enc Tryz.prog W 0 sp true 29 v d ps) :
    ∃ (A : Option Addr) (n c : Nat) (l : List OpV), v = .slice A n c ∧ n ≤ c ∧ c ≤ maxLen ∧ Reads W W.heap.size 5 A n (opsC l) ∧ (∀ o ∈ l, (Lit.int .u64 o.v).wf = true) ∧ (A = none → c = 0) := by
  have k0 : Tryz.prog.cellsOf 3 = 1 := by kernel_rfl
  have k4 : Tryz.prog.cellsOf 36 = 1 := by kernel_rfl
  obtain ⟨A, n, c, l, h1, h2, h3, h4, -, h5⟩ := open_elemsW opC (fun o => (Lit.int .u64 o.v).wf = true) 5 (by decide) (fun _ => rfl) Tryz.underlying29 (by kernel_rfl) (fun n cs y hy => by
    obtain ⟨y0, y1, y2, y3, y4, m, hl, a0, a1, a2, a3, a4⟩ := trod_struct5o Tryz.underlying41 hy
    have hl2 : cs.length = 5 := hl.trans (by kernel_rfl)
    obtain ⟨c0, c1, c2, c3, c4, rfl⟩ := list5o hl2
    dsimp only at a0 a1 a2 a3 a4
    rw [k0] at a0 a1 a2 a3
    rw [k4] at a4
    obtain ⟨x0, q0, -, -⟩ := DataW.trod_int Tryz.underlying3 a0
    obtain ⟨x1, q1, -, -⟩ := DataW.trod_int Tryz.underlying3 a1
    obtain ⟨x2, q2, -, -⟩ := DataW.trod_int Tryz.underlying3 a2
    obtain ⟨x3, q3, -, -⟩ := DataW.trod_int Tryz.underlying3 a3
    obtain ⟨x4, q4, q5, q6⟩ := DataW.trod_int Tryz.underlying36 a4
    simp at q0 q1 q2 q3 q4
    subst q0 q1 q2 q3 q4
    exact ⟨⟨x0, x1, x2, x3, x4⟩, rfl, by first | exact q5 | exact q6⟩) hval hlt h
  exact ⟨A, n, c, l, h1, h2, h3, h4, h5⟩
end Go.Proofs.YtccmichgbkmdpaaGreatDoor

namespace Go.Proofs.YtccmichgbkmdpaaGreatDoor
open Go.RowKit
theorem doO_wrong {S : St} {o : OpV} (h : rightB o = false) : doO S o = ⟨S, 0, 1⟩ := if_pos h
set_option maxHeartbeats 2000000 in
theorem plays_true (w : World) (hT : FTab w) : Calls Tryz.prog 5 #[] w fun e w' => e = .returned (.bool true) ∧ Below w.heap.size w w' := by
  have hn := reads_new w (opsC [⟨0, 0, 0, 0, 0⟩]) 41 1 5 rfl
  have hb := below_new w (.cells #[.int .i64 0, .int .i64 0, .int .i64 0, .int .i64 0, .int .u64 0] 41)
  have H := play_ok none 0 0 none 0 0 none 0 0 none 0 0 ⟨[], [], [], []⟩ (some ⟨w.heap.size, 0, none⟩) 1 1 [⟨0, 0, 0, 0, 0⟩] (w.alloc (.cells #[.int .i64 0, .int .i64 0, .int .i64 0, .int .i64 0, .int .u64 0] 41)) (noneS_reads _) noneS_known noneS_ok (by decide) (by rw [World.size_alloc]; exact hn) (fun o ho => by obtain rfl := List.mem_singleton.1 ho; decide) (hT.below hb)
  have ht : playT ⟨[], [], [], []⟩ [⟨0, 0, 0, 0, 0⟩] = [⟨1, 0⟩] := by
    show [toldS _ _] = _
    unfold toldS
    rw [doO_wrong (by decide)]
  rw [ht] at H
  have H := Lib.hid H
  clear hn ht
  go_enter Tryz.func5, Tryz.ntmps5
  go_wp2_with fail
  refine H.out.mono ?_
  rintro e w2 ⟨hb2, B1, n1, d1, B2, n2, d2, B3, n3, d3, B4, n4, d4, T, tc, rfl, hO, hTo⟩
  have hb02 := (below_step hb hb2).alloc (below_step hb hb2).size (.cells #[.slice B1 n1 d1, .slice B2 n2 d2, .slice B3 n3 d3, .slice B4 n4 d4] 28)
  obtain ⟨ad, t, rfl, had, ht, c0, c1⟩ := ((Reads.of_own hTo).below (below_new w2 (.cells #[.slice B1 n1 d1, .slice B2 n2 d2, .slice B3 n3 d3, .slice B4 n4 d4] 28))).told (j := 0) (by decide)
  obtain rfl : (⟨1, 0⟩ : ToldV) = t := by simpa using ht
  have c0' : (w2.alloc (.cells #[.slice B1 n1 d1, .slice B2 n2 d2, .slice B3 n3 d3, .slice B4 n4 d4] 28)).cell? ad = some (.int .i64 1) := by simpa [Addr.add] using c0
  go_wp2_with fail
  go_ret
  exact ⟨by first | rfl | simp, hb02⟩
end Go.Proofs.YtccmichgbkmdpaaGreatDoor

namespace Go.Proofs.YtccmichgbkmdpaaGreatDoor
open Go.RowKit
structure Rm where
  loc : Int
  len : Int
  used : Int
deriving DecidableEq
def roomC (r : Rm) : List Value := [.int .i64 r.loc, .int .i64 r.len, .int .i64 r.used]
def roomsC (l : List Rm) : List Value := l.flatMap roomC
theorem roomsC_length (l : List Rm) : (roomsC l).length = l.length * 3 := flat_length roomC 3 (fun _ => rfl) l
theorem roomsC_one (l : List Rm) : ∀ u ∈ roomsC l, u.oneCell' = true := by
  intro u hu
  obtain ⟨s, _, hs⟩ := List.mem_flatMap.1 hu
  simp only [roomC, List.mem_cons, List.not_mem_nil, or_false] at hs
  rcases hs with rfl | rfl | rfl <;> rfl
theorem Reads.room {w : World} {B : Nat} {A : Option Addr} {n j : Nat} {l : List Rm} (h : Reads w B 3 A n (roomsC l)) (hj : j < n) :
    ∃ ad s, A = some ad ∧ ad.block < B ∧ l[j]? = some s ∧ w.cell? (ad.add (j * 3)) = some (.int .i64 s.loc) ∧
      w.cell? ⟨(ad.add (j * 3)).block, (ad.add (j * 3)).off + 1, none⟩ = some (.int .i64 s.len) ∧
      w.cell? ⟨(ad.add (j * 3)).block, (ad.add (j * 3)).off + 2, none⟩ = some (.int .i64 s.used) := by
  obtain ⟨ad, s, e, hb, hs, c0, cs⟩ := Reads.elem (f := roomC) (k := 3) (fun _ => rfl) h (by decide) hj
  exact ⟨ad, s, e, hb, hs, c0, cs 1 (by decide) (by decide), cs 2 (by decide) (by decide)⟩
def isP (x : Int) : Bool := [1, 2, 4, 8, 16, 32, 64, 128, 256].contains x
theorem isP_pow {x : Int} (h : isP x = true) : ∃ k : Nat, k ≤ 8 ∧ x = ((2 ^ k : Nat) : Int) := by
  unfold isP at h
  simp only [List.contains_eq_mem, List.mem_cons, List.not_mem_nil, or_false, decide_eq_true_eq] at h
  rcases h with rfl | rfl | rfl | rfl | rfl | rfl | rfl | rfl | rfl
  · exact ⟨0, by decide, rfl⟩
  · exact ⟨1, by decide, rfl⟩
  · exact ⟨2, by decide, rfl⟩
  · exact ⟨3, by decide, rfl⟩
  · exact ⟨4, by decide, rfl⟩
  · exact ⟨5, by decide, rfl⟩
  · exact ⟨6, by decide, rfl⟩
  · exact ⟨7, by decide, rfl⟩
  · exact ⟨8, by decide, rfl⟩
theorem isP_of {k : Nat} (h : k ≤ 8) : isP ((2 ^ k : Nat) : Int) = true := by
  have : ∀ k : Fin 9, isP ((2 ^ k.val : Nat) : Int) = true := by decide
  exact this ⟨k, by omega⟩
def pieceB (r : Rm) (all : Nat) : Bool :=
  decide (1 ≤ r.len) && (decide (r.len ≤ all) && (isP r.len && (decide (0 ≤ r.loc) && (decide (r.loc ≤ all - r.len) && (decide (r.loc % r.len = 0) && (decide (r.used ≤ r.len) && decide (r.len / 2 < r.used)))))))
def roomsE (all : Nat) : List Rm → Int → Int
  | [], _ => 0
  | r :: t, e => if pieceB r all = true ∧ e ≤ r.loc then roomsE all t (r.loc + r.len) else 3
def twinE (o : Int) (l : List Rm) : Int := if 0 ≤ o ∧ o ≤ 8 then roomsE (2 ^ o.toNat) l 0 else 4
theorem pieceB_iff {r : Rm} {o : Nat} (ho : o ≤ 8) : pieceB r (2 ^ o) = true ↔
    ∃ k a u : Nat, k ≤ o ∧ r = ⟨a, ((2 ^ k : Nat) : Int), u⟩ ∧ a + 2 ^ k ≤ 2 ^ o ∧ a % 2 ^ k = 0 ∧ u ≤ 2 ^ k ∧ 2 ^ k / 2 < u := by
  unfold pieceB
  simp only [Bool.and_eq_true, decide_eq_true_eq]
  constructor
  · rintro ⟨h1, h2, h3, h4, h5, h6, h7, h8⟩
    obtain ⟨k, hk, e⟩ := isP_pow h3
    obtain ⟨a, l, u⟩ := r
    dsimp only at *
    subst e
    have hko : 2 ^ k ≤ 2 ^ o := by exact_mod_cast h2
    have hk1 : k ≤ o := (Nat.pow_le_pow_iff_right (by decide)).1 hko
    obtain ⟨A, rfl⟩ : ∃ A : Nat, a = A := ⟨a.toNat, by omega⟩
    have hp : 0 < 2 ^ k := Nat.pos_of_ne_zero (by simp)
    have hu : 0 ≤ u := by
      have : (0 : Int) ≤ ((2 ^ k : Nat) : Int) / 2 := by omega
      omega
    obtain ⟨U, rfl⟩ : ∃ U : Nat, u = U := ⟨u.toNat, by omega⟩
    refine ⟨k, A, U, hk1, rfl, by omega, ?_, by omega, by omega⟩
    exact_mod_cast h6
  · rintro ⟨k, a, u, hk, rfl, h1, h2, h3, h4⟩
    have hp : 0 < 2 ^ k := Nat.pos_of_ne_zero (by simp)
    dsimp only
    refine ⟨by omega, by omega, isP_of (by omega), by omega, by omega, ?_, by omega, by omega⟩
    exact_mod_cast h2
def Chain (o : Nat) : Nat → List Rm → Prop
  | _, [] => True
  | e, r :: t => ∃ k a u : Nat, k ≤ o ∧ r = ⟨a, ((2 ^ k : Nat) : Int), u⟩ ∧ a + 2 ^ k ≤ 2 ^ o ∧ a % 2 ^ k = 0 ∧ u ≤ 2 ^ k ∧ 2 ^ k / 2 < u ∧ e ≤ a ∧ Chain o (a + 2 ^ k) t
theorem roomsE_iff {o : Nat} (ho : o ≤ 8) : ∀ {l : List Rm} {e : Nat}, roomsE (2 ^ o) l e = 0 ↔ Chain o e l
  | [], e => by simp [roomsE, Chain]
  | r :: t, e => by
    unfold roomsE Chain
    constructor
    · intro h
      split at h
      · rename_i hc
        obtain ⟨k, a, u, h1, rfl, h2, h3, h4, h5⟩ := (pieceB_iff ho).1 hc.1
        refine ⟨k, a, u, h1, rfl, h2, h3, h4, h5, by have := hc.2; dsimp only at this; omega, ?_⟩
        exact (roomsE_iff ho).1 (by dsimp only at h; exact_mod_cast h)
      · cases h
    · rintro ⟨k, a, u, h1, rfl, h2, h3, h4, h5, h6, h7⟩
      rw [if_pos ⟨(pieceB_iff ho).2 ⟨k, a, u, h1, rfl, h2, h3, h4, h5⟩, by dsimp only; omega⟩]
      have := (roomsE_iff ho).2 h7
      dsimp only
      exact_mod_cast this
theorem twinE_iff {o : Int} {l : List Rm} : twinE o l = 0 ↔ ∃ k : Nat, k ≤ 8 ∧ o = k ∧ Chain k 0 l := by
  unfold twinE
  constructor
  · intro h
    split at h
    · rename_i hc
      obtain ⟨k, rfl⟩ : ∃ k : Nat, o = k := ⟨o.toNat, by omega⟩
      exact ⟨k, by omega, rfl, (roomsE_iff (by omega)).1 (by simpa using h)⟩
    · cases h
  · rintro ⟨k, hk, rfl, h⟩
    rw [if_pos ⟨by omega, by omega⟩]
    have := (roomsE_iff hk).2 h
    simpa using this
theorem Chain.mem {o : Nat} : ∀ {l : List Rm} {e : Nat}, Chain o e l → ∀ r ∈ l, ∃ k a u : Nat, k ≤ o ∧ r = ⟨a, ((2 ^ k : Nat) : Int), u⟩ ∧ a + 2 ^ k ≤ 2 ^ o ∧ a % 2 ^ k = 0 ∧ u ≤ 2 ^ k ∧ 2 ^ k / 2 < u ∧ e ≤ a
  | [], _, _, _, h => by simp at h
  | x :: t, e, hc, r, h => by
    obtain ⟨k, a, u, h1, rfl, h2, h3, h4, h5, h6, h7⟩ := hc
    rcases List.mem_cons.1 h with rfl | h
    · exact ⟨k, a, u, h1, rfl, h2, h3, h4, h5, h6⟩
    · obtain ⟨k', a', u', q1, q2, q3, q4, q5, q6, q7⟩ := h7.mem r h
      exact ⟨k', a', u', q1, q2, q3, q4, q5, q6, by omega⟩
theorem Chain.len {o : Nat} : ∀ {l : List Rm} {e : Nat}, Chain o e l → e ≤ 2 ^ o → e + l.length ≤ 2 ^ o
  | [], _, _, h => by simpa using h
  | x :: t, e, hc, _ => by
    obtain ⟨k, a, u, h1, rfl, h2, h3, h4, h5, h6, h7⟩ := hc
    have := h7.len h2
    have hp : 0 < 2 ^ k := Nat.pos_of_ne_zero (by simp)
    simp only [List.length_cons]
    omega
def meetsB (a L : Nat) (r : Rm) : Bool := decide (r.loc < ((a + L : Nat) : Int)) && decide ((a : Int) < r.loc + r.len)
def tgapsL (l : List Rm) : Nat → Nat → List Rn
  | 0, a => if l.any (meetsB a 1) = true then [] else [⟨a, 1⟩]
  | k + 1, a => if l.any (meetsB a (2 ^ (k + 1))) = true then tgapsL l k a ++ tgapsL l k (a + 2 ^ k) else [⟨a, ((2 ^ (k + 1) : Nat) : Int)⟩]
theorem tgapsL_length (l : List Rm) : ∀ k a, (tgapsL l k a).length ≤ 2 ^ k
  | 0, a => by unfold tgapsL; split <;> simp
  | k + 1, a => by
    unfold tgapsL
    have h1 := tgapsL_length l k a
    have h2 := tgapsL_length l k (a + 2 ^ k)
    have hp : 0 < 2 ^ k := Nat.pos_of_ne_zero (by simp)
    have hs : 2 ^ (k + 1) = 2 ^ k + 2 ^ k := by omega
    split
    · rw [List.length_append]; omega
    · simp only [List.length_cons, List.length_nil]; omega
end Go.Proofs.YtccmichgbkmdpaaGreatDoor

namespace Go.Proofs.YtccmichgbkmdpaaGreatDoor
open Go.ChangeShapes Go.WideShapes Go.ChangeAt Go.RowKit Go.Joins Go.Deep
instance : Inhabited Rm := ⟨⟨0, 0, 0⟩⟩
theorem open_elemsC {α : Type} [Inhabited α] (f : α → List Value) (k : Nat) (hk0 : 0 < k) (hf : ∀ a, (f a).length = k) {H : Type} {enc : TypeId × Value → H} {P : Program} {t e : TypeId} {W : World} {sp : Nat → Bool} {v : Value} {x : DataW H × List MemPlace} {fuel : Nat}
    (ht : P.underlying t = some (.slice e)) (hc : P.cellsOf e = k) (hel : ∀ n cs y, DataW.trod enc P W 0 sp true n e cs = some y → ∃ a, cs = f a)
    (hlt : ∀ p ∈ x.2, p.block < W.heap.size) (hf' : DataW.trod enc P W 0 sp true fuel t [v] = some x) :
    ∃ (A : Option Addr) (n c : Nat) (l : List α), v = .slice A n c ∧ n ≤ c ∧ c ≤ maxLen ∧ Reads W W.heap.size k A n (l.flatMap f) ∧ l.length = n := by
  rcases open_slice ht hf' with ⟨hcs, hx⟩ | ⟨a, len, cap, m, n, D, Pl, hcs, hb, hlc, hm, hmm, hx, hcell⟩
  · simp at hcs
    subst hcs
    exact ⟨none, 0, 0, [], rfl, Nat.le_refl _, Nat.zero_le _, Reads.none_, rfl⟩
  · simp at hcs
    subst hcs
    subst hx
    have hlm : len ≤ m := by rw [hmm]; split <;> omega
    rw [hc] at hcell hlt
    obtain ⟨V, hV⟩ := choose_lt (α := α) (p := fun i x => W.cells? 0 (a.add (i * k)) k = some (f x)) (fun i hi => by
      obtain ⟨cs', h1, h2⟩ := hcell i hi
      obtain ⟨x, rfl⟩ := hel _ _ _ h2
      exact ⟨x, h1⟩)
    refine ⟨some a, len, cap, (List.range len).map V, rfl, hlc, hm, ⟨by rw [flat_length f k hf]; simp, fun hn => ⟨a, rfl, ?_, fun j u hu => ?_⟩⟩, by simp⟩
    · have := hlt (.cell a.block (a.off + 0)) (List.mem_append_left _ (by
        unfold MemPlace.row
        refine List.mem_map.2 ⟨0, List.mem_range.2 ?_, rfl⟩
        exact Nat.mul_pos (by omega) hk0))
      exact this
    · have hj : j < len * k := by
        have := (List.getElem?_eq_some_iff.1 hu).1
        rw [flat_length f k hf] at this
        simpa using this
      have hq : j / k < len := Nat.div_lt_of_lt_mul (by rw [Nat.mul_comm]; exact hj)
      have hr : j % k < k := Nat.mod_lt _ hk0
      have hjd : j / k * k + j % k = j := by rw [Nat.mul_comm]; exact Nat.div_add_mod j k
      rw [← hjd, flat_at f k hf _ _ _ (by simpa using hq) hr] at hu
      simp only [List.getElem_map, List.getElem_range] at hu
      have := (World.cells?_some (hV (j / k) (by omega))).2.2 (j % k) hr
      rw [add_of_add, hjd] at this
      rw [this]
      exact hu
theorem list3b {α : Type} {l : List α} (h : l.length = 3) : ∃ a b c, l = [a, b, c] := by
  match l, h with
  | [a, b, c], _ => exact ⟨a, b, c, rfl⟩
end Go.Proofs.YtccmichgbkmdpaaGreatDoor

namespace Go.Proofs.YtccmichgbkmdpaaGreatDoor
open Go.ChangeShapes Go.WideShapes Go.ChangeAt Go.RowKit Go.Joins Go.Deep
instance inhP : Inhabited Rn := ⟨⟨0, 0⟩⟩
theorem list2P {α : Type} {l : List α} (h : l.length = 2) : ∃ a b, l = [a, b] := by
  match l, h with
  | [a, b], _ => exact ⟨a, b, rfl⟩
theorem k_pin_bytes : Tryz.prog.bytesOf 68 = 16 := by kernel_rfl
set_option maxRecDepth 100000 in
theorem open_pins {H : Type} {enc : TypeId × Value → H} {W : World} {r : Reach} {base : Nat} {sp : Nat → Bool} {v : Value} {d : DataW H} {ps : List MemPlace}
    (hval : Value.okWide Tryz.prog W r base 24 v) (hlt : ∀ x ∈ ps, x.block < W.heap.size) (h : DataW.Trod enc Tryz.prog W 0 sp true 24 v d ps) :
    ∃ (A : Option Addr) (n c : Nat) (l : List Rn), v = .slice A n c ∧ n ≤ c ∧ c ≤ maxLen ∧ Reads W W.heap.size 2 A n (runsC l) ∧ (n = 0 ∨ ∃ D E, d = .slice D E ∧ D.length = n) := by
  obtain ⟨A, n, c, l, h1, h2, h3, h4, -, h5⟩ := open_elems2 runC 2 (by decide) (fun _ => rfl) Tryz.underlying24 (by kernel_rfl) (fun n cs y hy => by
    obtain ⟨y0, y1, m, _, hl, a0, a1⟩ := trod_struct2 Tryz.underlying68 hy
    have hl2 : cs.length = 2 := hl.trans (by kernel_rfl)
    obtain ⟨c0, c1, rfl⟩ := list2P hl2
    have k0 : Tryz.prog.cellsOf 3 = 1 := by kernel_rfl
    dsimp only at a0 a1
    rw [k0] at a0 a1
    obtain ⟨x0, q0, -, -⟩ := DataW.trod_int Tryz.underlying3 a0
    obtain ⟨x1, q1, -, -⟩ := DataW.trod_int Tryz.underlying3 a1
    simp at q0 q1
    subst q0 q1
    exact ⟨⟨x0, x1⟩, rfl⟩) hval hlt h
  exact ⟨A, n, c, l, h1, h2, h3, h4, h5⟩
end Go.Proofs.YtccmichgbkmdpaaGreatDoor

namespace Go.Proofs.YtccmichgbkmdpaaGreatDoor
open Go.ChangeShapes Go.WideShapes Go.ChangeAt Go.RowKit
theorem k_int_bytes : Tryz.prog.bytesOf 3 = 8 := by kernel_rfl
theorem open_nums2 {H : Type} {enc : TypeId × Value → H} {P : Program} {t e : TypeId} {k : IntKind} {W : World} {r : Reach} {base : Nat} {sp : Nat → Bool} {v : Value} {d : DataW H} {ps : List MemPlace} (ht : P.underlying t = some (.slice e)) (he : P.underlying e = some (.int k)) (hc : P.cellsOf e = 1)
    (hval : Value.okWide P W r base t v) (hlt : ∀ x ∈ ps, x.block < W.heap.size) (h : DataW.Trod enc P W 0 sp true t v d ps) :
    ∃ (A : Option Addr) (n c : Nat) (xs : List Int), v = .slice A n c ∧ n ≤ c ∧ c ≤ maxLen ∧ Reads W W.heap.size 1 A n (xs.map (.int k)) ∧ (∀ x ∈ xs, (Lit.int k x).wf = true) ∧ (n = 0 ∨ ∃ D E, d = .slice D E ∧ D.length = n) := by
  have hk := open_nums ht he hc hval hlt h
  obtain ⟨A, n, c, xs, h1, h2, h3, h4, h5⟩ := hk
  refine ⟨A, n, c, xs, h1, h2, h3, h4, h5, ?_⟩
  subst h1
  obtain ⟨fuel, hf⟩ := h
  rcases open_ints ht he hc hf with ⟨hcs, hx⟩ | ⟨a, len, cap, zs, hcs, hb, hlc, hm, hzl, hx, hcell, hwf⟩
  · simp [Value.cells] at hcs
    exact .inl hcs.2.1
  · simp [Value.cells] at hcs
    obtain ⟨rfl, rfl, rfl⟩ := hcs
    simp only [Prod.mk.injEq] at hx
    obtain ⟨rfl, rfl⟩ := hx
    have hlz : n ≤ zs.length := by rw [hzl]; split <;> omega
    exact .inr ⟨_, _, rfl, by simp [lits]; omega⟩
end Go.Proofs.YtccmichgbkmdpaaGreatDoor

namespace Go.Proofs.YtccmichgbkmdpaaGreatDoor
open Go.ChangeShapes Go.WideShapes Go.ChangeAt Go.RowKit Go.Joins Go.Deep
instance : Inhabited (Ob × ObV) := ⟨(⟨0, [], [], false⟩, ⟨0, none, 0, 0, none, 0, 0, false⟩)⟩
theorem trod_nums {H : Type} {enc : TypeId × Value → H} {P : Program} {t e : TypeId} {k : IntKind} {W : World} {sp : Nat → Bool} {fuel : Nat} {v : Value} {x : DataW H × List MemPlace} (ht : P.underlying t = some (.slice e)) (he : P.underlying e = some (.int k)) (hc : P.cellsOf e = 1)
    (hlt : ∀ p ∈ x.2, p.block < W.heap.size) (h : DataW.trod enc P W 0 sp true fuel t [v] = some x) :
    ∃ (A : Option Addr) (n c : Nat) (xs : List Int), v = .slice A n c ∧ n ≤ c ∧ c ≤ maxLen ∧ xs.length = n ∧ Reads W W.heap.size 1 A n (xs.map (.int k)) ∧ (∀ x ∈ xs, (Lit.int k x).wf = true) := by
  rcases open_ints ht he hc h with ⟨hcs, hx⟩ | ⟨a, len, cap, zs, hcs, hb, hlc, hm, hzl, hx, hcell, hwf⟩
  · simp at hcs
    subst hcs
    exact ⟨none, 0, 0, [], rfl, Nat.le_refl _, Nat.zero_le _, rfl, Reads.none_, fun x hx => by cases hx⟩
  · simp at hcs
    subst hcs
    subst hx
    have hlz : len ≤ zs.length := by rw [hzl]; split <;> omega
    refine ⟨some a, len, cap, zs.take len, rfl, hlc, hm, by simp; omega, ⟨by simp; omega, fun hn => ⟨a, rfl, ?_, fun j u hu => ?_⟩⟩, fun x hx => hwf x (List.mem_of_mem_take hx)⟩
    · have := hlt (.cell a.block (a.off + 0)) (by
        unfold MemPlace.row
        exact List.mem_map.2 ⟨0, List.mem_range.2 (by omega), rfl⟩)
      exact this
    · have hj : j < len := by
        have := (List.getElem?_eq_some_iff.1 hu).1
        simp at this; omega
      rw [hcell j (by omega)]
      rw [List.getElem?_map, List.getElem?_take, if_pos hj, List.getElem?_eq_getElem (by omega)] at hu
      rw [← hu, List.getD_eq_getElem?_getD, List.getElem?_eq_getElem (by omega)]
      rfl
theorem open_elemsQ {α : Type} [Inhabited α] (f : α → List Value) (Q : α → Prop) (k : Nat) (hk0 : 0 < k) (hf : ∀ a, (f a).length = k) {H : Type} {enc : TypeId × Value → H} {P : Program} {t e : TypeId} {W : World} {r : Reach} {base : Nat} {sp : Nat → Bool} {v : Value} {d : DataW H} {ps : List MemPlace}
    (ht : P.underlying t = some (.slice e)) (hc : P.cellsOf e = k) (hel : ∀ n cs (y : DataW H × List MemPlace), (∀ p ∈ y.2, p.block < W.heap.size) → DataW.trod enc P W 0 sp true n e cs = some y → ∃ a, cs = f a ∧ Q a)
    (hval : Value.okWide P W r base t v) (hlt : ∀ x ∈ ps, x.block < W.heap.size) (h : DataW.Trod enc P W 0 sp true t v d ps) :
    ∃ (A : Option Addr) (n c : Nat) (l : List α), v = .slice A n c ∧ n ≤ c ∧ c ≤ maxLen ∧ Reads W W.heap.size k A n (l.flatMap f) ∧ (∀ a ∈ l, Q a) ∧ l.length = n ∧ (n = 0 ∨ ∃ D E, d = .slice D E ∧ D.length = n) := by
  obtain ⟨a0, len0, cap0, rfl⟩ := okWide_slice ht hval
  obtain ⟨fuel, hf'⟩ := h
  rcases open_slice ht hf' with ⟨hcs, hx⟩ | ⟨a, len, cap, m, n, D, Pl, hcs, hb, hlc, hm, hmm, hx, hcell⟩
  · simp [Value.cells] at hcs
    obtain ⟨rfl, rfl, rfl⟩ := hcs
    exact ⟨none, 0, 0, [], rfl, Nat.le_refl _, Nat.zero_le _, Reads.none_, (fun a ha => by cases ha), rfl, .inl rfl⟩
  · simp [Value.cells] at hcs
    obtain ⟨rfl, rfl, rfl⟩ := hcs
    simp only [Prod.mk.injEq] at hx
    obtain ⟨rfl, rfl⟩ := hx
    have hlm : len0 ≤ m := by rw [hmm]; split <;> omega
    rw [hc] at hcell hlt
    obtain ⟨V, hV⟩ := choose_lt (α := α) (p := fun i x => W.cells? 0 (a.add (i * k)) k = some (f x) ∧ Q x) (fun i hi => by
      obtain ⟨cs', h1, h2⟩ := hcell i hi
      obtain ⟨x, rfl, hq⟩ := hel _ _ _ (fun p hp => hlt p (List.mem_append_right _ (List.mem_flatMap.2 ⟨i, List.mem_range.2 hi, hp⟩))) h2
      exact ⟨x, h1, hq⟩)
    refine ⟨some a, len0, cap0, (List.range len0).map V, rfl, hlc, hm, ⟨by rw [flat_length f k hf]; simp, fun hn => ⟨a, rfl, ?_, fun j u hu => ?_⟩⟩, fun x hx => ?_, by simp, .inr ⟨_, _, rfl, by simp⟩⟩
    · have := hlt (.cell a.block (a.off + 0)) (List.mem_append_left _ (by
        unfold MemPlace.row
        refine List.mem_map.2 ⟨0, List.mem_range.2 ?_, rfl⟩
        exact Nat.mul_pos (by omega) hk0))
      exact this
    · have hj : j < len0 * k := by
        have := (List.getElem?_eq_some_iff.1 hu).1
        rw [flat_length f k hf] at this
        simpa using this
      have hq : j / k < len0 := Nat.div_lt_of_lt_mul (by rw [Nat.mul_comm]; exact hj)
      have hr : j % k < k := Nat.mod_lt _ hk0
      have hjd : j / k * k + j % k = j := by rw [Nat.mul_comm]; exact Nat.div_add_mod j k
      rw [← hjd, flat_at f k hf _ _ _ (by simpa using hq) hr] at hu
      simp only [List.getElem_map, List.getElem_range] at hu
      have := (World.cells?_some (hV (j / k) (by omega)).1).2.2 (j % k) hr
      rw [add_of_add, hjd] at this
      rw [this]
      exact hu
    · obtain ⟨i, hi, rfl⟩ := List.mem_map.1 hx
      exact (hV i (by have := List.mem_range.1 hi; omega)).2
theorem list4b {α : Type} {l : List α} (h : l.length = 4) : ∃ a b c d, l = [a, b, c, d] := by
  match l, h with
  | [a, b, c, d], _ => exact ⟨a, b, c, d, rfl⟩
theorem k_ob_bytes : Tryz.prog.bytesOf 61 = 64 := by kernel_rfl
def ObIn (W : World) (p : Ob × ObV) : Prop := ObR W W.heap.size p.1 p.2 ∧ (∀ x ∈ p.1.refs, (Lit.int .i64 x).wf = true) ∧ ∀ x ∈ p.1.body, (Lit.int .u64 x).wf = true
set_option maxRecDepth 100000 in
theorem open_obs {H : Type} {enc : TypeId × Value → H} {W : World} {r : Reach} {base : Nat} {sp : Nat → Bool} {v : Value} {d : DataW H} {ps : List MemPlace}
    (hval : Value.okWide Tryz.prog W r base 74 v) (hlt : ∀ x ∈ ps, x.block < W.heap.size) (h : DataW.Trod enc Tryz.prog W 0 sp true 74 v d ps) :
    ∃ (A : Option Addr) (n c : Nat) (os : List Ob) (vs : List ObV), v = .slice A n c ∧ n ≤ c ∧ c ≤ maxLen ∧ Reads W W.heap.size 4 A n (vs.flatMap obvC) ∧ ObsR W W.heap.size os vs ∧ (∀ o ∈ os, (∀ x ∈ o.refs, (Lit.int .i64 x).wf = true) ∧ ∀ x ∈ o.body, (Lit.int .u64 x).wf = true) ∧ os.length = n ∧ (n = 0 ∨ ∃ D E, d = .slice D E ∧ D.length = n) := by
  obtain ⟨A, n, c, l, rfl, h2, h3, h4, h5, h6, h7⟩ := open_elemsQ (α := Ob × ObV) (fun p => obvC p.2) (ObIn W) 4 (by decide) (fun _ => rfl) Tryz.underlying74 (by kernel_rfl) (fun n cs y hy hp => by
    obtain ⟨y0, y1, y2, y3, m, hyy, hl, a0, a1, a2, a3⟩ := trod_struct4 Tryz.underlying61 hp
    have hl4 : cs.length = 4 := hl.trans (by kernel_rfl)
    obtain ⟨c0, c1, c2, c3, rfl⟩ := list4b hl4
    have k0 : Tryz.prog.cellsOf 3 = 1 := by kernel_rfl
    have k1 : Tryz.prog.cellsOf 23 = 1 := by kernel_rfl
    have k2 : Tryz.prog.cellsOf 22 = 1 := by kernel_rfl
    have k3 : Tryz.prog.cellsOf 4 = 1 := by kernel_rfl
    have k4 : Tryz.prog.cellsOf 36 = 1 := by kernel_rfl
    dsimp only at a0 a1 a2 a3
    rw [k0] at a0
    rw [k1] at a1
    rw [k2] at a2
    rw [k3] at a3
    have hy1 : ∀ p ∈ y1.2, p.block < W.heap.size := fun p hp' => hy p (by rw [hyy]; simp [hp'])
    have hy2 : ∀ p ∈ y2.2, p.block < W.heap.size := fun p hp' => hy p (by rw [hyy]; simp [hp'])
    obtain ⟨x0, q0, -, -⟩ := DataW.trod_int Tryz.underlying3 a0
    obtain ⟨x3, q3, -⟩ := DataW.trod_bool Tryz.underlying4 a3
    simp at q0 q3
    subst q0 q3
    obtain ⟨A1, n1, e1, xs1, rfl, r1, r2, r3, r4, r5⟩ := trod_nums Tryz.underlying23 Tryz.underlying3 k0 hy1 (by simpa using a1)
    obtain ⟨A2, n2, e2, xs2, rfl, s1, s2, s3, s4, s5⟩ := trod_nums Tryz.underlying22 Tryz.underlying36 k4 hy2 (by simpa using a2)
    exact ⟨(⟨x0, xs1, xs2, x3⟩, ⟨x0, A1, n1, e1, A2, n2, e2, x3⟩), rfl, ⟨rfl, rfl, r1, s1, r3.symm, s3.symm, r4, s4⟩, r5, s5⟩) hval hlt h
  refine ⟨A, n, c, l.map (·.1), l.map (·.2), rfl, h2, h3, ?_, ⟨by simp, fun i o v ho hv => ?_⟩, fun o ho => ?_, by simpa using h6, h7⟩
  · rw [List.flatMap_map]; exact h4
  · rw [List.getElem?_map] at ho hv
    cases hx : l[i]? with
    | none => rw [hx] at ho; cases ho
    | some p =>
      rw [hx] at ho hv
      obtain rfl := Option.some.inj ho
      obtain rfl := Option.some.inj hv
      exact (h5 p (List.mem_of_getElem? hx)).1
  · obtain ⟨p, hp, rfl⟩ := List.mem_map.1 ho
    exact (h5 p hp).2
end Go.Proofs.YtccmichgbkmdpaaGreatDoor

namespace Go.Proofs.YtccmichgbkmdpaaGreatDoor
open Go.ChangeShapes Go.WideShapes Go.ChangeAt Go.RowKit Go.Joins Go.Deep
set_option maxRecDepth 100000 in
theorem open_store {H : Type} {enc : TypeId × Value → H} {W : World} {r : Reach} {base : Nat} {sp : Nat → Bool} {v : Value} {d : DataW H} {ps : List MemPlace}
    (hval : Value.okWide Tryz.prog W r base 28 v) (hlt : ∀ x ∈ ps, x.block < W.heap.size) (h : DataW.Trod enc Tryz.prog W 0 sp true 28 v d ps) :
    ∃ (A : Option Addr) (n c : Nat) (RA : Option Addr) (rn rc : Nat) (PA : Option Addr) (pn pc : Nat) (HA : Option Addr) (hn hc : Nat) (S : St), v = .agg #[.slice A n c, .slice RA rn rc, .slice PA pn pc, .slice HA hn hc] ∧ StR W W.heap.size A n RA rn PA pn HA hn S ∧ StK n c rn pn hn S := by
  obtain ⟨c0, c1, c2, c3, y0, y1, y2, y3, m, rfl, rfl, rfl, hy0, hy1, hy2, hy3⟩ := open_agg4 Tryz.underlying28 (by kernel_rfl) (by kernel_rfl) hval h
  have k4 : Tryz.prog.cellsOf 36 = 1 := by kernel_rfl
  have k0 : Tryz.prog.cellsOf 3 = 1 := by kernel_rfl
  have k3 : Tryz.prog.cellsOf 4 = 1 := by kernel_rfl
  obtain ⟨A, n, c, a, rfl, a1, a2, a3, a4, a5⟩ := trod_nums Tryz.underlying22 Tryz.underlying36 k4 (fun x hx => hlt x (by simp [hx])) hy0
  obtain ⟨RA, rn, rc, r, rfl, r1, r2, r3, r4, r5⟩ := trod_nums Tryz.underlying23 Tryz.underlying3 k0 (fun x hx => hlt x (by simp [hx])) hy1
  obtain ⟨PA, pn, pc, p, rfl, p1, p2, p3, p4⟩ := open_elemsC runC 2 (by decide) (fun _ => rfl) Tryz.underlying24 (by kernel_rfl) (fun n cs y hy => by
    obtain ⟨z0, z1, m, _, hl, a0, a1⟩ := trod_struct2 Tryz.underlying68 hy
    have hl2 : cs.length = 2 := hl.trans (by kernel_rfl)
    obtain ⟨c0, c1, rfl⟩ := list2P hl2
    dsimp only at a0 a1
    rw [k0] at a0 a1
    obtain ⟨x0, q0, -, -⟩ := DataW.trod_int Tryz.underlying3 a0
    obtain ⟨x1, q1, -, -⟩ := DataW.trod_int Tryz.underlying3 a1
    simp at q0 q1
    subst q0 q1
    exact ⟨⟨x0, x1⟩, rfl⟩) (fun x hx => hlt x (by simp [hx])) hy2
  obtain ⟨HA, hn, hc, l, rfl, l1, l2, l3, l4⟩ := open_elemsC slotC 3 (by decide) (fun _ => rfl) Tryz.underlying26 (by kernel_rfl) (fun n cs y hy => by
    obtain ⟨z0, z1, z2, m, _, hl, a0, a1, a2⟩ := trod_struct3 Tryz.underlying71 hy
    have hl3 : cs.length = 3 := hl.trans (by kernel_rfl)
    obtain ⟨c0, c1, c2, rfl⟩ := list3 hl3
    dsimp only at a0 a1 a2
    rw [k0] at a0 a2
    rw [k3] at a1
    obtain ⟨x0, q0, -, -⟩ := DataW.trod_int Tryz.underlying3 a0
    obtain ⟨x1, q1, -⟩ := DataW.trod_bool Tryz.underlying4 a1
    obtain ⟨x2, q2, -, -⟩ := DataW.trod_int Tryz.underlying3 a2
    simp at q0 q1 q2
    subst q0 q1 q2
    exact ⟨⟨x0, x1, x2⟩, rfl⟩) (fun x hx => hlt x (by simp [hx])) hy3
  unfold maxLen at r2 p2 l2
  exact ⟨A, n, c, RA, rn, rc, PA, pn, pc, HA, hn, hc, ⟨a, r, p, l⟩, rfl, ⟨a4, r4, p3, l3⟩, ⟨a1, a2, a5, by omega, by omega, by omega⟩⟩
end Go.Proofs.YtccmichgbkmdpaaGreatDoor

namespace Go.Proofs.YtccmichgbkmdpaaGreatDoor
open Go.ChangeShapes Go.WideShapes Go.ChangeAt Go.RowKit
theorem cells_of_bools {H : Type} {enc : TypeId × Value → H} {P : Program} {w : World} {base : Nat} {sp : Nat → Bool} {held : Bool} {fuel : Nat} {t e : TypeId} {n : Nat} {cs : List Value} {zs : List Bool} {p : List MemPlace}
    (ht : P.underlying t = some (.array n e)) (he : P.underlying e = some .bool) (hce : P.cellsOf e = 1) (hct : P.cellsOf t = n)
    (h : DataW.trod enc P w base sp held fuel t cs = some (.agg (zs.map fun z => .lit (.bool z)), p)) : cs = zs.map Value.bool := by
  cases fuel with
  | zero => simp [DataW.trod] at h
  | succ fuel =>
    simp only [DataW.trod, ht, hce, hct, Nat.mul_one] at h
    split at h
    · rename_i hl
      obtain ⟨xs, hm, hx⟩ := Option.map_eq_some_iff.1 h
      have hxs : xs.map (·.1) = zs.map fun z => (DataW.lit (.bool z) : DataW H) := by
        have := congrArg Prod.fst hx
        simpa using this
      have hxl : xs.length = n := by simpa using Lib.mapM_length hm
      have hzl : zs.length = n := by
        have := congrArg List.length hxs
        simp at this
        omega
      apply List.ext_getElem?
      intro i
      by_cases hi : i < n
      · obtain ⟨b, hb, hf⟩ := Lib.mapM_at hm i i (by simp [hi])
        obtain ⟨z, hc, rfl⟩ := DataW.trod_bool he hf
        have h1 : cs[i]? = some (.bool z) := by
          have := congrArg (·[0]?) hc
          simpa [List.getElem?_take, List.getElem?_drop] using this
        have h2 : (xs.map (·.1))[i]? = some (DataW.lit (.bool z) : DataW H) := by simp [hb]
        rw [hxs] at h2
        simp only [List.getElem?_map, Option.map_eq_some_iff, DataW.lit.injEq, Lit.bool.injEq] at h2
        obtain ⟨z', hz', rfl⟩ := h2
        simp [h1, hz']
      · rw [List.getElem?_eq_none (by omega), List.getElem?_eq_none (by simp; omega)]
    · cases h
theorem rows_of_bools {H : Type} {enc : TypeId × Value → H} {P : Program} {w : World} {base : Nat} {sp : Nat → Bool} {held : Bool} {fuel : Nat} {t r e : TypeId} {m n : Nat} {cs : List Value} {zs : List (List Bool)} {p : List MemPlace}
    (ht : P.underlying t = some (.array m r)) (hr : P.underlying r = some (.array n e)) (he : P.underlying e = some .bool) (hce : P.cellsOf e = 1) (hcr : P.cellsOf r = n)
    (h : DataW.trod enc P w base sp held fuel t cs = some (.agg (zs.map fun z => .agg (z.map fun b => .lit (.bool b))), p)) : ∀ k z, zs[k]? = some z → k < m → (cs.drop (k * n)).take n = z.map Value.bool := by
  cases fuel with
  | zero => simp [DataW.trod] at h
  | succ fuel =>
    simp only [DataW.trod, ht, hcr] at h
    split at h
    · rename_i hl
      obtain ⟨xs, hm, hx⟩ := Option.map_eq_some_iff.1 h
      have hxs : xs.map (·.1) = zs.map fun z => (DataW.agg (z.map fun b => .lit (.bool b)) : DataW H) := by
        have := congrArg Prod.fst hx
        simpa using this
      intro k z hz hk
      obtain ⟨b, hb, hf⟩ := Lib.mapM_at hm k k (by simp [hk])
      have h2 : (xs.map (·.1))[k]? = some b.1 := by simp [hb]
      rw [hxs, List.getElem?_map, hz] at h2
      have h3 : b.1 = DataW.agg (z.map fun b => .lit (.bool b)) := by simpa using h2.symm
      obtain ⟨b1, b2⟩ := b
      simp only at h3
      subst h3
      exact cells_of_bools hr he hce hcr hf
    · cases h
def formsR : List (List Bool) := [[false, false, false, false], [true, true, true, true], [false, false, false, false], [true, true, true, false], [true, true, true, false], [true, true, false, false], [true, true, false, true], [true, false, false, false], [true, false, false, false], [true, true, false, false], [true, false, false, false], [true, false, false, true], [false, false, false, true], [true, false, false, false]]
theorem formsR_laid {H : Type} : (Rows.laid_cairnfield_play_forms : DataW H) = .agg (formsR.map fun z => .agg (z.map fun b => .lit (.bool b))) := rfl
theorem formsR_at (k : Nat) (hk : k < 14) (i : Nat) (hi : i < 4) : ∃ z, formsR[k]? = some z ∧ (z.map Value.bool)[i]? = some (.bool (formB k i)) := by
  have h : ∀ k < 14, ∀ i < 4, (formsR.getD k [])[i]? = some (formB k i) := by decide
  have hl : k < formsR.length := hk
  refine ⟨formsR[k], List.getElem?_eq_getElem hl, ?_⟩
  have := h k hk i hi
  rw [List.getD_eq_getElem?_getD, List.getElem?_eq_getElem hl, Option.getD_some] at this
  rw [List.getElem?_map, this]
  rfl
theorem gForms : Tryz.prog.globalNamed "cairnfield/play.forms" = some 0 := by kernel_rfl
theorem gFormsType : (Tryz.prog.globals[0]?).map (·.type) = some 124 := by kernel_rfl
theorem cellsForms4 : Tryz.prog.cellsOf 123 = 4 := by kernel_rfl
theorem cellsForms1 : Tryz.prog.cellsOf 4 = 1 := by kernel_rfl
theorem fcell_lt {w : World} {a : Addr} {v : Value} (h : w.cell? a = some v) : a.block < w.heap.size := World.block_lt_of_cell? w a h
set_option maxRecDepth 100000 in
theorem ftab_of {W : World} (h : laidMetH Tryz.prog [("cairnfield/play.forms", Rows.laid_cairnfield_play_forms)] W) : FTab W := by
  have h' : laidMet Tryz.prog [("cairnfield/play.forms", Rows.laid_cairnfield_play_forms)] W := h
  obtain ⟨ps, ⟨g', t', cs, fuel, p, q, hg', ht', hvar, hd, _, _⟩, _⟩ := h'
  obtain rfl := Option.some.inj (gForms.symm.trans hg')
  obtain rfl := Option.some.inj (gFormsType.symm.trans ht')
  rw [formsR_laid] at hd
  have hr := rows_of_bools Tryz.underlying124 Tryz.underlying123 Tryz.underlying4 cellsForms1 cellsForms4 hd
  have hc : ∀ k i : Nat, k < 14 → i < 4 → W.cell? ⟨0, k * 4 + i, none⟩ = some (.bool (formB k i)) := by
    intro k i hk hi
    obtain ⟨z, hz, hzi⟩ := formsR_at k hk i hi
    have h1 := hr k z hz hk
    rw [← h1, List.getElem?_take, if_pos hi, List.getElem?_drop] at hzi
    have h2 := World.var?_cell gForms hvar (k * 4 + i)
    rw [List.getElem?_toArray] at h2
    rw [h2]
    exact hzi
  exact ⟨fcell_lt (hc 0 0 (by decide) (by decide)), hc⟩
noncomputable def fLaidWorld (os : Os) : World :=
  { World.holding Tryz.prog os ⟨#[], #[], []⟩ with heap := (World.holding Tryz.prog os ⟨#[], #[], []⟩).heap.modify 0 fun
      | .cells _ t frozen => .cells (formsT.map Value.bool).toArray t frozen
      | o => o }
end Go.Proofs.YtccmichgbkmdpaaGreatDoor

namespace Go.Proofs.YtccmichgbkmdpaaGreatDoor
open Go.RowKit
theorem opsC_take (l : List OpV) (k : Nat) (h : k ≤ l.length) : (opsC l).take (k * 5) = opsC (l.take k) := by
  have e : opsC l = opsC (l.take k) ++ opsC (l.drop k) := by
    unfold opsC
    rw [← List.flatMap_append, List.take_append_drop]
  have hl : (opsC (l.take k)).length = k * 5 := by rw [opsC_length, List.length_take, Nat.min_eq_left h]
  rw [e, List.take_append_of_le_length (by omega), List.take_of_length_le (by omega)]
theorem opsC_drop (l : List OpV) (k : Nat) (h : k ≤ l.length) : (opsC l).drop (k * 5) = opsC (l.drop k) := by
  have e : opsC l = opsC (l.take k) ++ opsC (l.drop k) := by
    unfold opsC
    rw [← List.flatMap_append, List.take_append_drop]
  have hl : (opsC (l.take k)).length = k * 5 := by rw [opsC_length, List.length_take, Nat.min_eq_left h]
  rw [e, List.drop_append_of_le_length (by omega), List.drop_of_length_le (by omega), List.nil_append]
theorem Reads.frontK {w : World} {B k : Nat} {A : Option Addr} {n m : Nat} {xs : List Value} (h : Reads w B k A n xs) (hm : m ≤ n) : Reads w B k A m (xs.take (m * k)) := by
  have hmul : m * k ≤ n * k := Nat.mul_le_mul_right _ hm
  refine ⟨by rw [List.length_take, h.1]; omega, fun h0 => ?_⟩
  obtain ⟨ad, e, hb, hc⟩ := h.2 (by omega)
  refine ⟨ad, e, hb, fun j u hu => hc j u ?_⟩
  rw [List.getElem?_take] at hu
  split at hu
  · exact hu
  · cases hu
theorem toldsC_app (l m : List ToldV) : toldsC (l ++ m) = toldsC l ++ toldsC m := by unfold toldsC; rw [List.flatMap_append]
theorem toldsC_one (l : List ToldV) : ∀ u ∈ toldsC l, u.oneCell' = true := by
  intro u hu
  obtain ⟨t, -, h⟩ := List.mem_flatMap.1 hu
  simp only [toldC, List.mem_cons, List.not_mem_nil, or_false] at h
  rcases h with rfl | rfl <;> rfl
end Go.Proofs.YtccmichgbkmdpaaGreatDoor

namespace Go.Proofs.YtccmichgbkmdpaaGreatDoor
open Go.RowKit
set_option maxHeartbeats 400000 in
theorem equal_told (A A2 : Option Addr) (n c c2 B B2 : Nat) (l : List ToldV) (w : World) (hr : Reads w B 2 A n (toldsC l)) (hr2 : Reads w B2 2 A2 n (toldsC l)) (hn : n ≤ 1000000000000000000) :
    Calls Tryz.prog 11 #[.slice A n c, .slice A2 n c2] w fun e w' => e = .returned (.bool true) ∧ ∃ q, w' = w.drewN q := by
  go_enter Tryz.func11, Tryz.ntmps11
  go_wp2
  go_loopw [13] (fun i wr => ∃ j : Nat, j ≤ n ∧ i = .int .i64 j ∧ ∃ q, wr = w.drewN q) (fun i _ => n - (intOf i).toNat)
  case atStart => exact ⟨0, Nat.zero_le _, rfl, 0, rfl⟩
  case round =>
    obtain ⟨j, hj, rfl, q, rfl⟩ := hrel
    by_cases hlt : j < n
    · obtain ⟨ad, r, rfl, _, hs, c0, c1⟩ := hr.told hlt
      obtain ⟨ad2, r2, rfl, _, hs2, d0, d1⟩ := hr2.told hlt
      obtain rfl : r = r2 := Option.some.inj (hs.symm.trans hs2)
      obtain ⟨x, y⟩ := r
      dsimp only at *
      have hlt' : (j : Int) < n := by omega
      clear hs hs2
      go_wp2
      go_quiet (fail)
      go_wp2
      go_roundw
      case rel => exact ⟨j + 1, by omega, by go_num, _, rfl⟩
      case measure => simp [intOf]; omega
    · go_wp2
      go_ret
      exact ⟨rfl, _, rfl⟩
set_option maxHeartbeats 400000 in
theorem clone_told (A : Option Addr) (n c B : Nat) (xs : List Value) (w : World) (hr : Reads w B 2 A n xs) (hB : B ≤ w.heap.size) (h1 : ∀ u ∈ xs, u.oneCell' = true) (hn : n ≤ 1000000) :
    Calls Tryz.prog 13 #[.slice A n c] w fun e w' => ∃ A' c', e = .returned (.slice A' n c') ∧ w'.ownsRow w.heap.size 38 2 (.slice A' n c') n xs ∧ Below w.heap.size w w' := by
  obtain ⟨i0, hi, hz0, hz1, hz2⟩ := info_parts info_told
  rcases A with _ | ad
  · have hm : n = 0 := by
      rcases Nat.eq_zero_or_pos n with h0 | h0
      · exact h0
      · obtain ⟨ad, h, _⟩ := hr.2 h0
        cases h
    subst hm
    have hx : xs = [] := List.eq_nil_of_length_eq_zero (by simpa using hr.1)
    subst hx
    have hnil := fun (w : World) => Lib.run_eql_slice_nil (P := Tryz.prog) w 31 38 none 0 c 0 0 Tryz.underlying31
    go_enter Tryz.func13, Tryz.ntmps13
    go_wp2
    go_ret
    exact ⟨none, 0, rfl, World.ownsRow_nil _ _ _ _, Below.refl _ _⟩
  · have hnil := fun (w : World) => Lib.run_eql_slice_nil (P := Tryz.prog) w 31 38 (some ad) n c 0 0 Tryz.underlying31
    have hmade := World.ownsRow_made (e := 38) (size := 2) w #[] 0 (Nat.le_refl w.heap.size) (Nat.zero_le _) rfl
    go_enter Tryz.func13, Tryz.ntmps13
    go_wp2_with (at_builtin; refine wpList_append_any _ rfl (.tmp 5) (.tmp 6) 31 rfl w.heap.size 38 i0 _ 2 16 Tryz.underlying31 hi hz0 hz1 hz2 rfl (by decide) (.slice (some ⟨w.heap.size, 0, none⟩) 0 0) 0 [] rfl hmade B (some ad) n c xs rfl (hr.alloc hB _) h1 (by simp [maxLen]; omega) (by omega) (by simp) ?_; rintro v' w1 hown hgr hbl -; obtain ⟨A', c', rfl⟩ := own_slice hown)
    go_ret
    exact ⟨A', c', rfl, by simpa using hown, ((Below.refl _ _).alloc (Nat.le_refl _) _).grown hgr (by simp) (by simp [Value.ownBlock])⟩
end Go.Proofs.YtccmichgbkmdpaaGreatDoor
