/-
  Texts joined: QStTake QStCopied QStMake QStMakeBad TakeLaw2 QStObject.
-/
import Derived.Test.YtbmkbnalembbjaaGreatDoorQ0
import Derived.Test.YtbmkbnalembbjaaGreatDoorQ1
import Derived.Test.YtbmkbnalembbjaaGreatDoorQ3
import Derived.Test.YtbmkbnalembbjaaGreatDoorQ4
import Derived.Test.YtbmkbnalembbjaaGreatDoorQ13
import Derived.Test.YtbmkbnalembbjaaGreatDoorQ14
import Derived.Test.YtbmkbnalembbjaaGreatDoorQ15
namespace Go.Proofs.YtbmkbnalembbjaaGreatDoor
open Go.RowKit
def joined (a : List Int) : List Int := joinL a (gapsL (spotsL a))
def takenA (a : List Int) (g : Rn) (r b t : Int) : List Int := takeL (joined a) g.loc.toNat g.len.toNat (1 + r + b).toNat (wordOf r b t false)
structure FirstGap (a : List Int) (N : Int) (j : Nat) (g : Rn) : Prop where
  fits : fitsE (ggL a) N = 0
  ix : firstV (ggL a) N = j
  at_ : (ggL a)[j]? = some g
  long : N ≤ g.len
theorem first_gap {a : List Int} {N : Int} (h : fitsE (ggL a) N = 0) : ∃ j g, FirstGap a N j g := by
  obtain ⟨h1, h2⟩ := fitsL_ok h
  have h3 : fitsL (ggL a) N ≠ [] := by rw [h1]; exact h2
  cases hl : fitsL (ggL a) N with
  | nil => exact absurd hl h3
  | cons x l =>
    obtain ⟨j, g, q1, q2, rfl⟩ := fitsL_mem (l := ggL a) (n := N) (x := x) (by rw [hl]; exact List.mem_cons_self)
    exact ⟨j, g, h, by unfold firstV; rw [hl]; rfl, q1, q2⟩
theorem gap_facts {a : List Int} (h : checkE a = 0) {g : Rn} (hg : g ∈ ggL a) : ∃ i n : Nat, g = ⟨i, n⟩ ∧ 1 ≤ n ∧ i + n ≤ a.length := by
  unfold ggL at hg
  rw [if_pos h] at hg
  exact (join_ok h).runs g hg
theorem ggL_length {a : List Int} : (ggL a).length ≤ 257 := by
  unfold ggL
  split
  · have h1 := gapsA_length [] false (spotsL a)
    have h2 := spotsL_length a
    unfold gapsL
    simp only [List.length_nil] at h1
    omega
  · simp
theorem joinL_w64 : ∀ (l : List Rn) (a : List Int), W64 a → (∀ q ∈ l, q.len.toNat ≤ 256) → W64 (joinL a l)
  | [], _, h, _ => h
  | q :: l, _, h, hl => joinL_w64 l _ (layL_w64 h (hl q List.mem_cons_self)) (fun z hz => hl z (List.mem_cons_of_mem _ hz))
set_option maxRecDepth 100000 in
set_option maxHeartbeats 4000000 in
theorem takeFn_no (A : Option Addr) (n c : Nat) (RA : Option Addr) (rn rc : Nat) (PA : Option Addr) (pn pc : Nat) (HA : Option Addr) (hn hc : Nat) (S : St) (r b t : Int) (w : World) (hR : StR w w.heap.size A n RA rn PA pn HA hn S) (hK : StK n c rn pn hn S) (hE : headE r b t false = 0) (hF : fitsE (ggL S.a) (1 + r + b) ≠ 0) :
    Calls Tryz.prog 36 #[.agg #[.slice A n c, .slice RA rn rc, .slice PA pn pc, .slice HA hn hc], .agg #[.int .i64 r, .int .i64 b, .int .i64 t, .bool false]] w fun e w' => Below w.heap.size w w' ∧ e = .returned (.tuple #[.slice none 0 0, .int .i64 0, .bool false]) := by
  have HLo := Lib.hid (fun w => hlongc_ok r b t false w hE)
  have HGp := Lib.hid (fun w hr => ggapsE_any A n c S.a w hr hK.cap hK.wf)
  have HFi := Lib.hid (fun A' c' w hr => first_any A' (ggL S.a).length c' (ggL S.a) (1 + r + b) w hr (by have := ggL_length (a := S.a); omega))
  have g1 : (fitsE (ggL S.a) (1 + r + b) != 0) = true := by simpa using hF
  generalize fitsE (ggL S.a) (1 + r + b) = F at *
  generalize firstV (ggL S.a) (1 + r + b) = V at *
  generalize 1 + r + b = N at *
  generalize checkE S.a = CE at *
  obtain ⟨q, hq⟩ : ∃ q, q = (ggL S.a).length := ⟨_, rfl⟩
  rw [← hq] at HGp HFi
  have hb0 := below_new w (.cells #[.slice A n c, .slice RA rn rc, .slice PA pn pc, .slice HA hn hc] 28)
  have hb1 := hb0.alloc hb0.size (.cells #[.int .i64 r, .int .i64 b, .int .i64 t, .bool false] 50)
  have DS := (Blk.new w 28 #[.slice A n c, .slice RA rn rc, .slice PA pn pc, .slice HA hn hc]).alloc (.cells #[.int .i64 r, .int .i64 b, .int .i64 t, .bool false] 50)
  have DH := Blk.new (w.alloc (.cells #[.slice A n c, .slice RA rn rc, .slice PA pn pc, .slice HA hn hc] 28)) 50 #[.int .i64 r, .int .i64 b, .int .i64 t, .bool false]
  rw [World.size_alloc] at DH
  obtain ⟨h0, h1, h2, h3⟩ := DH.four
  clear hb0 hF hq
  go_enter Tryz.func36, Tryz.ntmps36
  go_wp2_with fail
  refine (HLo.out _).mono ?_
  rintro e w2 ⟨rfl, hb2⟩
  have hb02 := below_step hb1 hb2
  have DS2 := DS.below hb2 DS.lt
  clear h0 h1 h2 h3
  obtain ⟨s0, s1, s2, s3⟩ := DS2.four
  go_wp2_with fail
  refine (HGp.out _ ((hR.a.below hb02).more hb02.size)).mono ?_
  rintro e w3 ⟨hb3, A5, c5, rfl, hown⟩
  have hb03 := below_step hb02 hb3
  have hrG := Reads.of_own hown
  clear s0 s1 s2 s3
  go_wp2_with fail
  refine (HFi.out A5 c5 _ hrG).mono ?_
  rintro e w4 ⟨rfl, hb4⟩
  have hb04 := below_step hb03 hb4
  go_wp2_with fail
  go_ret3
  exact ⟨hb04, rfl⟩
set_option maxRecDepth 100000 in
set_option maxHeartbeats 4000000 in
theorem takeFn_yes (A : Option Addr) (n c : Nat) (RA : Option Addr) (rn rc : Nat) (PA : Option Addr) (pn pc : Nat) (HA : Option Addr) (hn hc : Nat) (S : St) (r b t : Int) (j : Nat) (g : Rn) (w : World) (hR : StR w w.heap.size A n RA rn PA pn HA hn S) (hK : StK n c rn pn hn S) (hC : checkE S.a = 0) (hE : headE r b t false = 0) (hG : FirstGap S.a (1 + r + b) j g) :
    Calls Tryz.prog 36 #[.agg #[.slice A n c, .slice RA rn rc, .slice PA pn pc, .slice HA hn hc], .agg #[.int .i64 r, .int .i64 b, .int .i64 t, .bool false]] w fun e w' => Below w.heap.size w w' ∧ ∃ (A' : Option Addr) (c' : Nat), e = .returned (.tuple #[.slice A' n c', .int .i64 g.loc, .bool true]) ∧
      OwnT w' w.heap.size 45 1 isW (.slice A' n c') n ((takenA S.a g r b t).map (.int .u64)) := by
  have HLo := Lib.hid (fun w => hlongc_ok r b t false w hE)
  have HGp := Lib.hid (fun w hr => ggapsE_any A n c S.a w hr hK.cap hK.wf)
  have HFi := Lib.hid (fun A' c' w hr => first_any A' (ggL S.a).length c' (ggL S.a) (1 + r + b) w hr (by have := ggL_length (a := S.a); omega))
  have HJn := Lib.hid (fun w hr => gjoin_ok A n c S.a w hr hK.cap hK.wf hC)
  have hgm : g ∈ gapsL (spotsL S.a) := by have := List.mem_of_getElem? hG.at_; unfold ggL at this; rwa [if_pos hC] at this
  obtain ⟨s, hs, e1, e2, e3⟩ := join_spot hC hgm
  have hJ := join_ok hC
  obtain ⟨js, hjs⟩ := List.mem_iff_getElem?.1 hs
  have hixs : ixOf (pF g.loc true) (spotsL (joinL S.a (gapsL (spotsL S.a)))) = js := ix_of_spot (checkE_ok.1 hJ.check).1 hjs (by unfold pF; rw [e1, e2]; simp) (fun y hy => by unfold pF at hy; simp only [Bool.and_eq_true, beq_iff_eq] at hy; rw [hy.1, e1])
  have hwj : ∀ x ∈ joinL S.a (gapsL (spotsL S.a)), (Lit.int .u64 x).wf = true := by
    refine joinL_w64 _ _ hK.wf (fun q hq => ?_)
    obtain ⟨i, k, rfl, h1, h2⟩ := hJ.runs q hq
    have := (parse_ok (checkE_ok.1 hC).1).1
    simp only [Int.toNat_natCast]
    omega
  have HTk := Lib.hid (fun A' c' w hr hnc => take_goodW A' n c' (joinL S.a (gapsL (spotsL S.a))) g.loc r b t js s w hr hnc hwj hE hJ.check hixs hjs e1 e2 (by rw [e3]; exact hG.long))
  have HR : Hid (takeL (joinL S.a (gapsL (spotsL S.a))) s.loc.toNat s.long.toNat (1 + r + b).toNat (wordOf r b t false) = takenA S.a g r b t) := by
    show _ = _
    unfold takenA joined
    rw [e1, e3]
  rw [HR.out] at HTk
  rw [hG.fits, hG.ix] at HFi
  rw [hC] at HGp
  generalize takenA S.a g r b t = na at *
  generalize joinL S.a (gapsL (spotsL S.a)) = ja at *
  have HAt := Lib.hid hG.at_
  have hjl : j < (ggL S.a).length := (List.getElem?_eq_some_iff.1 hG.at_).1
  obtain ⟨q, hq⟩ : ∃ q, q = (ggL S.a).length := ⟨_, rfl⟩
  rw [← hq] at HGp HFi hjl
  generalize 1 + r + b = N at *
  have hb0 := below_new w (.cells #[.slice A n c, .slice RA rn rc, .slice PA pn pc, .slice HA hn hc] 28)
  have hb1 := hb0.alloc hb0.size (.cells #[.int .i64 r, .int .i64 b, .int .i64 t, .bool false] 50)
  have DS := (Blk.new w 28 #[.slice A n c, .slice RA rn rc, .slice PA pn pc, .slice HA hn hc]).alloc (.cells #[.int .i64 r, .int .i64 b, .int .i64 t, .bool false] 50)
  have DH := Blk.new (w.alloc (.cells #[.slice A n c, .slice RA rn rc, .slice PA pn pc, .slice HA hn hc] 28)) 50 #[.int .i64 r, .int .i64 b, .int .i64 t, .bool false]
  rw [World.size_alloc] at DH
  obtain ⟨h0, h1, h2, h3⟩ := DH.four
  clear hb0 hq hG hgm hs e1 e2 e3 hJ hjs hixs hwj HR
  go_enter Tryz.func36, Tryz.ntmps36
  go_wp2_with fail
  refine (HLo.out _).mono ?_
  rintro e w2 ⟨rfl, hb2⟩
  have hb02 := below_step hb1 hb2
  have DS2 := DS.below hb2 DS.lt
  have DH2 := DH.below hb2 DH.lt
  clear h0 h1 h2 h3
  obtain ⟨s0, s1, s2, s3⟩ := DS2.four
  go_wp2_with fail
  refine (HGp.out _ ((hR.a.below hb02).more hb02.size)).mono ?_
  rintro e w3 ⟨hb3, A5, c5, rfl, hown⟩
  have hb03 := below_step hb02 hb3
  have DS3 := DS2.below hb3 DS2.lt
  have DH3 := DH2.below hb3 DH2.lt
  have hrG := Reads.of_own hown
  clear s0 s1 s2 s3
  go_wp2_with fail
  refine (HFi.out A5 c5 _ hrG).mono ?_
  rintro e w4 ⟨rfl, hb4⟩
  have hb04 := below_step hb03 hb4
  have DS4 := DS3.below hb4 DS3.lt
  have DH4 := DH3.below hb4 DH3.lt
  have hrG4 := (hrG.below hb4).more hb4.size
  obtain ⟨s0, s1, s2, s3⟩ := DS4.four
  clear hown hrG
  go_wp2_with fail
  refine (HJn.out _ ((hR.a.below hb04).more hb04.size)).mono ?_
  rintro e w5 ⟨hb5, A6, c6, rfl, hownJ⟩
  have hb05 := below_step hb04 hb5
  have DH5 := DH4.below hb5 DH4.lt
  have hrG5 := (hrG4.below hb5).more hb5.size
  obtain ⟨ad, g', rfl, had, hg', k0, k1⟩ := hrG5.run hjl
  obtain rfl : g' = g := Option.some.inj (hg'.symm.trans HAt.out)
  have hrJ := Reads.of_own hownJ
  have HT2 := Lib.hid (fun w hr => HTk.out A6 c6 w hr (own_cap hownJ))
  clear s0 s1 s2 s3 hg' hrG4
  go_upto_region 7 with fail
  go_cut [13] from 15 to 56 (fun s13 wc => ∃ (A7 : Option Addr) (c7 : Nat), s13 = .slice A7 n c7 ∧ OwnT wc w.heap.size 45 1 isW (.slice A7 n c7) n (na.map (.int .u64)) ∧ Below w5.heap.size w5 wc)
  case first =>
    have hb := (Below.refl w5.heap.size w5).drew
    have DH := DH5.drew
    obtain ⟨h0, h1, h2, h3⟩ := DH.four
    have k0 : w5.drew.cell? (ad.add (j * 2)) = some (.int .i64 g'.loc) := k0
    go_region_held3 (fun w' => w'.cell? (ad.add (j * 2)) = some (.int .i64 g'.loc) ∧ w'.cell? ⟨w.heap.size + 1, 0, none⟩ = some (.int .i64 r) ∧ w'.cell? ⟨w.heap.size + 1, 1, none⟩ = some (.int .i64 b) ∧ w'.cell? ⟨w.heap.size + 1, 2, none⟩ = some (.int .i64 t) ∧ w'.cell? ⟨w.heap.size + 1, 3, none⟩ = some (.bool false)) (go_keep)
      (first
        | (go_at_call 69; (with_reducible refine (HT2.out _ ((hrJ.below hb).more hb.size)).mono ?_); rintro e wA ⟨hbA, A7, c7, rfl, oA⟩; have DH := DH.below hbA DH.lt; obtain ⟨h0, h1, h2, h3⟩ := DH.four; have k0 := (hbA.cell (p := ad.add (j * 2)) (by rw [block_of_add]; exact had)).trans k0; have hb := hb.trans (hbA.mono hb.size)))
    all_goals
      go_wp2_with fail
      go_meet
      exact ⟨A7, c7, rfl, own_monoT oA hb05.size, hb⟩
  case rest =>
    obtain ⟨A7, c7, rfl, oA, hbc⟩ := hcut
    have hb06 := below_step hb05 hbc
    have k0 := (hbc.cell (p := ad.add (j * 2)) (by rw [block_of_add]; exact had)).trans k0
    go_upto_region 8 with fail
    go_region
    all_goals
      go_wp2_with fail
      go_ret3
      first
        | exact ⟨hb06, A7, c7, rfl, oA⟩
        | exact ⟨hb06.drew, A7, c7, rfl, oA.drew⟩
end Go.Proofs.YtbmkbnalembbjaaGreatDoor

namespace Go.Proofs.YtbmkbnalembbjaaGreatDoor
open Go.RowKit
set_option maxRecDepth 100000 in
set_option maxHeartbeats 4000000 in
theorem copied_any (A : Option Addr) (n c : Nat) (RA : Option Addr) (rn rc : Nat) (PA : Option Addr) (pn pc : Nat) (HA : Option Addr) (hn hc : Nat) (S : St) (w : World)
    (hR : StR w w.heap.size A n RA rn PA pn HA hn S) (h1 : n ≤ 1000000) (h2 : rn ≤ 1000000) (h3 : pn ≤ 1000000) (h4 : hn ≤ 1000000) :
    Calls Tryz.prog 35 #[.agg #[.slice A n c, .slice RA rn rc, .slice PA pn pc, .slice HA hn hc]] w fun e w' => Below w.heap.size w w' ∧ ∃ (A1 : Option Addr) (c1 : Nat) (A2 : Option Addr) (c2 : Nat) (A3 : Option Addr) (c3 : Nat) (A4 : Option Addr) (c4 : Nat),
      e = .returned (.agg #[.slice A1 n c1, .slice A2 rn c2, .slice A3 pn c3, .slice A4 hn c4]) ∧ StO w' w.heap.size A1 n c1 A2 rn c2 A3 pn c3 A4 hn c4 S := by
  have C1 := Lib.hid (fun W r hB => clone_u64W A n c w.heap.size (S.a.map (.int .u64)) W r hB (fun u hu => by obtain ⟨x, _, rfl⟩ := List.mem_map.1 hu; rfl) (isW_words _) (by omega))
  have C2 := Lib.hid (fun W r hB => clone_intN RA rn rc w.heap.size (S.r.map (.int .i64)) W r hB (ints_one _) (isN_nums _) (by omega))
  have C3 := Lib.hid (fun W r hB => clone_pinT PA pn pc w.heap.size (runsC S.p) W r hB (runsC_one _) (isI_runs _) (by omega))
  have C4 := Lib.hid (fun W r hB => clone_slotsT HA hn hc w.heap.size (slotsC S.l) W r hB (slotsC_one _) (isS_slots _) (by omega))
  have hb0 := below_new w (.cells #[.slice A n c, .slice RA rn rc, .slice PA pn pc, .slice HA hn hc] 28)
  have hb := hb0.alloc hb0.size (.cells #[.slice none 0 0, .slice none 0 0, .slice none 0 0, .slice none 0 0] 28)
  have DS := (Blk.new w 28 #[.slice A n c, .slice RA rn rc, .slice PA pn pc, .slice HA hn hc]).alloc (.cells #[.slice none 0 0, .slice none 0 0, .slice none 0 0, .slice none 0 0] 28)
  have DR := Blk.new (w.alloc (.cells #[.slice A n c, .slice RA rn rc, .slice PA pn pc, .slice HA hn hc] 28)) 28 #[.slice none 0 0, .slice none 0 0, .slice none 0 0, .slice none 0 0]
  rw [World.size_alloc] at DR
  clear hb0
  go_enter Tryz.func35, Tryz.ntmps35
  go_upto_region 1 with fail
  have hb := hb.drew
  have DS := DS.drew
  have DR := DR.drew
  obtain ⟨s0, s1, s2, s3⟩ := DS.four
  obtain ⟨r0, r1, r2, r3⟩ := DR.four
  have f0 := DR.frozen 0
  have f1 := DR.frozen 1
  have f2 := DR.frozen 2
  have f3 := DR.frozen 3
  go_region_held3 (fun w' => w'.cell? ⟨w.heap.size, 0, none⟩ = some (.slice A n c) ∧ w'.cell? ⟨w.heap.size, 1, none⟩ = some (.slice RA rn rc) ∧ w'.cell? ⟨w.heap.size, 2, none⟩ = some (.slice PA pn pc) ∧ w'.cell? ⟨w.heap.size, 3, none⟩ = some (.slice HA hn hc)) (go_keep)
    (first
      | (go_at_call 15; (with_reducible refine (C1.out _ (hR.a.below hb) hb.size).mono ?_); rintro e wz ⟨A1, c1, rfl, oz, hbz⟩; have DS := DS.below hbz DS.lt; have DR := DR.below hbz DR.lt; obtain ⟨s0, s1, s2, s3⟩ := DS.four; obtain ⟨r0, r1, r2, r3⟩ := DR.four; have f0 := DR.frozen 0; have f1 := DR.frozen 1; have f2 := DR.frozen 2; have f3 := DR.frozen 3; (try have o1 := own_belowT o1 hbz); (try have o2 := own_belowT o2 hbz); (try have o3 := own_belowT o3 hbz); (try have o4 := own_belowT o4 hbz); have o1 := own_monoT oz hb.size; clear oz; have hb := hb.trans (hbz.mono hb.size))
      | (go_at_call 16; (with_reducible refine (C2.out _ (hR.r.below hb) hb.size).mono ?_); rintro e wz ⟨A2, c2, rfl, oz, hbz⟩; have DS := DS.below hbz DS.lt; have DR := DR.below hbz DR.lt; obtain ⟨s0, s1, s2, s3⟩ := DS.four; obtain ⟨r0, r1, r2, r3⟩ := DR.four; have f0 := DR.frozen 0; have f1 := DR.frozen 1; have f2 := DR.frozen 2; have f3 := DR.frozen 3; (try have o1 := own_belowT o1 hbz); (try have o2 := own_belowT o2 hbz); (try have o3 := own_belowT o3 hbz); (try have o4 := own_belowT o4 hbz); have o2 := own_monoT oz hb.size; clear oz; have hb := hb.trans (hbz.mono hb.size))
      | (go_at_call 17; (with_reducible refine (C3.out _ (hR.p.below hb) hb.size).mono ?_); rintro e wz ⟨A3, c3, rfl, oz, hbz⟩; have DS := DS.below hbz DS.lt; have DR := DR.below hbz DR.lt; obtain ⟨s0, s1, s2, s3⟩ := DS.four; obtain ⟨r0, r1, r2, r3⟩ := DR.four; have f0 := DR.frozen 0; have f1 := DR.frozen 1; have f2 := DR.frozen 2; have f3 := DR.frozen 3; (try have o1 := own_belowT o1 hbz); (try have o2 := own_belowT o2 hbz); (try have o3 := own_belowT o3 hbz); (try have o4 := own_belowT o4 hbz); have o3 := own_monoT oz hb.size; clear oz; have hb := hb.trans (hbz.mono hb.size))
      | (go_at_call 18; (with_reducible refine (C4.out _ (hR.l.below hb) hb.size).mono ?_); rintro e wz ⟨A4, c4, rfl, oz, hbz⟩; have DS := DS.below hbz DS.lt; have DR := DR.below hbz DR.lt; obtain ⟨s0, s1, s2, s3⟩ := DS.four; obtain ⟨r0, r1, r2, r3⟩ := DR.four; have f0 := DR.frozen 0; have f1 := DR.frozen 1; have f2 := DR.frozen 2; have f3 := DR.frozen 3; (try have o1 := own_belowT o1 hbz); (try have o2 := own_belowT o2 hbz); (try have o3 := own_belowT o3 hbz); (try have o4 := own_belowT o4 hbz); have o4 := own_monoT oz hb.size; clear oz; have hb := hb.trans (hbz.mono hb.size)))
  all_goals
    have HO := Lib.hid ((StO.mk o1 o2 o3 o4 : StO _ w.heap.size A1 n c1 A2 rn c2 A3 pn c3 A4 hn c4 S).store DR)
    clear o1 o2 o3 o4 s0 s1 s2 s3
    go_wp2_with fail
    refine bodyPost_ret (v := .agg #[.slice A1 n c1, .slice A2 rn c2, .slice A3 pn c3, .slice A4 hn c4]) ?_ rfl ⟨below_block4 hb (Nat.le_succ _) _ _ _ _, A1, c1, A2, c2, A3, c3, A4, c4, rfl, HO.out _ _ _ _⟩
    have z4 := (((DR.set_ 0 (.slice A1 n c1)).set_ 1 (.slice A2 rn c2)).set_ 2 (.slice A3 pn c3)).set_ 3 (.slice A4 hn c4)
    obtain ⟨z0, z1, z2, z3⟩ := z4.four
    simp only [results, Tryz.results35]
    go_simp
set_option maxRecDepth 100000 in
set_option maxHeartbeats 4000000 in
theorem pown_any (A : Option Addr) (n c : Nat) (RA : Option Addr) (rn rc : Nat) (PA : Option Addr) (pn pc : Nat) (HA : Option Addr) (hn hc : Nat) (S : St) (w : World)
    (hR : StR w w.heap.size A n RA rn PA pn HA hn S) (h1 : n ≤ 1000000) (h2 : rn ≤ 1000000) (h3 : pn ≤ 1000000) (h4 : hn ≤ 1000000) :
    Calls Tryz.prog 28 #[.agg #[.slice A n c, .slice RA rn rc, .slice PA pn pc, .slice HA hn hc]] w fun e w' => Below w.heap.size w w' ∧ ∃ (A1 : Option Addr) (c1 : Nat) (A2 : Option Addr) (c2 : Nat) (A3 : Option Addr) (c3 : Nat) (A4 : Option Addr) (c4 : Nat),
      e = .returned (.agg #[.slice A1 n c1, .slice A2 rn c2, .slice A3 pn c3, .slice A4 hn c4]) ∧ StO w' w.heap.size A1 n c1 A2 rn c2 A3 pn c3 A4 hn c4 S := by
  have C1 := Lib.hid (fun W r hB => clone_u64W A n c w.heap.size (S.a.map (.int .u64)) W r hB (fun u hu => by obtain ⟨x, _, rfl⟩ := List.mem_map.1 hu; rfl) (isW_words _) (by omega))
  have C2 := Lib.hid (fun W r hB => clone_intN RA rn rc w.heap.size (S.r.map (.int .i64)) W r hB (ints_one _) (isN_nums _) (by omega))
  have C3 := Lib.hid (fun W r hB => clone_pinT PA pn pc w.heap.size (runsC S.p) W r hB (runsC_one _) (isI_runs _) (by omega))
  have C4 := Lib.hid (fun W r hB => clone_slotsT HA hn hc w.heap.size (slotsC S.l) W r hB (slotsC_one _) (isS_slots _) (by omega))
  have hb0 := below_new w (.cells #[.slice A n c, .slice RA rn rc, .slice PA pn pc, .slice HA hn hc] 28)
  have hb := hb0.alloc hb0.size (.cells #[.slice none 0 0, .slice none 0 0, .slice none 0 0, .slice none 0 0] 28)
  have DS := (Blk.new w 28 #[.slice A n c, .slice RA rn rc, .slice PA pn pc, .slice HA hn hc]).alloc (.cells #[.slice none 0 0, .slice none 0 0, .slice none 0 0, .slice none 0 0] 28)
  have DR := Blk.new (w.alloc (.cells #[.slice A n c, .slice RA rn rc, .slice PA pn pc, .slice HA hn hc] 28)) 28 #[.slice none 0 0, .slice none 0 0, .slice none 0 0, .slice none 0 0]
  rw [World.size_alloc] at DR
  clear hb0
  go_enter Tryz.func28, Tryz.ntmps28
  go_upto_region 1 with fail
  have hb := hb.drew
  have DS := DS.drew
  have DR := DR.drew
  obtain ⟨s0, s1, s2, s3⟩ := DS.four
  obtain ⟨r0, r1, r2, r3⟩ := DR.four
  have f0 := DR.frozen 0
  have f1 := DR.frozen 1
  have f2 := DR.frozen 2
  have f3 := DR.frozen 3
  go_region_held3 (fun w' => w'.cell? ⟨w.heap.size, 0, none⟩ = some (.slice A n c) ∧ w'.cell? ⟨w.heap.size, 1, none⟩ = some (.slice RA rn rc) ∧ w'.cell? ⟨w.heap.size, 2, none⟩ = some (.slice PA pn pc) ∧ w'.cell? ⟨w.heap.size, 3, none⟩ = some (.slice HA hn hc)) (go_keep)
    (first
      | (go_at_call 15; (with_reducible refine (C1.out _ (hR.a.below hb) hb.size).mono ?_); rintro e wz ⟨A1, c1, rfl, oz, hbz⟩; have DS := DS.below hbz DS.lt; have DR := DR.below hbz DR.lt; obtain ⟨s0, s1, s2, s3⟩ := DS.four; obtain ⟨r0, r1, r2, r3⟩ := DR.four; have f0 := DR.frozen 0; have f1 := DR.frozen 1; have f2 := DR.frozen 2; have f3 := DR.frozen 3; (try have o1 := own_belowT o1 hbz); (try have o2 := own_belowT o2 hbz); (try have o3 := own_belowT o3 hbz); (try have o4 := own_belowT o4 hbz); have o1 := own_monoT oz hb.size; clear oz; have hb := hb.trans (hbz.mono hb.size))
      | (go_at_call 16; (with_reducible refine (C2.out _ (hR.r.below hb) hb.size).mono ?_); rintro e wz ⟨A2, c2, rfl, oz, hbz⟩; have DS := DS.below hbz DS.lt; have DR := DR.below hbz DR.lt; obtain ⟨s0, s1, s2, s3⟩ := DS.four; obtain ⟨r0, r1, r2, r3⟩ := DR.four; have f0 := DR.frozen 0; have f1 := DR.frozen 1; have f2 := DR.frozen 2; have f3 := DR.frozen 3; (try have o1 := own_belowT o1 hbz); (try have o2 := own_belowT o2 hbz); (try have o3 := own_belowT o3 hbz); (try have o4 := own_belowT o4 hbz); have o2 := own_monoT oz hb.size; clear oz; have hb := hb.trans (hbz.mono hb.size))
      | (go_at_call 17; (with_reducible refine (C3.out _ (hR.p.below hb) hb.size).mono ?_); rintro e wz ⟨A3, c3, rfl, oz, hbz⟩; have DS := DS.below hbz DS.lt; have DR := DR.below hbz DR.lt; obtain ⟨s0, s1, s2, s3⟩ := DS.four; obtain ⟨r0, r1, r2, r3⟩ := DR.four; have f0 := DR.frozen 0; have f1 := DR.frozen 1; have f2 := DR.frozen 2; have f3 := DR.frozen 3; (try have o1 := own_belowT o1 hbz); (try have o2 := own_belowT o2 hbz); (try have o3 := own_belowT o3 hbz); (try have o4 := own_belowT o4 hbz); have o3 := own_monoT oz hb.size; clear oz; have hb := hb.trans (hbz.mono hb.size))
      | (go_at_call 18; (with_reducible refine (C4.out _ (hR.l.below hb) hb.size).mono ?_); rintro e wz ⟨A4, c4, rfl, oz, hbz⟩; have DS := DS.below hbz DS.lt; have DR := DR.below hbz DR.lt; obtain ⟨s0, s1, s2, s3⟩ := DS.four; obtain ⟨r0, r1, r2, r3⟩ := DR.four; have f0 := DR.frozen 0; have f1 := DR.frozen 1; have f2 := DR.frozen 2; have f3 := DR.frozen 3; (try have o1 := own_belowT o1 hbz); (try have o2 := own_belowT o2 hbz); (try have o3 := own_belowT o3 hbz); (try have o4 := own_belowT o4 hbz); have o4 := own_monoT oz hb.size; clear oz; have hb := hb.trans (hbz.mono hb.size)))
  all_goals
    have HO := Lib.hid ((StO.mk o1 o2 o3 o4 : StO _ w.heap.size A1 n c1 A2 rn c2 A3 pn c3 A4 hn c4 S).store DR)
    clear o1 o2 o3 o4 s0 s1 s2 s3
    go_wp2_with fail
    refine bodyPost_ret (v := .agg #[.slice A1 n c1, .slice A2 rn c2, .slice A3 pn c3, .slice A4 hn c4]) ?_ rfl ⟨below_block4 hb (Nat.le_succ _) _ _ _ _, A1, c1, A2, c2, A3, c3, A4, c4, rfl, HO.out _ _ _ _⟩
    have z4 := (((DR.set_ 0 (.slice A1 n c1)).set_ 1 (.slice A2 rn c2)).set_ 2 (.slice A3 pn c3)).set_ 3 (.slice A4 hn c4)
    obtain ⟨z0, z1, z2, z3⟩ := z4.four
    simp only [results, Tryz.results28]
    go_simp
end Go.Proofs.YtbmkbnalembbjaaGreatDoor

namespace Go.Proofs.YtbmkbnalembbjaaGreatDoor
open Go.RowKit
def MadeOk (_ : St) (T : St) (k : Nat) (r b t : Int) (n rn pn hn : Nat) (swept : Bool) (base : Nat) (e : Ending) (w' : World) : Prop :=
  ∃ (j : Nat) (g : Rn), FirstGap T.a (1 + r + b) j g ∧ ∃ (A1 : Option Addr) (c1 : Nat) (A2 : Option Addr) (c2 : Nat) (A3 : Option Addr) (c3 : Nat) (A4 : Option Addr) (c4 : Nat), e = .returned (.tuple #[.agg #[.slice A1 n c1, .slice A2 rn c2, .slice A3 pn c3, .slice A4 hn c4], .bool swept, .int .i64 0]) ∧ StO w' base A1 n c1 A2 rn c2 A3 pn c3 A4 hn c4 ⟨takenA T.a g r b t, T.r.set k g.loc, T.p, T.l⟩
set_option maxRecDepth 100000 in
set_option maxHeartbeats 8000000 in
theorem makeFn_ok (A : Option Addr) (n c : Nat) (RA : Option Addr) (rn rc : Nat) (PA : Option Addr) (pn pc : Nat) (HA : Option Addr) (hn hc : Nat) (S : St) (k : Nat) (r b t : Int) (w : World) (hR : StR w w.heap.size A n RA rn PA pn HA hn S) (hK : StK n c rn pn hn S) (hOK : StOk S) (hk : k < S.r.length) (hE : headE r b t false = 0) :
    Calls Tryz.prog 19 #[.agg #[.slice A n c, .slice RA rn rc, .slice PA pn pc, .slice HA hn hc], .int .i64 k, .agg #[.int .i64 r, .int .i64 b, .int .i64 t, .bool false]] w fun e w' => Below w.heap.size w w' ∧
      (MadeOk S S k r b t n rn pn hn false w.heap.size e w' ∨
       (fitsE (ggL S.a) (1 + r + b) ≠ 0 ∧ ∃ (S' : St) (fr : Int) (L Y now : List Int), Coll S S' fr L Y now ∧ (MadeOk S S' k r b t n rn pn hn true w.heap.size e w' ∨ (fitsE (ggL S'.a) (1 + r + b) ≠ 0 ∧ e = .returned (.tuple #[.agg #[.slice none 0 0, .slice none 0 0, .slice none 0 0, .slice none 0 0], .bool false, .int .i64 7]))))) := by
  obtain ⟨z1, z2, z3, z4⟩ := hR.lens
  have v1 := (parse_ok (checkE_ok.1 hOK.arena).1).1
  have v2 := (rootE_ok hOK.roots).2.2.1
  have v3 := hOK.pins.len
  have v4 := (handE_ok.1 hOK.hands).1
  have HCk := Lib.hid (fun w hR => stcheck_any A n c RA rn rc PA pn pc HA hn hc S w hR hK)
  rw [stE_ok.2 hOK] at HCk
  have HHc := Lib.hid (fun w => hcheck_any r b t false w)
  rw [hE] at HHc
  have HCp := Lib.hid (fun w hR => copied_any A n c RA rn rc PA pn pc HA hn hc S w hR (by omega) (by omega) (by omega) (by omega))
  have hkn : k < rn := by omega
  have g1 : decide ((k : Int) < 0) = false := decide_eq_false (by omega)
  have g2 : decide (rn ≤ k) = false := decide_eq_false (by omega)
  have hb0 := below_new w (.cells #[.slice A n c, .slice RA rn rc, .slice PA pn pc, .slice HA hn hc] 28)
  have hb00 := hb0.alloc hb0.size (.cells #[.int .i64 r, .int .i64 b, .int .i64 t, .bool false] 50)
  have hb1 := hb00.alloc hb00.size (.cells #[.slice none 0 0, .slice none 0 0, .slice none 0 0, .slice none 0 0] 28)
  have DS := ((Blk.new w 28 #[.slice A n c, .slice RA rn rc, .slice PA pn pc, .slice HA hn hc]).alloc (.cells #[.int .i64 r, .int .i64 b, .int .i64 t, .bool false] 50)).alloc (.cells #[.slice none 0 0, .slice none 0 0, .slice none 0 0, .slice none 0 0] 28)
  have DH := (Blk.new (w.alloc (.cells #[.slice A n c, .slice RA rn rc, .slice PA pn pc, .slice HA hn hc] 28)) 50 #[.int .i64 r, .int .i64 b, .int .i64 t, .bool false]).alloc (.cells #[.slice none 0 0, .slice none 0 0, .slice none 0 0, .slice none 0 0] 28)
  have DR := Blk.new ((w.alloc (.cells #[.slice A n c, .slice RA rn rc, .slice PA pn pc, .slice HA hn hc] 28)).alloc (.cells #[.int .i64 r, .int .i64 b, .int .i64 t, .bool false] 50)) 28 #[.slice none 0 0, .slice none 0 0, .slice none 0 0, .slice none 0 0]
  simp only [World.size_alloc] at DH DR
  obtain ⟨s0, s1, s2, s3⟩ := DS.four
  clear hb0 hb00 z1 z2 z3 z4 v1 v2 v3 v4 hk
  go_enter Tryz.func19, Tryz.ntmps19
  go_wp2_with fail
  refine (HCk.out _ ((hR.below hb1).more hb1.size)).mono ?_
  rintro e w2 ⟨rfl, hb2⟩
  have hb02 := below_step hb1 hb2
  have DS2 := DS.below hb2 DS.lt
  have DH2 := DH.below hb2 DH.lt
  have DR2 := DR.below hb2 DR.lt
  clear s0 s1 s2 s3 hb1 hb2 DS DH DR
  obtain ⟨s0, s1, s2, s3⟩ := DS2.four
  obtain ⟨m0, m1, m2, m3⟩ := DH2.four
  go_wp2_with fail
  refine (HHc.out _).mono ?_
  rintro e w3 ⟨rfl, hb3⟩
  have hb03 := below_step hb02 hb3
  have DS3 := DS2.below hb3 DS2.lt
  have DH3 := DH2.below hb3 DH2.lt
  have DR3 := DR2.below hb3 DR2.lt
  clear s0 s1 s2 s3 m0 m1 m2 m3 hb02 hb3 DS2 DH2 DR2
  obtain ⟨s0, s1, s2, s3⟩ := DS3.four
  obtain ⟨m0, m1, m2, m3⟩ := DH3.four
  go_wp2_with fail
  refine (HCp.out _ ((hR.below hb03).more hb03.size)).mono ?_
  rintro e w4 ⟨hb4, A1, c1, A2, c2, A3, c3, A4, c4, rfl, hO⟩
  have hb04 := below_step hb03 hb4
  have hlt3 : w.heap.size + 2 < w3.heap.size := DR3.lt
  have DS4 := DS3.below hb4 DS3.lt
  have DH4 := DH3.below hb4 DH3.lt
  have DR4 := DR3.below hb4 DR3.lt
  have hlt : w.heap.size + 2 < w4.heap.size := DR4.lt
  clear s0 s1 s2 s3 m0 m1 m2 m3 hb4 DS3 DH3 DR3
  obtain ⟨s0, s1, s2, s3⟩ := DS4.four
  obtain ⟨f0, f1, f2, f3⟩ := DS4.four_frozen
  have hO5 := hO.store DS4 (.slice A1 n c1) (.slice A2 rn c2) (.slice A3 pn c3) (.slice A4 hn c4)
  have DS5 := DS4.store4 (.slice A1 n c1) (.slice A2 rn c2) (.slice A3 pn c3) (.slice A4 hn c4)
  have DH5 := DH4.far4 (g' := w.heap.size) (by omega) (.slice A1 n c1) (.slice A2 rn c2) (.slice A3 pn c3) (.slice A4 hn c4)
  have DR5 := DR4.far4 (g' := w.heap.size) (by omega) (.slice A1 n c1) (.slice A2 rn c2) (.slice A3 pn c3) (.slice A4 hn c4)
  have hb05 := below_block4 (g := w.heap.size) hb04 (Nat.le_refl _) (.slice A1 n c1) (.slice A2 rn c2) (.slice A3 pn c3) (.slice A4 hn c4)
  obtain ⟨d0, d1, d2, d3⟩ := DS5.four
  obtain ⟨m0, m1, m2, m3⟩ := DH5.four
  have hR5 := hO5.reads
  have hK5 := hO5.known hK.wf
  clear hO DS4 DH4 DR4 hb04
  by_cases hF : fitsE (ggL S.a) (1 + r + b) = 0
  · obtain ⟨j, g, hG⟩ := first_gap hF
    have HTk := Lib.hid (takeFn_yes A1 n c1 A2 rn c2 A3 pn c3 A4 hn c4 S r b t j g _ hR5 hK5 hOK.arena hE hG)
    go_wp2_with fail
    refine HTk.out.mono ?_
    rintro e w6 ⟨hb6, X, d, rfl, oN⟩
    have hb06 := below_step hb05 hb6
    have DS8 := DS5.below hb6 DS5.lt
    have DR8 := DR5.below hb6 DR5.lt
    have hO8 := (hO5.below hb6)
    have oN8 := own_monoT oN hb05.size
    have hO9 := hO8.mono (show w.heap.size ≤ w3.heap.size by omega)
    clear s0 s1 s2 s3 f0 f1 f2 f3 d0 d1 d2 d3 m0 m1 m2 m3 oN HTk HCk HHc HCp
    obtain ⟨qq, hqq, qh, cur, qB⟩ := own_some hO8.r.1 (by omega)
    subst hqq
    have qe : k < ((S).r.map (Value.int .i64)).length := by have := (hO9).reads.lens.2.1; rw [List.length_map]; omega
    have qcc := (hO9).r.1.cellAt k (by omega)
    rw [List.getElem?_eq_getElem qe] at qcc
    have qf := (hO9).r.1.frozenAt k
    have hqne : qq ≠ w.heap.size := by omega
    have DS6 := DS8.set_ 0 (.slice X n d)
    have DR6 := DR8.far (p := ⟨w.heap.size, 0, none⟩) (by dsimp only; omega) (.slice X n d)
    have hb6 := hb06.setCell (p := ⟨w.heap.size, 0, none⟩) (Nat.le_refl _) (.slice X n d)
    have qB6 := qB.far (p := ⟨w.heap.size, 0, none⟩) hqne (.slice X n d)
    have hO6 : StO _ w.heap.size X n d (some ⟨qq, 0, none⟩) rn c2 A3 pn c3 A4 hn c4 ⟨takenA (S).a g r b t, (S).r, (S).p, (S).l⟩ :=
      ⟨own_apartT oN8 (p := ⟨w.heap.size, 0, none⟩) (own_blkT oN8 DS8 (by decide)) (.slice X n d), own_apartT (hO9).r (p := ⟨w.heap.size, 0, none⟩) (own_blkT (hO9).r DS8 (by decide)) (.slice X n d), own_apartT (hO9).p (p := ⟨w.heap.size, 0, none⟩) (own_blkT (hO9).p DS8 (by decide)) (.slice X n d), own_apartT (hO9).l (p := ⟨w.heap.size, 0, none⟩) (own_blkT (hO9).l DS8 (by decide)) (.slice X n d)⟩
    have hO7 := hO6.setR (p := k) (v := g.loc) qB6
    have DS7 := DS6.far (p := ⟨qq, k, none⟩) (by dsimp only; omega) (.int .i64 g.loc)
    have DR7 := DR6.far (p := ⟨qq, k, none⟩) (by dsimp only; omega) (.int .i64 g.loc)
    have hb7 := hb6.setCell (p := ⟨qq, k, none⟩) (by dsimp only; omega) (.int .i64 g.loc)
    have qcc6 : World.cell? _ (⟨qq, k, none⟩ : Addr) = _ := (World.cell?_setCell_far _ ⟨w.heap.size, 0, none⟩ ⟨qq, k, none⟩ (.slice X n d) (by dsimp only; omega)).trans qcc
    obtain ⟨s0, s1, s2, s3⟩ := DS8.four
    obtain ⟨f0, f1, f2, f3⟩ := DS8.four_frozen
    obtain ⟨o0, o1, o2, o3⟩ := DS7.four
    obtain ⟨r0, r1, r2, r3⟩ := DR7.four
    obtain ⟨h0, h1, h2, h3⟩ := DR7.four_frozen
    go_wp2_with fail
    refine bodyPost_ret (v := .tuple #[.agg #[.slice X n d, .slice (some ⟨qq, 0, none⟩) rn c2, .slice A3 pn c3, .slice A4 hn c4], .bool false, .int .i64 0]) ?_ rfl ⟨below_block4 hb7 (by omega) _ _ _ _, .inl ⟨j, g, hG, _, d, _, c2, A3, c3, A4, c4, rfl, hO7.store DR7 _ _ _ _⟩⟩
    obtain ⟨z0, z1, z2, z3⟩ := (DR7.store4 (.slice X n d) (.slice (some ⟨qq, 0, none⟩) rn c2) (.slice A3 pn c3) (.slice A4 hn c4)).four
    simp only [results, Tryz.results19]
    go_simp
  · have HTn := Lib.hid (takeFn_no A1 n c1 A2 rn c2 A3 pn c3 A4 hn c4 S r b t _ hR5 hK5 hE hF)
    go_wp2_with fail
    refine HTn.out.mono ?_
    rintro e w6 ⟨hb6, rfl⟩
    have hb06 := below_step hb05 hb6
    have DS6 := DS5.below hb6 DS5.lt
    have DH6 := DH5.below hb6 DH5.lt
    have DR6 := DR5.below hb6 DR5.lt
    have hO6 := hO5.below hb6
    have HCo := Lib.hid (coll_any A1 n c1 A2 rn c2 A3 pn c3 A4 hn c4 S w6 hO6.reads hK5 hOK)
    clear s0 s1 s2 s3 f0 f1 f2 f3 d0 d1 d2 d3 m0 m1 m2 m3 HTn HCk HHc HCp DS5 DH5 DR5 hO5 hO6 hR5 hb05 hb6 hK5
    obtain ⟨s0, s1, s2, s3⟩ := DS6.four
    go_wp2_with fail
    refine HCo.out.mono ?_
    rintro e w7 ⟨hb7, S', fr, L, Y, now, B1, e1, B2, e2, B3, e3, B4, e4, hC, rfl, hO7⟩
    have hb07 := below_step hb06 hb7
    have hlt6 : w.heap.size + 2 < w6.heap.size := DR6.lt
    have DS7 := DS6.below hb7 DS6.lt
    have DH7 := DH6.below hb7 DH6.lt
    have DR7 := DR6.below hb7 DR6.lt
    clear s0 s1 s2 s3 DS6 DH6 DR6 HCo hb7
    obtain ⟨s0, s1, s2, s3⟩ := DS7.four
    obtain ⟨f0, f1, f2, f3⟩ := DS7.four_frozen
    have hO8 := hO7.store DS7 (.slice B1 n e1) (.slice B2 rn e2) (.slice B3 pn e3) (.slice B4 hn e4)
    have DS8 := DS7.store4 (.slice B1 n e1) (.slice B2 rn e2) (.slice B3 pn e3) (.slice B4 hn e4)
    have DH8 := DH7.far4 (g' := w.heap.size) (by omega) (.slice B1 n e1) (.slice B2 rn e2) (.slice B3 pn e3) (.slice B4 hn e4)
    have DR8 := DR7.far4 (g' := w.heap.size) (by omega) (.slice B1 n e1) (.slice B2 rn e2) (.slice B3 pn e3) (.slice B4 hn e4)
    have hb08 := below_block4 (g := w.heap.size) hb07 (Nat.le_refl _) (.slice B1 n e1) (.slice B2 rn e2) (.slice B3 pn e3) (.slice B4 hn e4)
    obtain ⟨d0, d1, d2, d3⟩ := DS8.four
    obtain ⟨m0, m1, m2, m3⟩ := DH8.four
    have hR8 := hO8.reads
    have hK8 := hO8.known (hC.wf hK.wf)
    have hOK8 := hC.ok hOK
    have HC := Lib.hid hC
    clear hO7 DS7 DH7 DR7 hb07 hC
    by_cases hF2 : fitsE (ggL S'.a) (1 + r + b) = 0
    · obtain ⟨j, g, hG⟩ := first_gap hF2
      have HTk := Lib.hid (takeFn_yes B1 n e1 B2 rn e2 B3 pn e3 B4 hn e4 S' r b t j g _ hR8 hK8 hOK8.arena hE hG)
      go_wp2_with fail
      refine HTk.out.mono ?_
      rintro e w9 ⟨hb9, X, d, rfl, oN⟩
      have hb09 := below_step hb08 hb9
      have DS9 := DS8.below hb9 DS8.lt
      have DR9 := DR8.below hb9 DR8.lt
      have hOa := (hO8.below hb9)
      have oN8 := own_monoT oN hb08.size
      have hOb := hOa.mono (show w.heap.size ≤ w6.heap.size by omega)
      clear s0 s1 s2 s3 f0 f1 f2 f3 d0 d1 d2 d3 m0 m1 m2 m3 oN HTk
      obtain ⟨qq, hqq, qh, cur, qB⟩ := own_some hOa.r.1 (by omega)
      subst hqq
      have qe : k < ((S').r.map (Value.int .i64)).length := by have := (hOb).reads.lens.2.1; rw [List.length_map]; omega
      have qcc := (hOb).r.1.cellAt k (by omega)
      rw [List.getElem?_eq_getElem qe] at qcc
      have qf := (hOb).r.1.frozenAt k
      have hqne : qq ≠ w.heap.size := by omega
      have DS6 := DS9.set_ 0 (.slice X n d)
      have DR6 := DR9.far (p := ⟨w.heap.size, 0, none⟩) (by dsimp only; omega) (.slice X n d)
      have hb6 := hb09.setCell (p := ⟨w.heap.size, 0, none⟩) (Nat.le_refl _) (.slice X n d)
      have qB6 := qB.far (p := ⟨w.heap.size, 0, none⟩) hqne (.slice X n d)
      have hO6 : StO _ w.heap.size X n d (some ⟨qq, 0, none⟩) rn e2 B3 pn e3 B4 hn e4 ⟨takenA (S').a g r b t, (S').r, (S').p, (S').l⟩ :=
        ⟨own_apartT oN8 (p := ⟨w.heap.size, 0, none⟩) (own_blkT oN8 DS9 (by decide)) (.slice X n d), own_apartT (hOb).r (p := ⟨w.heap.size, 0, none⟩) (own_blkT (hOb).r DS9 (by decide)) (.slice X n d), own_apartT (hOb).p (p := ⟨w.heap.size, 0, none⟩) (own_blkT (hOb).p DS9 (by decide)) (.slice X n d), own_apartT (hOb).l (p := ⟨w.heap.size, 0, none⟩) (own_blkT (hOb).l DS9 (by decide)) (.slice X n d)⟩
      have hO7 := hO6.setR (p := k) (v := g.loc) qB6
      have DS7 := DS6.far (p := ⟨qq, k, none⟩) (by dsimp only; omega) (.int .i64 g.loc)
      have DR7 := DR6.far (p := ⟨qq, k, none⟩) (by dsimp only; omega) (.int .i64 g.loc)
      have hb7 := hb6.setCell (p := ⟨qq, k, none⟩) (by dsimp only; omega) (.int .i64 g.loc)
      have qcc6 : World.cell? _ (⟨qq, k, none⟩ : Addr) = _ := (World.cell?_setCell_far _ ⟨w.heap.size, 0, none⟩ ⟨qq, k, none⟩ (.slice X n d) (by dsimp only; omega)).trans qcc
      obtain ⟨s0, s1, s2, s3⟩ := DS9.four
      obtain ⟨f0, f1, f2, f3⟩ := DS9.four_frozen
      obtain ⟨o0, o1, o2, o3⟩ := DS7.four
      obtain ⟨r0, r1, r2, r3⟩ := DR7.four
      obtain ⟨h0, h1, h2, h3⟩ := DR7.four_frozen
      go_wp2_with fail
      refine bodyPost_ret (v := .tuple #[.agg #[.slice X n d, .slice (some ⟨qq, 0, none⟩) rn e2, .slice B3 pn e3, .slice B4 hn e4], .bool true, .int .i64 0]) ?_ rfl ⟨below_block4 hb7 (by omega) _ _ _ _, .inr ⟨hF, S', fr, L, Y, now, HC.out, .inl ⟨j, g, hG, _, d, _, e2, B3, e3, B4, e4, rfl, hO7.store DR7 _ _ _ _⟩⟩⟩
      obtain ⟨z0, z1, z2, z3⟩ := (DR7.store4 (.slice X n d) (.slice (some ⟨qq, 0, none⟩) rn e2) (.slice B3 pn e3) (.slice B4 hn e4)).four
      simp only [results, Tryz.results19]
      go_simp
    · have HTn := Lib.hid (takeFn_no B1 n e1 B2 rn e2 B3 pn e3 B4 hn e4 S' r b t _ hR8 hK8 hE hF2)
      go_wp2_with fail
      refine HTn.out.mono ?_
      rintro e w9 ⟨hb9, rfl⟩
      have hb09 := below_step hb08 hb9
      have DR9 := DR8.below hb9 DR8.lt
      clear s0 s1 s2 s3 f0 f1 f2 f3 d0 d1 d2 d3 m0 m1 m2 m3 HTn
      obtain ⟨r0, r1, r2, r3⟩ := DR9.four
      obtain ⟨f0, f1, f2, f3⟩ := DR9.four_frozen
      go_wp2_with fail
      refine bodyPost_ret (v := .tuple #[.agg #[.slice none 0 0, .slice none 0 0, .slice none 0 0, .slice none 0 0], .bool false, .int .i64 7]) ?_ rfl ⟨below_block4 hb09 (by omega) _ _ _ _, .inr ⟨hF, S', fr, L, Y, now, HC.out, .inr ⟨hF2, rfl⟩⟩⟩
      obtain ⟨z0, z1, z2, z3⟩ := (DR9.store4 (.slice none 0 0) (.slice none 0 0) (.slice none 0 0) (.slice none 0 0)).four
      simp only [results, Tryz.results19]
      go_simp
end Go.Proofs.YtbmkbnalembbjaaGreatDoor

namespace Go.Proofs.YtbmkbnalembbjaaGreatDoor
open Go.RowKit
def makeE (S : St) (slot r b t : Int) (f : Bool) : Int := if stE S ≠ 0 then stE S else if slot < 0 ∨ (S.r.length : Int) ≤ slot then 5 else if headE r b t f ≠ 0 then headE r b t f else if f = true then 3 else 0
set_option maxRecDepth 100000 in
set_option maxHeartbeats 4000000 in
theorem makeFn_bad (A : Option Addr) (n c : Nat) (RA : Option Addr) (rn rc : Nat) (PA : Option Addr) (pn pc : Nat) (HA : Option Addr) (hn hc : Nat) (S : St) (slot r b t : Int) (f : Bool) (w : World) (hR : StR w w.heap.size A n RA rn PA pn HA hn S) (hK : StK n c rn pn hn S) (hE : makeE S slot r b t f ≠ 0) :
    Calls Tryz.prog 19 #[.agg #[.slice A n c, .slice RA rn rc, .slice PA pn pc, .slice HA hn hc], .int .i64 slot, .agg #[.int .i64 r, .int .i64 b, .int .i64 t, .bool f]] w fun e w' => Below w.heap.size w w' ∧ e = .returned (.tuple #[.agg #[.slice none 0 0, .slice none 0 0, .slice none 0 0, .slice none 0 0], .bool false, .int .i64 (makeE S slot r b t f)]) := by
  have HB := Lib.hid (fun w hR => stcheck_any A n c RA rn rc PA pn pc HA hn hc S w hR hK)
  have HHc := Lib.hid (fun w => hcheck_any r b t f w)
  obtain ⟨-, hl, -, -⟩ := hR.lens
  have HX : Hid (makeE S slot r b t f = if stE S ≠ 0 then stE S else if slot < 0 ∨ (rn : Int) ≤ slot then 5 else if headE r b t f ≠ 0 then headE r b t f else if f = true then 3 else 0) := by
    show _ = _
    rw [← hl]
    rfl
  have HE := Lib.hid hE
  generalize makeE S slot r b t f = F at *
  generalize stE S = E at *
  generalize headE r b t f = H at *
  have hb0 := below_new w (.cells #[.slice A n c, .slice RA rn rc, .slice PA pn pc, .slice HA hn hc] 28)
  have hb00 := hb0.alloc hb0.size (.cells #[.int .i64 r, .int .i64 b, .int .i64 t, .bool f] 50)
  have hb1 := hb00.alloc hb00.size (.cells #[.slice none 0 0, .slice none 0 0, .slice none 0 0, .slice none 0 0] 28)
  have DS := ((Blk.new w 28 #[.slice A n c, .slice RA rn rc, .slice PA pn pc, .slice HA hn hc]).alloc (.cells #[.int .i64 r, .int .i64 b, .int .i64 t, .bool f] 50)).alloc (.cells #[.slice none 0 0, .slice none 0 0, .slice none 0 0, .slice none 0 0] 28)
  have DH := (Blk.new (w.alloc (.cells #[.slice A n c, .slice RA rn rc, .slice PA pn pc, .slice HA hn hc] 28)) 50 #[.int .i64 r, .int .i64 b, .int .i64 t, .bool f]).alloc (.cells #[.slice none 0 0, .slice none 0 0, .slice none 0 0, .slice none 0 0] 28)
  have DR := Blk.new ((w.alloc (.cells #[.slice A n c, .slice RA rn rc, .slice PA pn pc, .slice HA hn hc] 28)).alloc (.cells #[.int .i64 r, .int .i64 b, .int .i64 t, .bool f] 50)) 28 #[.slice none 0 0, .slice none 0 0, .slice none 0 0, .slice none 0 0]
  simp only [World.size_alloc] at DR DH
  obtain ⟨s0, s1, s2, s3⟩ := DS.four
  clear hl hE hb0 hb00
  go_enter Tryz.func19, Tryz.ntmps19
  go_wp2_with fail
  refine (HB.out _ ((hR.below hb1).more hb1.size)).mono ?_
  rintro e w2 ⟨rfl, hb2⟩
  have hb02 := below_step hb1 hb2
  have DS2 := DS.below hb2 DS.lt
  have DH2 := DH.below hb2 DH.lt
  have DR2 := DR.below hb2 DR.lt
  clear s0 s1 s2 s3 DS DH DR hb1 hb2
  obtain ⟨s0, s1, s2, s3⟩ := DS2.four
  by_cases h0 : E = 0
  · subst h0
    by_cases h1 : slot < 0
    · have g1 : decide (slot < 0) = true := decide_eq_true h1
      have HF : Hid (5 = F) := by show _ = _; rw [HX.out, if_neg (by decide), if_pos (.inl h1)]
      have hF := HF.out
      subst hF
      clear h1
      obtain ⟨r0, r1, r2, r3⟩ := DR2.four
      obtain ⟨f0, f1, f2, f3⟩ := DR2.four_frozen
      go_wp2_with fail
      refine bodyPost_ret (v := .tuple #[.agg #[.slice none 0 0, .slice none 0 0, .slice none 0 0, .slice none 0 0], .bool false, .int .i64 5]) ?_ rfl ⟨below_block4 hb02 (by omega) _ _ _ _, rfl⟩
      obtain ⟨z0, z1, z2, z3⟩ := (DR2.store4 (.slice none 0 0) (.slice none 0 0) (.slice none 0 0) (.slice none 0 0)).four
      simp only [results, Tryz.results19]
      go_simp
    · obtain ⟨k, rfl⟩ := Int.eq_ofNat_of_zero_le (show 0 ≤ slot by omega)
      have g1 : decide ((k : Int) < 0) = false := decide_eq_false h1
      by_cases h2 : rn ≤ k
      · have g2 : decide (rn ≤ k) = true := decide_eq_true h2
        have HF : Hid (5 = F) := by show _ = _; rw [HX.out, if_neg (by decide), if_pos (.inr (by omega))]
        have hF := HF.out
        subst hF
        clear h1 h2
        obtain ⟨r0, r1, r2, r3⟩ := DR2.four
        obtain ⟨f0, f1, f2, f3⟩ := DR2.four_frozen
        go_wp2_with fail
        refine bodyPost_ret (v := .tuple #[.agg #[.slice none 0 0, .slice none 0 0, .slice none 0 0, .slice none 0 0], .bool false, .int .i64 5]) ?_ rfl ⟨below_block4 hb02 (by omega) _ _ _ _, rfl⟩
        obtain ⟨z0, z1, z2, z3⟩ := (DR2.store4 (.slice none 0 0) (.slice none 0 0) (.slice none 0 0) (.slice none 0 0)).four
        simp only [results, Tryz.results19]
        go_simp
      · have g2 : decide (rn ≤ k) = false := decide_eq_false h2
        by_cases h3 : H = 0
        · subst h3
          cases f
          · have h4 := HX.out
            rw [if_neg (by decide), if_neg (by omega), if_neg (by decide), if_neg (by decide)] at h4
            exact absurd h4 HE.out
          · have HF : Hid (3 = F) := by show _ = _; rw [HX.out, if_neg (by decide), if_neg (by omega), if_neg (by decide), if_pos rfl]
            have hF := HF.out
            subst hF
            clear h1 h2
            clear s0 s1 s2 s3
            obtain ⟨s0, s1, s2, s3⟩ := DS2.four
            obtain ⟨m0, m1, m2, m3⟩ := DH2.four
            go_wp2_with fail
            refine (HHc.out _).mono ?_
            rintro e w3 ⟨rfl, hb3⟩
            have hb03 := below_step hb02 hb3
            have DR3 := DR2.below hb3 DR2.lt
            have DH3 := DH2.below hb3 DH2.lt
            clear s0 s1 s2 s3 m0 m1 m2 m3
            obtain ⟨m0, m1, m2, m3⟩ := DH3.four
            obtain ⟨r0, r1, r2, r3⟩ := DR3.four
            obtain ⟨f0, f1, f2, f3⟩ := DR3.four_frozen
            go_wp2_with fail
            refine bodyPost_ret (v := .tuple #[.agg #[.slice none 0 0, .slice none 0 0, .slice none 0 0, .slice none 0 0], .bool false, .int .i64 3]) ?_ rfl ⟨below_block4 hb03 (by omega) _ _ _ _, rfl⟩
            obtain ⟨z0, z1, z2, z3⟩ := (DR3.store4 (.slice none 0 0) (.slice none 0 0) (.slice none 0 0) (.slice none 0 0)).four
            simp only [results, Tryz.results19]
            go_simp
        · have g3 : (H != 0) = true := by simpa using h3
          have HF : Hid (H = F) := by show _ = _; rw [HX.out, if_neg (by decide), if_neg (by omega), if_pos h3]
          have hF := HF.out
          subst hF
          clear h1 h2 h3
          clear s0 s1 s2 s3
          obtain ⟨s0, s1, s2, s3⟩ := DS2.four
          obtain ⟨m0, m1, m2, m3⟩ := DH2.four
          go_wp2_with fail
          refine (HHc.out _).mono ?_
          rintro e w3 ⟨rfl, hb3⟩
          have hb03 := below_step hb02 hb3
          have DR3 := DR2.below hb3 DR2.lt
          have DH3 := DH2.below hb3 DH2.lt
          clear s0 s1 s2 s3 m0 m1 m2 m3
          obtain ⟨m0, m1, m2, m3⟩ := DH3.four
          obtain ⟨r0, r1, r2, r3⟩ := DR3.four
          obtain ⟨f0, f1, f2, f3⟩ := DR3.four_frozen
          go_wp2_with fail
          refine bodyPost_ret (v := .tuple #[.agg #[.slice none 0 0, .slice none 0 0, .slice none 0 0, .slice none 0 0], .bool false, .int .i64 H]) ?_ rfl ⟨below_block4 hb03 (by omega) _ _ _ _, rfl⟩
          obtain ⟨z0, z1, z2, z3⟩ := (DR3.store4 (.slice none 0 0) (.slice none 0 0) (.slice none 0 0) (.slice none 0 0)).four
          simp only [results, Tryz.results19]
          go_simp
  · have g1 : (E != 0) = true := by simpa using h0
    have HF : Hid (E = F) := by show _ = _; rw [HX.out, if_pos h0]
    have hF := HF.out
    subst hF
    clear h0 s0 s1 s2 s3
    obtain ⟨r0, r1, r2, r3⟩ := DR2.four
    obtain ⟨f0, f1, f2, f3⟩ := DR2.four_frozen
    go_wp2_with fail
    refine bodyPost_ret (v := .tuple #[.agg #[.slice none 0 0, .slice none 0 0, .slice none 0 0, .slice none 0 0], .bool false, .int .i64 E]) ?_ rfl ⟨below_block4 hb02 (by omega) _ _ _ _, rfl⟩
    obtain ⟨z0, z1, z2, z3⟩ := (DR2.store4 (.slice none 0 0) (.slice none 0 0) (.slice none 0 0) (.slice none 0 0)).four
    simp only [results, Tryz.results19]
    go_simp
end Go.Proofs.YtbmkbnalembbjaaGreatDoor

namespace Go.Proofs.YtbmkbnalembbjaaGreatDoor
open Go.RowKit
theorem take_chunks {P : List Chk} {c : Chk} {Q : List Chk} {r b t : Int} (hE : headE r b t false = 0) (hk : 1 + r + b ≤ c.len) :
    takeL (chunksW (P ++ c :: Q)) (chunksW P).length c.len (1 + r + b).toNat (wordOf r b t false) = chunksW (P ++ newC r b t :: (flushC (c.len - (1 + r + b).toNat) ++ Q)) := by
  obtain ⟨h1, h2, h3, h4, h5, h6, h7, -⟩ := headE_ok.1 hE
  obtain ⟨k, hkk⟩ : ∃ k, k = (1 + r + b).toNat := ⟨_, rfl⟩
  rw [← hkk]
  have hk0 : k ≠ 0 := by omega
  have hkm : k ≤ c.len := by omega
  have hnl : (newC r b t).len = k := by have := newC_len hE; omega
  have hpl : (r + b).toNat = k - 1 := by omega
  unfold takeL fillL
  have e1 : (chunksW (P ++ c :: Q)).take (chunksW P).length = chunksW P := by rw [chunksW_append]; simp
  have e2 : (chunksW (P ++ c :: Q)).drop ((chunksW P).length + c.len) = chunksW Q := by
    rw [chunksW_append, chunksW_cons, ← List.append_assoc, show (chunksW P).length + c.len = (chunksW P ++ chkW c).length by rw [List.length_append, chkW_length], List.drop_left]
  rw [e1, e2, List.append_assoc, List.set_append_right _ _ (Nat.le_refl _), Nat.sub_self]
  obtain ⟨m, hm⟩ : ∃ m, c.len = m + 1 := ⟨c.len - 1, by omega⟩
  have e3 : (List.replicate c.len (0 : Int) ++ chunksW Q).set 0 (wordOf r b t false) = chkW (newC r b t) ++ (List.replicate (c.len - k) 0 ++ chunksW Q) := by
    rw [hm, List.replicate_succ, List.cons_append, List.set_cons_zero]
    unfold chkW newC
    dsimp only
    rw [hpl, List.cons_append, ← List.append_assoc, List.replicate_append_replicate]
    congr 3
    omega
  rw [e3, ← List.append_assoc, ← List.append_assoc]
  have := layL_mid (chunksW P ++ chkW (newC r b t)) (List.replicate (c.len - k) 0) (chunksW Q)
  rw [List.length_append, chkW_length, hnl, List.length_replicate] at this
  rw [this, chunksW_append, chunksW_cons, chunksW_append]
  simp
theorem take_keeps {a : List Int} (h : checkE a = 0) {j : Nat} {s : Spot} (hs : (spotsL a)[j]? = some s) (hf : s.f = true) {r b t : Int} (hE : headE r b t false = 0) (hk : 1 + r + b ≤ s.long) :
    KeepsLive a (takeL a s.loc.toNat s.long.toNat (1 + r + b).toNat (wordOf r b t false)) := by
  obtain ⟨cs, hok, rfl, hsp, hl, hr⟩ := check_chunks h
  rw [hsp] at hs
  obtain ⟨P, c, Q, rfl, rfl, -⟩ := spots_split cs 0 j s hs
  rw [Nat.zero_add] at *
  have hcok := hok c (by simp)
  have hlong := Chk.long hcok (chunksW P).length
  rw [hlong] at hk ⊢
  have hf : c.f = true := hf
  rw [show (c.spot (chunksW P).length).loc = ((chunksW P).length : Int) from rfl, Int.toNat_natCast, Int.toNat_natCast, take_chunks hE hk]
  obtain ⟨h1, h2, h3, h4, h5, h6, h7, -⟩ := headE_ok.1 hE
  have hnl : ((newC r b t).len : Int) = 1 + r + b := newC_len hE
  have hlen : (chunksW (P ++ c :: Q)).length = (chunksW P).length + (c.len + (chunksW Q).length) := by rw [chunksW_append, List.length_append, chunksW_cons, List.length_append, chkW_length]
  have hlB : (chunksW (P ++ newC r b t :: (flushC (c.len - (1 + r + b).toNat) ++ Q))).length = (chunksW P).length + (c.len + (chunksW Q).length) := by
    rw [chunksW_append, List.length_append, chunksW_cons, List.length_append, chkW_length, chunksW_append, List.length_append, flushC_length]
    omega
  have hfl := flushC_ok (p := c.len - (1 + r + b).toNat) (by omega)
  refine keeps_of hok ?_ hl (by omega) (fun P1 d Q1 e hd => ?_)
  · intro d hd
    rcases List.mem_append.1 hd with hd | hd
    · exact hok d (by simp [hd])
    · rcases List.mem_cons.1 hd with rfl | hd
      · exact newC_ok hE
      · rcases List.mem_append.1 hd with hd | hd
        · exact (hfl d hd).1
        · exact hok d (by simp [hd])
  · rcases List.append_eq_append_iff.1 e with ⟨R, e1, e2⟩ | ⟨R, e1, e2⟩
    · -- P1 = P ++ R
      cases R with
      | nil =>
        simp only [List.nil_append, List.cons.injEq] at e2
        obtain ⟨rfl, -⟩ := e2
        rw [hf] at hd
        cases hd
      | cons x R =>
        simp only [List.cons_append, List.cons.injEq] at e2
        obtain ⟨rfl, rfl⟩ := e2
        subst e1
        refine ⟨P ++ newC r b t :: (flushC (c.len - (1 + r + b).toNat) ++ R), Q1, by simp, ?_⟩
        rw [chunksW_append, chunksW_append, List.length_append, List.length_append, chunksW_cons, chunksW_cons, List.length_append, List.length_append, chkW_length, chkW_length, chunksW_append, List.length_append, flushC_length]
        omega
    · -- P = P1 ++ R
      cases R with
      | nil =>
        simp only [List.nil_append, List.cons.injEq] at e2
        obtain ⟨rfl, -⟩ := e2
        rw [hf] at hd
        cases hd
      | cons x R =>
        simp only [List.cons_append, List.cons.injEq] at e2
        obtain ⟨rfl, rfl⟩ := e2
        subst e1
        exact ⟨P1, R ++ newC r b t :: (flushC (c.len - (1 + r + b).toNat) ++ Q), by simp, rfl⟩
end Go.Proofs.YtbmkbnalembbjaaGreatDoor

namespace Go.Proofs.YtbmkbnalembbjaaGreatDoor
open Go.RowKit
def objE (S : St) (slot : Int) : Int := if stE S ≠ 0 then stE S else if slot < 0 ∨ (S.r.length : Int) ≤ slot then 5 else if S.r.getD slot.toNat 0 < 0 then 5 else 0
theorem objE_ok {S : St} {slot : Int} (h : objE S slot = 0) : StOk S ∧ ∃ (k : Nat) (x : Int), slot = k ∧ S.r[k]? = some x ∧ 0 ≤ x := by
  unfold objE at h
  split at h
  · rename_i h0; exact absurd h h0
  · rename_i h0
    split at h
    · cases h
    · rename_i h1
      split at h
      · cases h
      · rename_i h2
        have hk : slot.toNat < S.r.length := by omega
        refine ⟨stE_ok.1 (by simpa using h0), slot.toNat, S.r[slot.toNat], by omega, List.getElem?_eq_getElem hk, ?_⟩
        rw [List.getD_eq_getElem?_getD, List.getElem?_eq_getElem hk] at h2
        simp only [Option.getD_some] at h2
        omega
structure ObjAt (S : St) (x : Int) (s : Spot) (i : Nat) : Prop where
  ix : atIx S.a x = i
  at_ : (spotsL S.a)[i]? = some s
  spot : spotAt (spotsL S.a) x = some s
  ok : SpotOk S.a s
  loc : s.loc = x
  free : s.f = false
theorem obj_at {S : St} (hS : StOk S) {x : Int} (hx : x ∈ S.begs) : ∃ s i, ObjAt S x s i := by
  obtain ⟨i, s, e1, e2, e3, e4, e5, e6, e7⟩ := spots_of_ix (checkE_ok.1 hS.arena).1 (begs_ix (hS.live x hx))
  refine ⟨s, i, e7, e2, ?_, e5, by first | exact e3 | exact e4, by first | exact e3 | exact e4⟩
  unfold spotAt
  rw [← pL_isBeg]
  rcases ixOf_cases (pL x) (spotsL S.a) with ⟨f1, f2⟩ | ⟨i', s', f1, f2, f3, f4⟩
  · have := f2 s (List.mem_of_getElem? e2)
    simp [pL, e3, e4] at this
  · have : i' = i := by omega
    subst this
    obtain rfl := Option.some.inj (f2.symm.trans e2)
    rw [List.find?_eq_some_iff_append]
    refine ⟨f3, (spotsL S.a).take i', (spotsL S.a).drop (i' + 1), ?_, fun y hy => by simp [f4 y hy]⟩
    obtain ⟨q1, q2⟩ := List.getElem?_eq_some_iff.1 f2
    rw [← q2, ← List.drop_eq_getElem_cons q1, List.take_append_drop]
set_option maxRecDepth 100000 in
set_option maxHeartbeats 4000000 in
theorem object_ok (A : Option Addr) (n c : Nat) (RA : Option Addr) (rn rc : Nat) (PA : Option Addr) (pn pc : Nat) (HA : Option Addr) (hn hc : Nat) (S : St) (k : Nat) (x : Int) (s : Spot) (i : Nat) (w : World)
    (hR : StR w w.heap.size A n RA rn PA pn HA hn S) (hK : StK n c rn pn hn S) (hOK : StOk S) (hx : S.r[k]? = some x) (h0 : 0 ≤ x) (hO : ObjAt S x s i) :
    Calls Tryz.prog 76 #[.agg #[.slice A n c, .slice RA rn rc, .slice PA pn pc, .slice HA hn hc], .int .i64 k] w fun e w' => Below w.heap.size w w' ∧ ∃ A1 c1 A2 c2, e = .returned (.tuple #[.int .i64 x, .agg #[.int .i64 s.t, .slice A1 s.r.toNat c1, .slice A2 s.b.toNat c2, .bool false], .int .i64 0]) ∧
      w'.ownsRow w.heap.size 3 1 (.slice A1 s.r.toNat c1) s.r.toNat ((refIx (spotsL S.a) S.a s).map (.int .i64)) ∧ w'.ownsRow w.heap.size 45 1 (.slice A2 s.b.toNat c2) s.b.toNat ((bodyOf S.a s).map (.int .u64)) := by
  have HCk := Lib.hid (fun w hR => stcheck_any A n c RA rn rc PA pn pc HA hn hc S w hR hK)
  rw [stE_ok.2 hOK] at HCk
  have HAt := Lib.hid (fun w hr => at_ok A n c S.a x i s w hr hK.cap hK.wf hOK.arena hO.ix hO.at_)
  rw [hO.free] at HAt
  obtain ⟨z1, z2, z3, z4⟩ := hR.lens
  have hk : k < rn := by have := (List.getElem?_eq_some_iff.1 hx).1; omega
  have g1 : decide ((k : Int) < 0) = false := decide_eq_false (by omega)
  have g2 : decide (rn ≤ k) = false := decide_eq_false (by omega)
  have g3 : decide (x < 0) = false := decide_eq_false (by omega)
  generalize (refIx (spotsL S.a) S.a s).map (Value.int .i64) = l1 at *
  generalize (bodyOf S.a s).map (Value.int .u64) = l2 at *
  generalize s.r.toNat = q1 at *
  generalize s.b.toNat = q2 at *
  generalize s.t = t at *
  have HX := Lib.hid hx
  have hb0 := below_new w (.cells #[.slice A n c, .slice RA rn rc, .slice PA pn pc, .slice HA hn hc] 28)
  have hb1 := hb0.alloc hb0.size (.cells #[.int .i64 0, .slice none 0 0, .slice none 0 0, .bool false] 113)
  have DS := (Blk.new w 28 #[.slice A n c, .slice RA rn rc, .slice PA pn pc, .slice HA hn hc]).alloc (.cells #[.int .i64 0, .slice none 0 0, .slice none 0 0, .bool false] 113)
  have DR := Blk.new (w.alloc (.cells #[.slice A n c, .slice RA rn rc, .slice PA pn pc, .slice HA hn hc] 28)) 113 #[.int .i64 0, .slice none 0 0, .slice none 0 0, .bool false]
  rw [World.size_alloc] at DR
  obtain ⟨s0, s1, s2, s3⟩ := DS.four
  clear hb0 z1 z2 z3 z4 hOK hx hO
  go_enter Tryz.func76, Tryz.ntmps76
  go_wp2_with fail
  refine (HCk.out _ ((hR.below hb1).more hb1.size)).mono ?_
  rintro e w2 ⟨rfl, hb2⟩
  have DS := DS.below hb2 DS.lt
  have DR2 := DR.below hb2 DR.lt
  have hb02 := below_step hb1 hb2
  clear s0 s1 s2 s3 hb1 hb2 DR
  obtain ⟨s0, s1, s2, s3⟩ := DS.four
  obtain ⟨ad, x', rfl, had, hx', cx⟩ := (hR.r.below hb02).num hk
  obtain rfl : x' = x := Option.some.inj (hx'.symm.trans HX.out)
  clear hx'
  go_upto_region 6 with fail
  go_cut [7, 8] from 9 to 52 (fun s7 s8 wc => ∃ (g : Nat) (A1 : Option Addr) (c1 : Nat) (A2 : Option Addr) (c2 : Nat), s7 = .int .i64 0 ∧ s8 = .pointer (some ⟨g, 0, none⟩) ∧ w2.heap.size ≤ g ∧ Blk wc g 113 #[.int .i64 t, .slice A1 q1 c1, .slice A2 q2 c2, .bool false] ∧
    wc.ownsRow w.heap.size 3 1 (.slice A1 q1 c1) q1 l1 ∧ wc.ownsRow w.heap.size 45 1 (.slice A2 q2 c2) q2 l2 ∧ Below w2.heap.size w2 wc)
  case first =>
    have hb := hb02.drew
    have hb9 := (Below.refl w2.heap.size w2).drew
    have DS := DS.drew
    obtain ⟨s0, s1, s2, s3⟩ := DS.four
    have cx : w2.drew.cell? (ad.add k) = some (.int .i64 x') := cx
    have hbz := (hb02.alloc hb02.size (.cells #[.int .i64 0, .slice none 0 0, .slice none 0 0, .bool false] 113)).drew
    have DSz := DS.alloc (.cells #[.int .i64 0, .slice none 0 0, .slice none 0 0, .bool false] 113)
    have DGz := (Blk.new w2 113 #[.int .i64 0, .slice none 0 0, .slice none 0 0, .bool false]).drew
    have cxz : (w2.alloc (.cells #[.int .i64 0, .slice none 0 0, .slice none 0 0, .bool false] 113)).drew.cell? (ad.add k) = some (.int .i64 x') := by
      refine (World.cell?_alloc_lt w2 _ (ad.add k) ?_).trans cx
      rw [block_of_add]
      have := hb02.size
      omega
    have hsz := hb02.size
    have ne1 : w2.heap.size ≠ w.heap.size := by have := DS.lt; have : w.heap.size < w2.heap.size := this; omega
    have ne2 : w2.heap.size ≠ (ad.add k).block := by rw [block_of_add]; omega
    have ne3 : w2.heap.size ≠ ad.block := by omega
    go_region_held3 (fun w' => w'.cell? ⟨w.heap.size, 0, none⟩ = some (.slice A n c) ∧ w'.cell? ⟨w.heap.size, 1, none⟩ = some (.slice (some ad) rn rc) ∧ w'.cell? (ad.add k) = some (.int .i64 x')) (go_keep)
      (first
        | (go_at_call 58; (with_reducible refine (HAt.out _ ((hR.a.below hb).more hb.size)).mono ?_); rintro e wA ⟨hbA, A1, c1, A2, c2, rfl, o1, o2⟩; have DS := DS.below hbA DS.lt; obtain ⟨s0, s1, s2, s3⟩ := DS.four; have cx := (hbA.cell (p := ad.add k) (by rw [block_of_add]; have := hb.size; omega)).trans cx)
        | (go_at_call 58; (with_reducible refine (HAt.out _ ((hR.a.below hbz).more hbz.size)).mono ?_); rintro e wA ⟨hbA, A1, c1, A2, c2, rfl, o1, o2⟩; have DS := DSz.below hbA DSz.lt; obtain ⟨s0, s1, s2, s3⟩ := DS.four; have cx := (hbA.cell (p := ad.add k) (by rw [block_of_add]; have := hbz.size; omega)).trans cxz; have DG := DGz.below hbA DGz.lt; obtain ⟨d0, d1, d2, d3⟩ := DG.four; have f0 := DG.frozen 0; have f1 := DG.frozen 1; have f2 := DG.frozen 2; have f3 := DG.frozen 3))
    all_goals
      go_wp2_with fail
      go_meet
    · exact ⟨_, A1, c1, A2, c2, rfl, rfl, hbA.size, Blk.new wA _ _, (own_mono o1 hb.size).alloc _, (own_mono o2 hb.size).alloc _, (hb9.trans hbA).alloc (hb9.trans hbA).size _⟩
    · have hq := ((below_new w2 (.cells #[.int .i64 0, .slice none 0 0, .slice none 0 0, .bool false] 113)).drew).trans (hbA.mono (by simp))
      exact ⟨_, A1, c1, A2, c2, rfl, rfl, Nat.le_refl _, (((DG.set_ 0 _).set_ 1 _).set_ 2 _).set_ 3 _, own_block4 (own_mono o1 hbz.size) DG (by decide) _ _ _ _, own_block4 (own_mono o2 hbz.size) DG (by decide) _ _ _ _, below_block4 hq (Nat.le_refl _) _ _ _ _⟩
  case rest =>
    obtain ⟨g, A1, c1, A2, c2, rfl, rfl, hg, DG, o1, o2, hbc⟩ := hcut
    have hb03 := below_step hb02 hbc
    have DS := DS.below hbc DS.lt
    have hrl := DR2.lt
    have DR := DR2.below hbc DR2.lt
    have cx := (hbc.cell (p := ad.add k) (by rw [block_of_add]; have := hb02.size; omega)).trans cx
    have ne1 : g ≠ w.heap.size + 1 := by have : w.heap.size + 1 < w2.heap.size := hrl; omega
    clear s0 s1 s2 s3
    obtain ⟨s0, s1, s2, s3⟩ := DS.four
    obtain ⟨d0, d1, d2, d3⟩ := DG.four
    obtain ⟨r0, r1, r2, r3⟩ := DR.four
    have f0 := DR.frozen 0
    have f1 := DR.frozen 1
    have f2 := DR.frozen 2
    have f3 := DR.frozen 3
    go_upto_region 7 with fail
    go_region
    all_goals
      go_wp2_with fail
    have z4 := (((DR.set_ 0 (.int .i64 t)).set_ 1 (.slice A1 q1 c1)).set_ 2 (.slice A2 q2 c2)).set_ 3 (.bool false)
    refine bodyPost_ret (v := .tuple #[.int .i64 x', .agg #[.int .i64 t, .slice A1 q1 c1, .slice A2 q2 c2, .bool false], .int .i64 0]) ?_ rfl ⟨(below_block4 hb03 (Nat.le_succ _) _ _ _ _).drew, A1, c1, A2, c2, rfl, (own_block4 o1 DR (by decide) _ _ _ _).drew, (own_block4 o2 DR (by decide) _ _ _ _).drew⟩
    obtain ⟨z0, z1, z2, z3⟩ := z4.drew.four
    simp only [results, Tryz.results76]
    go_simp
set_option maxRecDepth 100000 in
set_option maxHeartbeats 4000000 in
theorem object_bad (A : Option Addr) (n c : Nat) (RA : Option Addr) (rn rc : Nat) (PA : Option Addr) (pn pc : Nat) (HA : Option Addr) (hn hc : Nat) (S : St) (slot : Int) (w : World)
    (hR : StR w w.heap.size A n RA rn PA pn HA hn S) (hK : StK n c rn pn hn S) (hE : objE S slot ≠ 0) :
    Calls Tryz.prog 76 #[.agg #[.slice A n c, .slice RA rn rc, .slice PA pn pc, .slice HA hn hc], .int .i64 slot] w fun e w' => Below w.heap.size w w' ∧ e = .returned (.tuple #[.int .i64 0, .agg #[.int .i64 0, .slice none 0 0, .slice none 0 0, .bool false], .int .i64 (objE S slot)]) := by
  have HCk := Lib.hid (fun w hR => stcheck_any A n c RA rn rc PA pn pc HA hn hc S w hR hK)
  obtain ⟨-, hl, -, -⟩ := hR.lens
  have HX : Hid (objE S slot = if stE S ≠ 0 then stE S else if slot < 0 ∨ (rn : Int) ≤ slot then 5 else if S.r.getD slot.toNat 0 < 0 then 5 else 0) := by
    show _ = _
    rw [← hl]
    rfl
  have HE := Lib.hid hE
  generalize objE S slot = F at *
  generalize stE S = E at *
  have hb0 := below_new w (.cells #[.slice A n c, .slice RA rn rc, .slice PA pn pc, .slice HA hn hc] 28)
  have hb1 := hb0.alloc hb0.size (.cells #[.int .i64 0, .slice none 0 0, .slice none 0 0, .bool false] 113)
  have DS := (Blk.new w 28 #[.slice A n c, .slice RA rn rc, .slice PA pn pc, .slice HA hn hc]).alloc (.cells #[.int .i64 0, .slice none 0 0, .slice none 0 0, .bool false] 113)
  have DR := Blk.new (w.alloc (.cells #[.slice A n c, .slice RA rn rc, .slice PA pn pc, .slice HA hn hc] 28)) 113 #[.int .i64 0, .slice none 0 0, .slice none 0 0, .bool false]
  rw [World.size_alloc] at DR
  obtain ⟨s0, s1, s2, s3⟩ := DS.four
  have HL := Lib.hid hl
  clear hb0 hE hl
  go_enter Tryz.func76, Tryz.ntmps76
  go_wp2_with fail
  refine (HCk.out _ ((hR.below hb1).more hb1.size)).mono ?_
  rintro e w2 ⟨rfl, hb2⟩
  have DS := DS.below hb2 DS.lt
  have DR2 := DR.below hb2 DR.lt
  have hb02 := below_step hb1 hb2
  clear s0 s1 s2 s3 hb1 hb2 DR
  obtain ⟨s0, s1, s2, s3⟩ := DS.four
  obtain ⟨r0, r1, r2, r3⟩ := DR2.four
  have f0 := DR2.frozen 0
  have f1 := DR2.frozen 1
  have f2 := DR2.frozen 2
  have f3 := DR2.frozen 3
  have z4 := (((DR2.set_ 0 (.int .i64 0)).set_ 1 (.slice none 0 0)).set_ 2 (.slice none 0 0)).set_ 3 (.bool false)
  by_cases h0 : E = 0
  · subst h0
    have HX5 : Hid (F = 5) := by
      have h1 := HX.out
      have h2 := HE.out
      show _ = _
      rw [if_neg (by decide)] at h1
      split at h1
      · exact h1
      · split at h1
        · exact h1
        · exact absurd h1 h2
    by_cases h1 : slot < 0
    · have g1 : decide (slot < 0) = true := decide_eq_true h1
      clear h1
      go_wp2_with fail
      refine bodyPost_ret (v := .tuple #[.int .i64 0, .agg #[.int .i64 0, .slice none 0 0, .slice none 0 0, .bool false], .int .i64 F]) ?_ rfl ⟨below_block4 hb02 (Nat.le_succ _) _ _ _ _, rfl⟩
      obtain ⟨z0, z1, z2, z3⟩ := z4.four
      simp only [results, Tryz.results76]
      have HF := HX5.out
      subst HF
      go_simp
    · have g1 : decide (slot < 0) = false := decide_eq_false h1
      obtain ⟨k, rfl⟩ := Int.eq_ofNat_of_zero_le (show 0 ≤ slot by omega)
      by_cases h2 : rn ≤ k
      · have g2 : decide (rn ≤ k) = true := decide_eq_true h2
        have g2' : decide ((rn : Int) ≤ (k : Int)) = true := decide_eq_true (by omega)
        clear h1 h2
        go_wp2_with fail
        refine bodyPost_ret (v := .tuple #[.int .i64 0, .agg #[.int .i64 0, .slice none 0 0, .slice none 0 0, .bool false], .int .i64 F]) ?_ rfl ⟨below_block4 hb02 (Nat.le_succ _) _ _ _ _, rfl⟩
        obtain ⟨z0, z1, z2, z3⟩ := z4.four
        simp only [results, Tryz.results76]
        have HF := HX5.out
        subst HF
        go_simp
      · have g2 : decide (rn ≤ k) = false := decide_eq_false h2
        have g2' : decide ((rn : Int) ≤ (k : Int)) = false := decide_eq_false (by omega)
        have hk : k < rn := by omega
        obtain ⟨ad, x', rfl, had, hx', cx⟩ := (hR.r.below hb02).num hk
        have g3 : decide (x' < 0) = true := by
          have h3 := HX.out
          have h4 := HX5.out
          rw [if_neg (by decide), if_neg (by omega)] at h3
          rw [List.getD_eq_getElem?_getD, Int.toNat_natCast, hx'] at h3
          simp only [Option.getD_some] at h3
          split at h3
          · exact decide_eq_true ‹_›
          · exact absurd (h4.symm.trans h3) (by decide)
        clear h1 h2 hx'
        go_wp2_with fail
        refine bodyPost_ret (v := .tuple #[.int .i64 0, .agg #[.int .i64 0, .slice none 0 0, .slice none 0 0, .bool false], .int .i64 F]) ?_ rfl ⟨below_block4 hb02 (Nat.le_succ _) _ _ _ _, rfl⟩
        obtain ⟨z0, z1, z2, z3⟩ := z4.four
        simp only [results, Tryz.results76]
        have HF := HX5.out
        subst HF
        go_simp
  · have g1 : (E != 0) = true := by simpa using h0
    have HX5 : Hid (F = E) := by
      have h1 := HX.out
      rw [if_pos h0] at h1
      exact h1
    clear h0
    go_wp2_with fail
    refine bodyPost_ret (v := .tuple #[.int .i64 0, .agg #[.int .i64 0, .slice none 0 0, .slice none 0 0, .bool false], .int .i64 F]) ?_ rfl ⟨below_block4 hb02 (Nat.le_succ _) _ _ _ _, rfl⟩
    obtain ⟨z0, z1, z2, z3⟩ := z4.four
    simp only [results, Tryz.results76]
    have HF := HX5.out
    subst HF
    go_simp
end Go.Proofs.YtbmkbnalembbjaaGreatDoor
