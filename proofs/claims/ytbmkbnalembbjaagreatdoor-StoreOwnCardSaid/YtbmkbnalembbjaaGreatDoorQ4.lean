/-
  Texts joined: Object IndexSpot At StoreCheck Chunks JoinLaw.
-/
import Derived.Deep.CutRange
import Derived.Test.YtbmkbnalembbjaaGreatDoorQ0
import Derived.Test.YtbmkbnalembbjaaGreatDoorQ2
import Derived.Test.YtbmkbnalembbjaaGreatDoorQ3
namespace Go.Proofs.YtbmkbnalembbjaaGreatDoor
open Go.RowKit
def refIx (l : List Spot) (a : List Int) (s : Spot) : List Int := (refsOf a s).map fun v => (placeF l v).getD 0
theorem placeV_getD (l : List Spot) (v : Int) : (placeV l v).getD (.int .i64 0) = .int .i64 ((placeF l v).getD 0) := by
  unfold placeV
  cases placeF l v <;> rfl
set_option maxRecDepth 100000 in
set_option maxHeartbeats 1000000 in
theorem object_any (A : Option Addr) (n c b : Nat) (a : List Int) (l : List Spot) (s : Spot) (w : World) (hr : Reads w w.heap.size 1 A n (a.map (.int .u64))) (hc : n ≤ c) (hn : n ≤ 256) (hs : SpotOk a s)
    (ha : ∀ x ∈ a, (Lit.int .u64 x).wf = true) (hM : MapIs w Tryz.prog 45 .u64 b 300 (placeV l)) :
    Calls Tryz.prog 96 #[.slice A n c, .agg #[.int .i64 s.loc, .int .i64 s.r, .int .i64 s.b, .int .i64 s.t, .bool s.f], .map (some b)] w fun e w' => Below w.heap.size w w' ∧ ∃ A1 c1 A2 c2,
      e = .returned (.agg #[.int .i64 s.t, .slice A1 s.r.toNat c1, .slice A2 s.b.toNat c2, .bool s.f]) ∧ w'.ownsRow w.heap.size 3 1 (.slice A1 s.r.toNat c1) s.r.toNat ((refIx l a s).map (.int .i64)) ∧
      w'.ownsRow w.heap.size 45 1 (.slice A2 s.b.toNat c2) s.b.toNat ((bodyOf a s).map (.int .u64)) := by
  have hal : a.length = n := by have := hr.1; simpa using this
  have HR := Lib.hid (fun w B hr hB => refs_any A n c B a s w hr hB hc hn hs)
  have HF := Lib.hid (refsOf_length hs)
  have HG := Lib.hid (bodyOf_length hs)
  have HI : Hid (refIx l a s = (refsOf a s).map fun v => (placeF l v).getD 0) := rfl
  have l0 := hs.loc0
  have r0 := hs.r0
  have b0 := hs.b0
  have ft := hs.fits
  have HB : Hid (bodyOf a s = (a.drop (s.loc.toNat + 1 + s.r.toNat)).take s.b.toNat) := rfl
  unfold Spot.long at ft
  have hblt := hM.lt
  have HSub : Hid (∀ v ∈ refsOf a s, v ∈ a) := fun v hv => by
    unfold refsOf at hv
    exact List.mem_of_mem_drop (List.mem_of_mem_take hv)
  clear hs
  generalize refsOf a s = rs at *
  generalize bodyOf a s = bs at *
  generalize refIx l a s = ix at *
  obtain ⟨loc, r, bd, t, f⟩ := s
  dsimp only at *
  obtain ⟨i, rfl⟩ := Int.eq_ofNat_of_zero_le l0
  obtain ⟨q, rfl⟩ := Int.eq_ofNat_of_zero_le r0
  obtain ⟨k, rfl⟩ := Int.eq_ofNat_of_zero_le b0
  simp only [Int.toNat_natCast] at *
  rw [hal] at ft
  have HL := Lib.hid hal
  clear hal l0 r0 b0
  obtain ⟨i0, hi, hz0, hz1, hz2⟩ := info_parts (show (Tryz.prog.info? 3).map (fun i => (i.zero, i.size, i.bytes)) = some (some (.int .i64 0), 1, 8) by kernel_rfl)
  go_enter Tryz.func96, Tryz.ntmps96
  go_wp2_with fail
  have hbw := ((below_new w (.cells #[.int .i64 i, .int .i64 q, .int .i64 k, .int .i64 t, .bool f] 165)).alloc (by simp) (.cells #[.int .i64 0, .slice none 0 0, .slice none 0 0, .bool false] 113)).alloc (by simp; omega) (.cells #[.int .i64 t, .slice none 0 0, .slice none 0 0, .bool f] 113)
  have B0 := ((Blk.new w 165 #[.int .i64 i, .int .i64 q, .int .i64 k, .int .i64 t, .bool f]).alloc (.cells #[.int .i64 0, .slice none 0 0, .slice none 0 0, .bool false] 113)).alloc (.cells #[.int .i64 t, .slice none 0 0, .slice none 0 0, .bool f] 113)
  have B1 := (Blk.new (w.alloc (.cells #[.int .i64 i, .int .i64 q, .int .i64 k, .int .i64 t, .bool f] 165)) 113 #[.int .i64 0, .slice none 0 0, .slice none 0 0, .bool false]).alloc (.cells #[.int .i64 t, .slice none 0 0, .slice none 0 0, .bool f] 113)
  have B2 := Blk.new ((w.alloc (.cells #[.int .i64 i, .int .i64 q, .int .i64 k, .int .i64 t, .bool f] 165)).alloc (.cells #[.int .i64 0, .slice none 0 0, .slice none 0 0, .bool false] 113)) 113 #[.int .i64 t, .slice none 0 0, .slice none 0 0, .bool f]
  simp only [World.size_alloc] at B1 B2
  refine (HR.out _ w.heap.size (hr.below hbw) (by simp; omega)).mono ?_
  rintro e w3 ⟨hb3, A3, c3, rfl, hc3, hrr⟩
  have hbw3 := hbw.trans (hb3.mono (by simp; omega))
  have hM3 := hM.below hbw3 hblt
  have C0 := B0.below hb3 (by simp; omega)
  have C1 := B1.below hb3 (by simp)
  have C2 := B2.below hb3 (by simp)
  clear B0 B1 B2
  have hsz : w.heap.size + 3 ≤ w3.heap.size := by have := hb3.size; simp at this; omega
  have hrrw : Reads w w.heap.size 1 A3 q (rs.map (.int .u64)) := hrr.keep fun p hp => (hbw3.cell hp).symm
  clear hb3 hbw hM3 hrr
  go_wp2
  go_loopw [9, 22] (fun _ x wr => ∃ (p : Nat) (A1 : Option Addr) (c1 : Nat), p ≤ q ∧ x = .int .i64 p ∧ Below w.heap.size w wr ∧ w.heap.size + 3 ≤ wr.heap.size ∧ Blk wr w.heap.size 165 #[.int .i64 i, .int .i64 q, .int .i64 k, .int .i64 t, .bool f] ∧ Blk wr (w.heap.size + 1) 113 #[.int .i64 0, .slice none 0 0, .slice none 0 0, .bool false] ∧
    Blk wr (w.heap.size + 1 + 1) 113 #[.int .i64 t, .slice A1 p c1, .slice none 0 0, .bool f] ∧ wr.ownsRow (w.heap.size + 3) 3 1 (.slice A1 p c1) p ((ix.take p).map (.int .i64))) (fun _ x _ => q - (intOf x).toNat)
  case atStart => exact ⟨0, none, 0, Nat.zero_le _, rfl, hbw3, hsz, C0, C1, C2, by simpa using World.ownsRow_nil _ _ _ _⟩
  case round =>
    clear C0 C1 C2 hsz
    obtain ⟨p, A1, c1, hp, rfl, hb, hsz, B0, B1, B2, hown⟩ := hrel
    by_cases hlt : p < q
    · obtain ⟨ad3, v, rfl, had3, hv, hcv⟩ := (hrrw.below hb).num hlt
      have hvw := ha v (HSub.out v (List.mem_of_getElem? hv))
      have hlook := (hM.below hb hblt).look Tryz.underlying45 Tryz.underlying154 (zero_int _) hvw
      rw [placeV_getD] at hlook
      have HT : Hid (ix.take (p + 1) = ix.take p ++ [(placeF l v).getD 0]) := by
        show _ = _
        obtain ⟨h1, rfl⟩ := List.getElem?_eq_some_iff.1 hv
        rw [HI.out, ← List.map_take, ← List.map_take, List.take_succ_eq_append_getElem h1, List.map_append]
        rfl
      generalize (placeF l v).getD 0 = z at *
      clear hv hvw
      have k1 := B2.cell 1
      simp only [List.getElem?_toArray, List.getElem?_cons_zero, List.getElem?_cons_succ] at k1
      have hown2 := hown.alloc (.cells #[.int .i64 z] 3)
      have B0' := B0.alloc (.cells #[.int .i64 z] 3)
      have B1' := B1.alloc (.cells #[.int .i64 z] 3)
      have B2' := B2.alloc (.cells #[.int .i64 z] 3)
      have hb2 := hb.alloc hb.size (.cells #[.int .i64 z] 3)
      have hnew := reads_new wr [.int .i64 z] 3 1 1 rfl
      have hge : ∀ g, (Value.slice A1 p c1).ownBlock = some g → w.heap.size + 3 ≤ g := fun g hg => own_ge hown hg
      have HGe := Lib.hid hge
      clear hown B0 B1 B2 hb hge
      go_wp2_with (at_builtin; refine wpList_append_any _ rfl (.tmp 27) (.tmp 31) 23 rfl (w.heap.size + 3) 3 i0 (.int .i64 0) 1 8 Tryz.underlying23 hi hz0 hz1 hz2 rfl (by decide) (.slice A1 p c1) p _ rfl hown2 (wr.heap.size + 1) (some ⟨wr.heap.size, 0, none⟩) 1 1 [.int .i64 z] rfl hnew (by simp [Value.oneCell']) (by simp [maxLen]; omega) (by omega) (by have := hsz; simp; omega) ?_; rintro v' w5 hown5 hgr hbl -; obtain ⟨A5, c5, rfl⟩ := own_slice hown5; have B0'' := B0'.grown hgr (fun e => by have := HGe.out _ e.symm; omega); have B1'' := B1'.grown hgr (fun e => by have := HGe.out _ e.symm; omega); have B2'' := B2'.grown hgr (fun e => by have := HGe.out _ e.symm; omega); have k2 := B2''.cell 1; simp only [List.getElem?_toArray, List.getElem?_cons_zero, List.getElem?_cons_succ] at k2; have f2 := B2''.frozen 1)
      have hb3 := hb2.grown hgr hb2.size (fun g hg => by have := HGe.out g hg; omega)
      have hsz5 := hgr.size
      simp only [World.size_alloc] at hsz5
      go_roundw
      case rel => exact ⟨p + 1, A5, c5, by omega, by go_num, hb3.setCell (p := ⟨w.heap.size + 1 + 1, 1, none⟩) (by simp; omega) _, by simp [World.setCell]; omega, B0''.far (p := ⟨w.heap.size + 1 + 1, 1, none⟩) (by simp; omega) _, B1''.far (p := ⟨w.heap.size + 1 + 1, 1, none⟩) (by simp) _,
        B2''.set_ 1 _, by rw [HT.out, List.map_append]; exact own_far hown5 (p := ⟨w.heap.size + 1 + 1, 1, none⟩) (by simp) _⟩
      case measure => simp [intOf]; omega
    · have hpq : p = q := by omega
      subst hpq
      have ht : ix.take p = ix := List.take_of_length_le (by rw [HI.out, List.length_map, HF.out]; exact Nat.le_refl _)
      rw [ht] at hown
      have hrb := (hr.below hb).sub (lo := i + 1 + p) (hi := i + 1 + p + k) (by omega) (by omega) hc
      rw [← List.map_drop, ← List.map_take, show i + 1 + p + k - (i + 1 + p) = k by omega, ← HB.out] at hrb
      have HCl := Lib.hid (fun c' => clone_u64 _ k c' w.heap.size (bs.map (.int .u64)) wr hrb (by omega) (u64s_one _) (by omega))
      have k0 := B0.cell 0
      have k1 := B0.cell 1
      have k2 := B0.cell 2
      simp only [List.getElem?_toArray, List.getElem?_cons_zero, List.getElem?_cons_succ] at k0 k1 k2
      have hpos : 0 < n := by omega
      obtain ⟨ad, rfl, had, -⟩ := hr.2 hpos
      clear ht hrb
      by_cases hci : c = i + 1 + p
      · have HCl := HCl.out
        rw [if_pos hci] at HCl
        have HCl := Lib.hid HCl
        go_wp2_with fail
        refine (HCl.out _).mono ?_
        rintro e w7 ⟨A7, c7, rfl, hown7, hb7⟩
        have D1 := Blk.below (B := wr.heap.size) B1 hb7 (by omega)
        have D2 := Blk.below (B := wr.heap.size) B2 hb7 (by omega)
        have hown8 := own_below hown hb7
        have hb07 := hb.trans (hb7.mono hb.size)
        have m0 := D2.cell 0
        have m1 := D2.cell 1
        have m2 := D2.cell 2
        have m3 := D2.cell 3
        have f2 := D2.frozen 2
        have n0 := D1.cell 0
        have n1 := D1.cell 1
        have n2 := D1.cell 2
        have n3 := D1.cell 3
        have g0 := D1.frozen 0
        have g1 := D1.frozen 1
        have g2 := D1.frozen 2
        have g3 := D1.frozen 3
        simp only [List.getElem?_toArray, List.getElem?_cons_zero, List.getElem?_cons_succ] at m0 m1 m2 m3 n0 n1 n2 n3
        have HO1 := Lib.hid hown8
        have HO2 := Lib.hid hown7
        have HB7 := Lib.hid hb07
        clear hown hown7 hown8 hb07 hb7 D1 D2 B0 B1 B2 k0 k1 k2 hb
        go_wp2
        refine bodyPost_ret (v := .agg #[.int .i64 t, .slice A1 p c1, .slice A7 k c7, .bool f]) ?_ rfl ⟨?_, A1, c1, A7, c7, rfl, ?_, ?_⟩
        · simp only [results, Tryz.results96]
          go_simp
        · iterate 5 refine Below.setCell ?_ (by dsimp only; omega) _
          exact HB7.out
        · refine own_mono (base' := w.heap.size + 3) ?_ (by omega)
          iterate 5 refine own_far ?_ (by dsimp only; omega) _
          exact HO1.out
        · refine own_mono (base' := w.heap.size + 3) ?_ (by omega)
          iterate 5 refine own_far ?_ (by dsimp only; omega) _
          exact own_mono HO2.out (by omega)
      · have HCl := HCl.out
        rw [if_neg hci] at HCl
        have HCl := Lib.hid HCl
        go_wp2_with fail
        refine (HCl.out _).mono ?_
        rintro e w7 ⟨A7, c7, rfl, hown7, hb7⟩
        have D1 := Blk.below (B := wr.heap.size) B1 hb7 (by omega)
        have D2 := Blk.below (B := wr.heap.size) B2 hb7 (by omega)
        have hown8 := own_below hown hb7
        have hb07 := hb.trans (hb7.mono hb.size)
        have m0 := D2.cell 0
        have m1 := D2.cell 1
        have m2 := D2.cell 2
        have m3 := D2.cell 3
        have f2 := D2.frozen 2
        have n0 := D1.cell 0
        have n1 := D1.cell 1
        have n2 := D1.cell 2
        have n3 := D1.cell 3
        have g0 := D1.frozen 0
        have g1 := D1.frozen 1
        have g2 := D1.frozen 2
        have g3 := D1.frozen 3
        simp only [List.getElem?_toArray, List.getElem?_cons_zero, List.getElem?_cons_succ] at m0 m1 m2 m3 n0 n1 n2 n3
        have HO1 := Lib.hid hown8
        have HO2 := Lib.hid hown7
        have HB7 := Lib.hid hb07
        clear hown hown7 hown8 hb07 hb7 D1 D2 B0 B1 B2 k0 k1 k2 hb
        go_wp2
        refine bodyPost_ret (v := .agg #[.int .i64 t, .slice A1 p c1, .slice A7 k c7, .bool f]) ?_ rfl ⟨?_, A1, c1, A7, c7, rfl, ?_, ?_⟩
        · simp only [results, Tryz.results96]
          go_simp
        · iterate 5 refine Below.setCell ?_ (by dsimp only; omega) _
          exact HB7.out
        · refine own_mono (base' := w.heap.size + 3) ?_ (by omega)
          iterate 5 refine own_far ?_ (by dsimp only; omega) _
          exact HO1.out
        · refine own_mono (base' := w.heap.size + 3) ?_ (by omega)
          iterate 5 refine own_far ?_ (by dsimp only; omega) _
          exact own_mono HO2.out (by omega)
end Go.Proofs.YtbmkbnalembbjaaGreatDoor

namespace Go.Proofs.YtbmkbnalembbjaaGreatDoor
open Go.RowKit
set_option maxRecDepth 100000 in
set_option maxHeartbeats 1000000 in
theorem indexSpot_any (F : Nat) (cap : Value) (A : Option Addr) (n c B : Nat) (l : List Spot) (p : Spot → Bool) (w : World) (hr : Reads w B 5 A n (spotsC l)) (hB : B ≤ w.heap.size) (hn : n ≤ 1000000) (hF : Plain Tryz.prog F)
    (HC : ∀ (w' : World) (s : Spot), Below w.heap.size w w' → s ∈ l → Calls Tryz.prog F #[.agg #[.int .i64 s.loc, .int .i64 s.r, .int .i64 s.b, .int .i64 s.t, .bool s.f], cap] w' fun e w'' => e = .returned (.bool (p s)) ∧ Below w'.heap.size w' w'') :
    Calls Tryz.prog 94 #[.slice A n c, .func (.func F) #[] #[cap]] w fun e w' => e = .returned (.int .i64 (ixOf p l)) ∧ Below w.heap.size w w' := by
  have hll : l.length = n := by have := hr.1; rw [spotsC_length] at this; omega
  have HL := Lib.hid hll
  have HC := Lib.hid HC
  have hcf := fun (x : Value) (w : World) => hF #[x, cap] w
  clear hll hF
  go_enter Tryz.func94, Tryz.ntmps94
  go_wp2
  go_loopw [5, 8] (fun _ i wr => ∃ j : Nat, j ≤ n ∧ i = .int .i64 j ∧ Below w.heap.size w wr ∧ Hid (∀ x ∈ l.take j, p x = false)) (fun _ i _ => n - (intOf i).toNat)
  case atStart => exact ⟨0, Nat.zero_le _, rfl, Below.refl _ _, by intro x hx; simp at hx⟩
  case round =>
    obtain ⟨j, hj, rfl, hb, HD⟩ := hrel
    by_cases hlt : j < n
    · obtain ⟨ad, s, rfl, had, hs, c0, c1, c2, c3, c4⟩ := (hr.below (hb.mono hB)).spot hlt
      have HS := Lib.hid hs
      have HQ := Lib.hid (HC.out wr s hb (List.mem_of_getElem? hs))
      clear hs
      cases hp : p s
      · have HF := Lib.hid hp
        clear hp
        go_wp2_with fail
        refine HQ.out.mono ?_
        rw [HF.out]
        rintro e w1 ⟨rfl, hb1⟩
        go_wp2
        go_roundw
        case rel => exact ⟨j + 1, by omega, by go_num, hb.trans (hb1.mono hb.size), fun x hx => by
          rcases take_succ_mem HS.out x hx with h | rfl
          · exact HD.out x h
          · exact HF.out⟩
        case measure => simp [intOf]; omega
      · have HF := Lib.hid hp
        clear hp
        go_wp2_with fail
        refine HQ.out.mono ?_
        rw [HF.out]
        rintro e w1 ⟨rfl, hb1⟩
        go_wp2
        go_ret
        exact ⟨ret_int (ixOf_some HS.out HF.out HD.out).symm, hb.trans (hb1.mono hb.size)⟩
    · go_wp2
      go_ret
      exact ⟨ret_int (ixOf_none (by have := HD.out; rwa [List.take_of_length_le (by rw [HL.out]; omega)] at this)).symm, hb⟩
end Go.Proofs.YtbmkbnalembbjaaGreatDoor

namespace Go.Proofs.YtbmkbnalembbjaaGreatDoor
open Go.RowKit
set_option maxHeartbeats 400000 in
theorem atClosure_any (g : Nat) (x : Int) (s : Spot) (w : World) (hg : g < w.heap.size) (hc : w.cell? ⟨g, 0, none⟩ = some (.int .i64 x)) :
    Calls Tryz.prog 95 #[.agg #[.int .i64 s.loc, .int .i64 s.r, .int .i64 s.b, .int .i64 s.t, .bool s.f], .pointer (some ⟨g, 0, none⟩)] w fun e w' => e = .returned (.bool (s.loc == x)) ∧ Below w.heap.size w w' := by
  go_enter Tryz.func95, Tryz.ntmps95
  go_wp2
  go_ret
  exact ⟨rfl, below_new _ _⟩
structure Ob where
  t : Int
  refs : List Int
  body : List Int
  f : Bool
deriving DecidableEq
def obOf (a : List Int) (l : List Spot) (s : Spot) : Ob := ⟨s.t, refIx l a s, bodyOf a s, s.f⟩
def atIx (a : List Int) (x : Int) : Int := ixOf (fun s => s.loc == x) (spotsL a)
set_option maxRecDepth 100000 in
set_option maxHeartbeats 1000000 in
theorem at_none (A : Option Addr) (n c : Nat) (a : List Int) (x : Int) (w : World) (hr : Reads w w.heap.size 1 A n (a.map (.int .u64))) (hnc : n ≤ c) (ha : ∀ x ∈ a, (Lit.int .u64 x).wf = true) (hE : checkE a = 0) (hix : atIx a x < 0) :
    Calls Tryz.prog 58 #[.slice A n c, .int .i64 x] w fun e w' => e = .returned (.tuple #[.agg #[.int .i64 0, .slice none 0 0, .slice none 0 0, .bool false], .int .i64 5]) ∧ Below w.heap.size w w' := by
  have H := Lib.hid (fun w hr => check_ok A n c a w hr hnc ha hE)
  have hm256 := spotsL_length a
  have hix : ixOf (fun s => s.loc == x) (spotsL a) < 0 := hix
  generalize spotsL a = l at *
  generalize hp : (fun s : Spot => s.loc == x) = p at *
  have HPx := Lib.hid hp
  have HIX := Lib.hid (fun A n c B W hr hB hn HC => indexSpot_any 95 (.pointer (some ⟨w.heap.size, 0, none⟩)) A n c B l p W hr hB hn (plain_of (fn := Tryz.f95) Tryz.func95 (by kernel_rfl) (by kernel_rfl)) HC)
  generalize ixOf p l = z at *
  clear hp hE
  go_enter Tryz.func58, Tryz.ntmps58
  go_wp2_with fail
  have hb0 := (below_new w (.cells #[.int .i64 x] 3)).alloc (by simp) (.cells #[.int .i64 0, .slice none 0 0, .slice none 0 0, .bool false] 113)
  have B0 := (Blk.new w 3 #[.int .i64 x]).alloc (.cells #[.int .i64 0, .slice none 0 0, .slice none 0 0, .bool false] 113)
  have B1 := Blk.new (w.alloc (.cells #[.int .i64 x] 3)) 113 #[.int .i64 0, .slice none 0 0, .slice none 0 0, .bool false]
  simp only [World.size_alloc] at B1
  refine (H.out _ ((hr.below hb0).more hb0.size)).mono ?_
  rintro e w1 ⟨hb1, A', c', b, rfl, hbb, hown, hM⟩
  have D0 := B0.below hb1 (by simp; omega)
  have D1 := B1.below hb1 (by simp)
  have hb01 := below_step hb0 (hb1.mono (by simp))
  have hsz : w.heap.size + 2 ≤ w1.heap.size := by have := hb1.size; simp at this; omega
  have hrl := Reads.of_own hown
  obtain ⟨m, hm⟩ : ∃ m, m = l.length := ⟨_, rfl⟩
  rw [← hm] at hrl hm256
  rw [← hm]
  have HM := Lib.hid hm
  clear hb0 hb1 B0 B1 hown hm
  go_wp2_with fail
  refine (HIX.out _ _ _ _ _ hrl (Nat.le_refl _) (by omega) ?_).mono ?_
  · intro w' s hb' _
    have := atClosure_any w.heap.size x s w' (by have := hb'.size; omega) ((D0.below hb' (by omega)).cell 0)
    rw [← HPx.out]
    exact this
  rintro e w2 ⟨rfl, hb2⟩
  have D2 := D1.below hb2 (by omega)
  have m0 := D2.cell 0
  have m1 := D2.cell 1
  have m2 := D2.cell 2
  have m3 := D2.cell 3
  have g0 := D2.frozen 0
  have g1 := D2.frozen 1
  have g2 := D2.frozen 2
  have g3 := D2.frozen 3
  simp only [List.getElem?_toArray, List.getElem?_cons_zero, List.getElem?_cons_succ] at m0 m1 m2 m3
  have HB := Lib.hid (below_step hb01 hb2)
  clear hb01 hb2 D0 D1 D2
  go_wp2
  refine bodyPost_ret (v := .tuple #[.agg #[.int .i64 0, .slice none 0 0, .slice none 0 0, .bool false], .int .i64 5]) ?_ rfl ⟨rfl, ?_⟩
  · simp only [results, Tryz.results58]
    go_simp
  · iterate 4 refine Below.setCell ?_ (by dsimp only; omega) _
    exact HB.out
set_option maxRecDepth 100000 in
set_option maxHeartbeats 1000000 in
theorem at_ok (A : Option Addr) (n c : Nat) (a : List Int) (x : Int) (i : Nat) (s : Spot) (w : World) (hr : Reads w w.heap.size 1 A n (a.map (.int .u64))) (hnc : n ≤ c) (ha : ∀ x ∈ a, (Lit.int .u64 x).wf = true) (hE : checkE a = 0)
    (hix : atIx a x = i) (hs : (spotsL a)[i]? = some s) :
    Calls Tryz.prog 58 #[.slice A n c, .int .i64 x] w fun e w' => Below w.heap.size w w' ∧ ∃ A1 c1 A2 c2, e = .returned (.tuple #[.agg #[.int .i64 s.t, .slice A1 s.r.toNat c1, .slice A2 s.b.toNat c2, .bool s.f], .int .i64 0]) ∧
      w'.ownsRow w.heap.size 3 1 (.slice A1 s.r.toNat c1) s.r.toNat ((refIx (spotsL a) a s).map (.int .i64)) ∧ w'.ownsRow w.heap.size 45 1 (.slice A2 s.b.toNat c2) s.b.toNat ((bodyOf a s).map (.int .u64)) := by
  have H := Lib.hid (fun w hr => check_ok A n c a w hr hnc ha hE)
  have hm256 := spotsL_length a
  have hix : ixOf (fun s => s.loc == x) (spotsL a) = i := hix
  obtain ⟨h0, _⟩ := checkE_ok.1 hE
  obtain ⟨hlen, hP⟩ := parse_ok h0
  have hok := (parse_mem hP s (List.mem_of_getElem? hs)).1
  have hal : a.length = n := by have := hr.1; simpa using this
  have hn : n ≤ 256 := by omega
  have hil := (List.getElem?_eq_some_iff.1 hs).1
  generalize spotsL a = l at *
  have HOb := Lib.hid (fun b w hr hM => object_any A n c b a l s w hr hnc hn hok ha hM)
  generalize refIx l a s = ix at *
  generalize bodyOf a s = bs at *
  generalize hp : (fun s : Spot => s.loc == x) = p at *
  have HPx := Lib.hid hp
  have HIX := Lib.hid (fun A n c B W hr hB hn HC => indexSpot_any 95 (.pointer (some ⟨w.heap.size, 0, none⟩)) A n c B l p W hr hB hn (plain_of (fn := Tryz.f95) Tryz.func95 (by kernel_rfl) (by kernel_rfl)) HC)
  rw [hix] at HIX
  have HS := Lib.hid hs
  clear hp hE h0 hP hok hal hs hix hlen
  go_enter Tryz.func58, Tryz.ntmps58
  go_wp2_with fail
  have hb0 := (below_new w (.cells #[.int .i64 x] 3)).alloc (by simp) (.cells #[.int .i64 0, .slice none 0 0, .slice none 0 0, .bool false] 113)
  have B0 := (Blk.new w 3 #[.int .i64 x]).alloc (.cells #[.int .i64 0, .slice none 0 0, .slice none 0 0, .bool false] 113)
  have B1 := Blk.new (w.alloc (.cells #[.int .i64 x] 3)) 113 #[.int .i64 0, .slice none 0 0, .slice none 0 0, .bool false]
  simp only [World.size_alloc] at B1
  refine (H.out _ ((hr.below hb0).more hb0.size)).mono ?_
  rintro e w1 ⟨hb1, A', c', b, rfl, hbb, hown, hM⟩
  have D0 := B0.below hb1 (by simp; omega)
  have D1 := B1.below hb1 (by simp)
  have hb01 := below_step hb0 (hb1.mono (by simp))
  have hsz : w.heap.size + 2 ≤ w1.heap.size := by have := hb1.size; simp at this; omega
  have hrl := Reads.of_own hown
  obtain ⟨m, hm⟩ : ∃ m, m = l.length := ⟨_, rfl⟩
  rw [← hm] at hrl hm256 hil
  rw [← hm]
  have HM := Lib.hid hm
  clear hb0 hb1 B0 B1 hown hm
  go_wp2_with fail
  refine (HIX.out _ _ _ _ _ hrl (Nat.le_refl _) (by omega) ?_).mono ?_
  · intro w' s hb' _
    have := atClosure_any w.heap.size x s w' (by have := hb'.size; omega) ((D0.below hb' (by omega)).cell 0)
    rw [← HPx.out]
    exact this
  rintro e w2 ⟨rfl, hb2⟩
  have D2 := D1.below hb2 (by omega)
  have hb02 := below_step hb01 hb2
  obtain ⟨ad, s', rfl, had, hs', c0, c1, c2, c3, c4⟩ := (hrl.below hb2).spot (j := i) (by omega)
  obtain rfl : s' = s := by rw [HS.out] at hs'; exact (Option.some.inj hs').symm
  have HO := Lib.hid (HOb.out b w2 ((hr.below hb02).more hb02.size) (hM.below hb2 hM.lt))
  have hil' : (i : Int) < m := by omega
  have hsz2 : w.heap.size + 2 ≤ w2.heap.size := by have := hb2.size; omega
  clear hs' hb01 hb2 D0 D1 hM
  obtain ⟨loc, r, bd, t, f⟩ := s'
  dsimp only at c0 c1 c2 c3 c4 HO ⊢
  go_wp2_with fail
  refine HO.out.mono ?_
  rintro e w3 ⟨hb3, A1, k1, A2, k2, rfl, hown1, hown2⟩
  have D3 := D2.below hb3 (by omega)
  have m0 := D3.cell 0
  have m1 := D3.cell 1
  have m2 := D3.cell 2
  have m3 := D3.cell 3
  have g0 := D3.frozen 0
  have g1 := D3.frozen 1
  have g2 := D3.frozen 2
  have g3 := D3.frozen 3
  simp only [List.getElem?_toArray, List.getElem?_cons_zero, List.getElem?_cons_succ] at m0 m1 m2 m3
  have HB := Lib.hid (below_step hb02 hb3)
  have HO1 := Lib.hid hown1
  have HO2 := Lib.hid hown2
  clear hb02 hb3 D2 D3 hown1 hown2
  go_wp2
  refine bodyPost_ret (v := .tuple #[.agg #[.int .i64 t, .slice A1 r.toNat k1, .slice A2 bd.toNat k2, .bool f], .int .i64 0]) ?_ rfl ⟨?_, A1, k1, A2, k2, rfl, ?_, ?_⟩
  · simp only [results, Tryz.results58]
    go_simp
  · iterate 4 refine Below.setCell ?_ (by dsimp only; omega) _
    exact HB.out
  · refine own_mono (base' := w2.heap.size) ?_ (by omega)
    iterate 4 refine own_far ?_ (by dsimp only; omega) _
    exact HO1.out
  · refine own_mono (base' := w2.heap.size) ?_ (by omega)
    iterate 4 refine own_far ?_ (by dsimp only; omega) _
    exact HO2.out
end Go.Proofs.YtbmkbnalembbjaaGreatDoor

namespace Go.Proofs.YtbmkbnalembbjaaGreatDoor
open Go.RowKit
theorem fromL_length (r : List Int) (l : List Slot) (p : List Rn) : (fromL r l p).length ≤ r.length + l.length + p.length := by
  unfold fromL
  have h1 := (compact_sublist (sortL ((namedL r ++ openL l) ++ pinsL p))).length_le
  rw [sortL_length, List.length_append, List.length_append] at h1
  have h2 := namedL_length r
  have h3 : (openL l).length ≤ l.length := by unfold openL; rw [List.length_map]; exact List.length_filter_le _ _
  have h4 : (pinsL p).length = p.length := by unfold pinsL; rw [List.length_map]
  omega
def firstE (es : List Int) : Int := (es.find? (· ≠ 0)).getD 0
theorem firstE_eq (a b c d : Int) : firstE [a, b, c, d] = if a ≠ 0 then a else if b ≠ 0 then b else if c ≠ 0 then c else d := by
  unfold firstE
  by_cases h1 : a = 0 <;> by_cases h2 : b = 0 <;> by_cases h3 : c = 0 <;> by_cases h4 : d = 0 <;> simp [h1, h2, h3, h4, List.find?]
theorem at_cases {a : List Int} (h : checkE a = 0) (x : Int) : (atIx a x < 0 ∧ x ∉ begsL (spotsL a)) ∨ ∃ (i : Nat) (s : Spot), atIx a x = i ∧ (spotsL a)[i]? = some s ∧ (x ∈ begsL (spotsL a) ↔ s.f = false) := by
  have hr := spots_rise (checkE_ok.1 h).1
  unfold atIx begsL
  rcases ixOf_cases (fun s : Spot => s.loc == x) (spotsL a) with ⟨h1, h2⟩ | ⟨i, s, h1, h2, h3, _⟩
  · refine .inl ⟨by omega, fun h4 => ?_⟩
    obtain ⟨s, hs, rfl⟩ := List.mem_map.1 h4
    have := h2 s (List.mem_filter.1 hs).1
    simp at this
  · refine .inr ⟨i, s, h1, h2, ?_⟩
    simp only [beq_iff_eq] at h3
    subst h3
    constructor
    · intro h4
      obtain ⟨y, hy, he⟩ := List.mem_map.1 h4
      obtain ⟨hy1, hy2⟩ := List.mem_filter.1 hy
      obtain ⟨j, hj, rfl⟩ := List.mem_iff_getElem.1 hy1
      obtain ⟨hi, rfl⟩ := List.getElem?_eq_some_iff.1 h2
      rcases Nat.lt_trichotomy i j with g | g | g
      · have := List.pairwise_iff_getElem.1 hr i j hi hj g; omega
      · subst g; simpa using hy2
      · have := List.pairwise_iff_getElem.1 hr j i hj hi g; omega
    · intro h4
      exact List.mem_map.2 ⟨s, List.mem_filter.2 ⟨List.mem_of_getElem? h2, by simp [h4]⟩, rfl⟩
def storeE (a r : List Int) (l : List Slot) (p : List Rn) : Int :=
  if firstE [checkE a, rootE r a.length, pinE p, handE l] ≠ 0 then firstE [checkE a, rootE r a.length, pinE p, handE l]
  else if (fromL r l p).all (fun x => decide (x ∈ begsL (spotsL a))) = true then 0 else 5
set_option maxRecDepth 100000 in
set_option maxHeartbeats 2000000 in
theorem storeCheck_any (A : Option Addr) (n c : Nat) (RA : Option Addr) (rn rc : Nat) (PA : Option Addr) (pn pc : Nat) (HA : Option Addr) (hn hc : Nat) (a r : List Int) (p : List Rn) (l : List Slot) (w : World)
    (hra : Reads w w.heap.size 1 A n (a.map (.int .u64))) (hnc : n ≤ c) (ha : ∀ x ∈ a, (Lit.int .u64 x).wf = true)
    (hrr : Reads w w.heap.size 1 RA rn (r.map (.int .i64))) (hrp : Reads w w.heap.size 2 PA pn (runsC p)) (hrl : Reads w w.heap.size 3 HA hn (slotsC l)) (hrn : rn ≤ 9223372036854775807) (hpn : pn ≤ 9223372036854775807) :
    Calls Tryz.prog 23 #[.agg #[.slice A n c, .slice RA rn rc, .slice PA pn pc, .slice HA hn hc]] w fun e w' => e = .returned (.int .i64 (storeE a r l p)) ∧ Below w.heap.size w w' := by
  have hal : a.length = n := by have := hra.1; simpa using this
  have hb0 := below_new w (.cells #[.slice A n c, .slice RA rn rc, .slice PA pn pc, .slice HA hn hc] 28)
  have DS := Blk.new w 28 #[.slice A n c, .slice RA rn rc, .slice PA pn pc, .slice HA hn hc]
  have H1 := Lib.hid (fun w hr => checkFn_any A n c a w hr hnc ha)
  have H2 := Lib.hid (fun w hr => rootCheck_any RA rn rc r (n : Int) w hr hrn)
  have H3 := Lib.hid (fun w hr => pcheck_any PA pn pc p w hr hpn)
  have H4 := Lib.hid (fun w (hr : Reads w w.heap.size 3 HA hn (slotsC l)) => handCheck_any HA hn hc w.heap.size l w hr (Nat.le_refl _))
  have HSE : Hid (storeE a r l p = if firstE [checkE a, rootE r n, pinE p, handE l] ≠ 0 then firstE [checkE a, rootE r n, pinE p, handE l] else if (fromL r l p).all (fun x => decide (x ∈ begsL (spotsL a))) = true then 0 else 5) := by show _ = _; unfold storeE; rw [hal]
  generalize hE1 : checkE a = E1 at *
  generalize hE2 : rootE r n = E2 at *
  generalize hE3 : pinE p = E3 at *
  generalize hE4 : handE l = E4 at *
  have HE1 := Lib.hid hE1
  have HE2 := Lib.hid hE2
  have HE3 := Lib.hid hE3
  have HE4 := Lib.hid hE4
  have HL := Lib.hid hal
  clear hE1 hE2 hE3 hE4 hal
  generalize storeE a r l p = F at *
  go_enter Tryz.func23, Tryz.ntmps23
  go_upto_region 1 with fail
  go_cut [24, 25, 26] from 9 to 54 (fun s24 s25 s26 wc => ∃ g, s24 = .slice (some ⟨g, 0, none⟩) 4 4 ∧ s25 = .int .i64 4 ∧ s26 = .int .i64 0 ∧ Below w.heap.size w wc ∧ Blk wc g 31 #[.int .i64 E1, .int .i64 E2, .int .i64 E3, .int .i64 E4] ∧ Blk wc w.heap.size 28 #[.slice A n c, .slice RA rn rc, .slice PA pn pc, .slice HA hn hc])
  case first =>
    have hb := hb0.drew
    have DS := DS.drew
    obtain ⟨s0, s1, s2, s3⟩ := DS.four
    go_region_held3 (fun w' => w'.cell? ⟨w.heap.size, 0, none⟩ = some (.slice A n c) ∧ w'.cell? ⟨w.heap.size, 1, none⟩ = some (.slice RA rn rc) ∧ w'.cell? ⟨w.heap.size, 2, none⟩ = some (.slice PA pn pc) ∧ w'.cell? ⟨w.heap.size, 3, none⟩ = some (.slice HA hn hc)) (go_keep)
      (first
        | (go_at_call 53; with_reducible refine (H1.out _ ((hra.below hb).more hb.size)).mono ?_; rintro e wA ⟨rfl, hbA⟩; have DS := DS.below hbA DS.lt; obtain ⟨s0, s1, s2, s3⟩ := DS.four; have hb := hb.trans (hbA.mono hb.size))
        | (go_at_call 54; with_reducible refine (H2.out _ ((hrr.below hb).more hb.size)).mono ?_; rintro e wB ⟨rfl, hbB⟩; have DS := DS.below hbB DS.lt; obtain ⟨s0, s1, s2, s3⟩ := DS.four; have hb := hb.trans (hbB.mono hb.size))
        | (go_at_call 55; with_reducible refine (H3.out _ ((hrp.below hb).more hb.size)).mono ?_; rintro e wC ⟨rfl, hbC⟩; have DS := DS.below hbC DS.lt; obtain ⟨s0, s1, s2, s3⟩ := DS.four; have hb := hb.trans (hbC.mono hb.size))
        | (go_at_call 56; with_reducible refine (H4.out _ ((hrl.below hb).more hb.size)).mono ?_; rintro e wD ⟨rfl, hbD⟩; have DS := DS.below hbD DS.lt; obtain ⟨s0, s1, s2, s3⟩ := DS.four; have hb := hb.trans (hbD.mono hb.size)))
    all_goals
      go_wp2_with fail
      go_meet
      exact ⟨_, rfl, rfl, rfl, hb.alloc hb.size _, Blk.new _ _ _, DS.alloc _⟩
  case rest =>
    obtain ⟨g, rfl, rfl, rfl, hb, DE, DS⟩ := hcut
    have hFE := firstE_eq E1 E2 E3 E4
    have k0 := DE.cell 0
    have k1 := DE.cell 1
    have k2 := DE.cell 2
    have k3 := DE.cell 3
    simp only [List.getElem?_toArray, List.getElem?_cons_zero, List.getElem?_cons_succ] at k0 k1 k2 k3
    have HFE := Lib.hid hFE
    have HDS := Lib.hid DS
    have HB := Lib.hid hb
    clear hFE DE DS hb hb0
    go_wp2_with fail
    go_loop [26] (fun i => i = .int .i64 0 ∨ (i = .int .i64 1 ∧ Hid (E1 = 0)) ∨ (i = .int .i64 2 ∧ Hid (E1 = 0 ∧ E2 = 0)) ∨ (i = .int .i64 3 ∧ Hid (E1 = 0 ∧ E2 = 0 ∧ E3 = 0)) ∨ (i = .int .i64 4 ∧ Hid (E1 = 0 ∧ E2 = 0 ∧ E3 = 0 ∧ E4 = 0))) (fun i => 4 - (intOf i).toNat)
    case atStart => exact .inl rfl
    case round =>
      rcases hrel with rfl | ⟨rfl, H0⟩ | ⟨rfl, H0⟩ | ⟨rfl, H0⟩ | ⟨rfl, H0⟩
      · by_cases hz : E1 = 0
        · have HZ : Hid (E1 = 0) := by show _; exact hz
          have hz1 : (E1 != 0) = false := by simp [hz]
          clear hz
          go_wp2_with fail
          go_round
          case rel => exact .inr (.inl ⟨rfl, HZ⟩)
          case measure => simp [intOf]
        · have HR : Hid (F = E1) := by
            show _ = _
            rw [HSE.out, HFE.out]
            simp [hz]
          have hz1 : (E1 != 0) = true := by simp [hz]
          clear hz
          go_wp2_with fail
          go_ret
          exact ⟨by rw [HR.out]; simp, HB.out⟩
      · by_cases hz : E2 = 0
        · have HZ : Hid (E1 = 0 ∧ E2 = 0) := by show _; exact ⟨H0.out, hz⟩
          have hz1 : (E2 != 0) = false := by simp [hz]
          clear hz
          go_wp2_with fail
          go_round
          case rel => exact .inr (.inr (.inl ⟨rfl, HZ⟩))
          case measure => simp [intOf]
        · have HR : Hid (F = E2) := by
            show _ = _
            rw [HSE.out, HFE.out]
            have H1 := H0.out
            simp [hz, H1]
          have hz1 : (E2 != 0) = true := by simp [hz]
          clear hz
          go_wp2_with fail
          go_ret
          exact ⟨by rw [HR.out]; simp, HB.out⟩
      · by_cases hz : E3 = 0
        · have HZ : Hid (E1 = 0 ∧ E2 = 0 ∧ E3 = 0) := by show _; exact ⟨H0.out.1, H0.out.2, hz⟩
          have hz1 : (E3 != 0) = false := by simp [hz]
          clear hz
          go_wp2_with fail
          go_round
          case rel => exact .inr (.inr (.inr (.inl ⟨rfl, HZ⟩)))
          case measure => simp [intOf]
        · have HR : Hid (F = E3) := by
            show _ = _
            rw [HSE.out, HFE.out]
            have H1 := H0.out
            simp [hz, H1]
          have hz1 : (E3 != 0) = true := by simp [hz]
          clear hz
          go_wp2_with fail
          go_ret
          exact ⟨by rw [HR.out]; simp, HB.out⟩
      · by_cases hz : E4 = 0
        · have HZ : Hid (E1 = 0 ∧ E2 = 0 ∧ E3 = 0 ∧ E4 = 0) := by show _; exact ⟨H0.out.1, H0.out.2.1, H0.out.2.2, hz⟩
          have hz1 : (E4 != 0) = false := by simp [hz]
          clear hz
          go_wp2_with fail
          go_round
          case rel => exact .inr (.inr (.inr (.inr ⟨rfl, HZ⟩)))
          case measure => simp [intOf]
        · have HR : Hid (F = E4) := by
            show _ = _
            rw [HSE.out, HFE.out]
            have H1 := H0.out
            simp [hz, H1]
          have hz1 : (E4 != 0) = true := by simp [hz]
          clear hz
          go_wp2_with fail
          go_ret
          exact ⟨by rw [HR.out]; simp, HB.out⟩
      · obtain ⟨rfl, rfl, rfl, rfl⟩ := H0.out
        have hrE := HE2.out
        have hpE := (pinE_ok.1 HE3.out)
        have hhE := (handE_ok.1 HE4.out).1
        have hcE := HE1.out
        have hF : F = if (fromL r l p).all (fun x => decide (x ∈ begsL (spotsL a))) = true then 0 else 5 := by rw [HSE.out, HFE.out]; simp
        have hpn16 : pn ≤ 16 := by have := hrp.1; rw [runsC_length] at this; have := hpE.len; omega
        have hhn16 : hn ≤ 16 := by have := hrl.1; rw [slotsC_length] at this; omega
        have HFr := Lib.hid (fun w hrr hrp hrl => from_any A n c RA rn rc PA pn pc HA hn hc r p l w hrr hrp hrl hpn16 hhn16 hrE)
        have HHF := Lib.hid hF
        have HCE := Lib.hid hcE
        have HAt := Lib.hid (at_cases hcE)
        have HA0 := Lib.hid (fun x w hr (hix : atIx a x < 0) => at_none A n c a x w hr hnc ha hcE hix)
        have HA1 := Lib.hid (fun x i s w hr (hix : atIx a x = (i : Nat)) hs => at_ok A n c a x i s w hr hnc ha hcE hix hs)
        have hLl : (fromL r l p).length ≤ 64 := by
          have g1 := fromL_length r l p
          have g2 := (rootE_ok hrE).2.2.1
          have g3 := hpE.len
          omega
        generalize fromL r l p = L at *
        have hb := HB.out
        have DS := HDS.out
        obtain ⟨s0, s1, s2, s3⟩ := DS.four
        clear hF hcE hrE hpE hhE HSE HFE H1 H2 H3 H4 HE1 HE2 HE3 HE4 H0 k0 k1 k2 k3
        go_wp2_with fail
        refine (HFr.out _ ((hrr.below hb).more hb.size) ((hrp.below hb).more hb.size) ((hrl.below hb).more hb.size)).mono ?_
        rintro e w5 ⟨A5, c5, rfl, hown5, hb5⟩
        have hrL := Reads.of_own hown5
        have DS5 := DS.below hb5 DS.lt
        have hb05 := below_step hb hb5
        obtain ⟨m, hm⟩ : ∃ m, m = L.length := ⟨_, rfl⟩
        rw [← hm] at hrL hLl ⊢
        have HM := Lib.hid hm
        clear hm hown5 DS s0 s1 s2 s3 hb hb5
        go_wp2_with fail
        go_loopw [37] (fun i wr => ∃ j : Nat, j ≤ m ∧ i = .int .i64 j ∧ Hid (∀ x ∈ L.take j, x ∈ begsL (spotsL a)) ∧ Below w5.heap.size w5 wr) (fun i _ => m - (intOf i).toNat)
        case atStart => exact ⟨0, Nat.zero_le _, rfl, by intro x hx; simp at hx, Below.refl _ _⟩
        case round =>
          obtain ⟨j, hj, rfl, HI, hb⟩ := hrel
          have hbr := below_step hb05 hb
          have DSr := DS5.below hb DS5.lt
          obtain ⟨s0, s1, s2, s3⟩ := DSr.four
          by_cases hlt : j < m
          · obtain ⟨ad, x, rfl, had, hx, k0⟩ := (hrL.below hb).num hlt
            have HT : Hid (L.take (j + 1) = L.take j ++ [x]) := by
              show _ = _
              obtain ⟨h1, rfl⟩ := List.getElem?_eq_some_iff.1 hx
              exact List.take_succ_eq_append_getElem h1
            have HX : Hid (x ∈ L) := List.mem_of_getElem? hx
            have HNO : Hid (x ∉ begsL (spotsL a) → F = 5) := fun h => by
              rw [HHF.out, if_neg]
              intro h2
              exact h (of_decide_eq_true (List.all_eq_true.1 h2 x HX.out))
            have hj1 : j + 1 ≤ m := hlt
            have hrW := (hra.below hbr).more hbr.size
            clear hx DS5 DSr
            rcases HAt.out x with ⟨hix, hnb⟩ | ⟨i, sp, hix, hsp, hiff⟩
            · have HN := Lib.hid (HA0.out x _ hrW hix)
              have HR : Hid (F = 5) := HNO.out hnb
              clear hix hnb
              go_wp2_with fail
              refine HN.out.mono ?_
              rintro e w6 ⟨rfl, hb6⟩
              have hb06 := below_step hbr hb6
              go_wp2_with fail
              go_ret
              exact ⟨by rw [HR.out]; simp, hb06.alloc hb06.size _⟩
            · have HN := Lib.hid (HA1.out x i sp _ hrW hix hsp)
              obtain ⟨loc, r0, b0, t0, f0⟩ := sp
              dsimp only at hiff
              have HIF := Lib.hid hiff
              clear hix hsp hiff
              cases f0
              · have HI2 : Hid (∀ y ∈ L.take (j + 1), y ∈ begsL (spotsL a)) := by
                  intro y hy
                  rw [HT.out, List.mem_append] at hy
                  rcases hy with hy | hy
                  · exact HI.out y hy
                  · simp only [List.mem_cons, List.not_mem_nil, or_false] at hy
                    subst hy
                    exact HIF.out.2 rfl
                go_wp2_with fail
                refine HN.out.mono ?_
                rintro e w6 ⟨hb6, A6, c6, A7, c7, rfl, -, -⟩
                have hb7 := hb.trans (hb6.mono hb.size)
                go_wp2_with fail
                go_roundw
                case rel => exact ⟨j + 1, hj1, by go_num, HI2, hb7.alloc hb7.size _⟩
                case measure => simp [intOf]; omega
              · have HR : Hid (F = 5) := HNO.out (fun h => by have := HIF.out.1 h; cases this)
                go_wp2_with fail
                refine HN.out.mono ?_
                rintro e w6 ⟨hb6, A6, c6, A7, c7, rfl, -, -⟩
                have hb06 := below_step hbr hb6
                go_wp2_with fail
                go_ret
                exact ⟨by rw [HR.out]; simp, hb06.alloc hb06.size _⟩
          · have hjm : j = m := by omega
            have e : L.take j = L := List.take_of_length_le (by rw [← HM.out]; omega)
            rw [e] at HI
            have HR : Hid (F = 0) := by
              show _ = _
              rw [HHF.out, if_pos]
              exact List.all_eq_true.2 (fun x hx => decide_eq_true (HI.out x hx))
            clear e
            go_wp2_with fail
            go_ret
            exact ⟨by rw [HR.out]; simp, hbr⟩
end Go.Proofs.YtbmkbnalembbjaaGreatDoor

namespace Go.Proofs.YtbmkbnalembbjaaGreatDoor
open Go.RowKit
theorem rdw_word (r b t : Int) (f : Bool) (h : headE r b t f = 0) : readOk (wordOf r b t f) ∧ rdR (wordOf r b t f) = r ∧ rdB (wordOf r b t f) = b ∧ rdT (wordOf r b t f) = t ∧ rdF (wordOf r b t f) = f ∧ 0 ≤ wordOf r b t f ∧ wordOf r b t f < 18446744073709551616 := by
  obtain ⟨h1, h2, h3, h4, h5, h6, h7, h8⟩ := headE_ok.1 h
  have hF : (if f then 281474976710656 else 0 : Int) = 0 ∧ f = false ∨ (if f then 281474976710656 else 0 : Int) = 281474976710656 ∧ f = true := by cases f <;> simp
  have e1 : rdR (wordOf r b t f) = r := by unfold rdR wordOf; rcases hF with ⟨h, _⟩ | ⟨h, _⟩ <;> rw [h] <;> omega
  have e2 : rdB (wordOf r b t f) = b := by unfold rdB wordOf; rcases hF with ⟨h, _⟩ | ⟨h, _⟩ <;> rw [h] <;> omega
  have e3 : rdT (wordOf r b t f) = t := by unfold rdT wordOf; rcases hF with ⟨h, _⟩ | ⟨h, _⟩ <;> rw [h] <;> omega
  have e4 : rdF (wordOf r b t f) = f := by
    unfold rdF wordOf
    rcases hF with ⟨h, h'⟩ | ⟨h, h'⟩
    · rw [h, h', decide_eq_false]; omega
    · rw [h, h', decide_eq_true]; omega
  have e5 : 0 ≤ wordOf r b t f ∧ wordOf r b t f < 562949953421312 := by unfold wordOf; rcases hF with ⟨h, _⟩ | ⟨h, _⟩ <;> rw [h] <;> omega
  refine ⟨⟨by omega, by rw [e1, e2, e3, e4]; exact h⟩, e1, e2, e3, e4, e5.1, by omega⟩
structure Chk where
  r : Int
  b : Int
  t : Int
  f : Bool
  pay : List Int
def Chk.ok (c : Chk) : Prop := headE c.r c.b c.t c.f = 0 ∧ (c.pay.length : Int) = c.r + c.b
def chkW (c : Chk) : List Int := wordOf c.r c.b c.t c.f :: c.pay
def chunksW (cs : List Chk) : List Int := cs.flatMap chkW
def Chk.spot (i : Nat) (c : Chk) : Spot := ⟨i, c.r, c.b, c.t, c.f⟩
def Chk.len (c : Chk) : Nat := 1 + c.pay.length
def spotsFrom : Nat → List Chk → List Spot
  | _, [] => []
  | i, c :: cs => c.spot i :: spotsFrom (i + c.len) cs
theorem chkW_length (c : Chk) : (chkW c).length = c.len := by simp [chkW, Chk.len]; omega
theorem chunksW_cons (c : Chk) (cs : List Chk) : chunksW (c :: cs) = chkW c ++ chunksW cs := rfl
theorem chunksW_append (cs ds : List Chk) : chunksW (cs ++ ds) = chunksW cs ++ chunksW ds := by simp [chunksW]
theorem Chk.long {c : Chk} (h : c.ok) (i : Nat) : (c.spot i).long = c.len := by
  have := h.2
  simp only [Spot.long, Chk.spot, Chk.len]
  omega
theorem parse_chunks {a : List Int} : ∀ {l : List Spot} {i : Nat}, Parse a i l → ∃ cs : List Chk, (∀ c ∈ cs, c.ok) ∧ a.drop i = chunksW cs ∧ l = spotsFrom i cs := by
  intro l
  induction l with
  | nil =>
    intro i h
    obtain rfl : i = a.length := h
    exact ⟨[], by simp, by simp [chunksW], rfl⟩
  | cons s l ih =>
    rintro i ⟨h1, h2, rfl, h4, h5⟩
    obtain ⟨cs, hok, hd, rfl⟩ := ih h5
    have hE := headE_ok.1 h2.2
    have hl : hlen (a.getD i 0) = 1 + (rdR (a.getD i 0) + rdB (a.getD i 0)).toNat := by unfold hlen; omega
    have hv : a[i] = a.getD i 0 := by rw [List.getD_eq_getElem?_getD, List.getElem?_eq_getElem h1]; rfl
    have hdrop := List.drop_eq_getElem_cons h1
    have hw := readOk_word h2
    rw [hv] at hdrop
    generalize a.getD i 0 = v at *
    have hpl : ((a.drop (i + 1)).take (hlen v - 1)).length = hlen v - 1 := by rw [List.length_take, List.length_drop]; omega
    have hcl : Chk.len ⟨rdR v, rdB v, rdT v, rdF v, (a.drop (i + 1)).take (hlen v - 1)⟩ = hlen v := by
      unfold Chk.len
      rw [hpl]
      omega
    refine ⟨⟨rdR v, rdB v, rdT v, rdF v, (a.drop (i + 1)).take (hlen v - 1)⟩ :: cs, ?_, ?_, ?_⟩
    · intro c hc
      rcases List.mem_cons.1 hc with rfl | hc
      · refine ⟨h2.2, ?_⟩
        dsimp only
        rw [hpl]
        omega
      · exact hok c hc
    · rw [chunksW_cons, chkW]
      dsimp only
      rw [hw, ← hd, hdrop, List.cons_append]
      congr 1
      have h9 := List.take_append_drop (hlen v - 1) (a.drop (i + 1))
      rw [List.drop_drop, show i + 1 + (hlen v - 1) = i + hlen v by omega] at h9
      exact h9.symm
    · simp only [spotsFrom]
      rw [hcl]
      rfl
theorem chunks_parse : ∀ (cs : List Chk) (pre : List Int), (∀ c ∈ cs, c.ok) → Parse (pre ++ chunksW cs) pre.length (spotsFrom pre.length cs) := by
  intro cs
  induction cs with
  | nil => intro pre _; show _ = _; simp [chunksW]
  | cons c cs ih =>
    intro pre hok
    have hc := hok c List.mem_cons_self
    obtain ⟨w1, w2, w3, w4, w5, -⟩ := rdw_word c.r c.b c.t c.f hc.1
    have hg : (pre ++ chunksW (c :: cs)).getD pre.length 0 = wordOf c.r c.b c.t c.f := by
      rw [List.getD_eq_getElem?_getD, chunksW_cons, chkW, List.getElem?_append_right (Nat.le_refl _)]
      simp
    have hE := headE_ok.1 hc.1
    have hh : hlen (wordOf c.r c.b c.t c.f) = c.len := by
      have := hc.2
      unfold hlen Chk.len
      rw [w2, w3]
      omega
    have hL : (pre ++ chunksW (c :: cs)).length = pre.length + c.len + (chunksW cs).length := by rw [chunksW_cons, List.length_append, List.length_append, chkW_length]; omega
    have hpos : 1 ≤ c.len := by unfold Chk.len; omega
    refine ⟨by rw [hL]; omega, by rw [hg]; exact w1, ?_, by rw [hg, hh, hL]; omega, ?_⟩
    · rw [hg]
      simp only [spotOf, Chk.spot]
      rw [w2, w3, w4, w5]
    · rw [hg, hh]
      have := ih (pre ++ chkW c) (fun d hd => hok d (List.mem_cons_of_mem _ hd))
      rw [List.length_append, chkW_length, List.append_assoc] at this
      exact this
theorem chunks_spots {cs : List Chk} (hok : ∀ c ∈ cs, c.ok) (hl : (chunksW cs).length ≤ 256) : spotsE (chunksW cs) = 0 ∧ spotsL (chunksW cs) = spotsFrom 0 cs := by
  have h := spotsAt_parse _ _ _ (chunks_parse cs [] hok)
  simp only [List.nil_append, List.length_nil] at h
  have hn : ¬ 256 < (chunksW cs).length := by omega
  unfold spotsE spotsL
  rw [h, if_neg hn, if_neg hn]
  exact ⟨rfl, rfl⟩
theorem arena_chunks {a : List Int} (h : spotsE a = 0) : ∃ cs : List Chk, (∀ c ∈ cs, c.ok) ∧ a = chunksW cs ∧ spotsL a = spotsFrom 0 cs ∧ a.length ≤ 256 := by
  obtain ⟨h1, h2⟩ := parse_ok h
  obtain ⟨cs, hok, hd, hs⟩ := parse_chunks h2
  exact ⟨cs, hok, by simpa using hd, hs, h1⟩
def starts : Nat → List Chk → List Int
  | _, [] => []
  | i, c :: cs => (if c.f then [] else [(i : Int) + 1]) ++ starts (i + c.len) cs
theorem placeC_some {l : List Spot} {v : Int} : (placeF l v).isSome = true ↔ v = 0 ∨ ∃ s ∈ l, isPlace v s = true := by
  unfold placeF
  by_cases h : v = 0
  · simp [h]
  · rw [if_neg h, Option.isSome_map]
    rw [List.findIdx?_isSome]
    simp [h]
theorem starts_mem {v : Int} : ∀ (cs : List Chk) (i : Nat), (∃ s ∈ spotsFrom i cs, isPlace v s = true) ↔ v ∈ starts i cs := by
  intro cs
  induction cs with
  | nil => intro i; simp [spotsFrom, starts]
  | cons c cs ih =>
    intro i
    simp only [spotsFrom, starts, List.mem_cons, List.mem_append]
    rw [← ih (i + c.len)]
    constructor
    · rintro ⟨s, rfl | hs, hp⟩
      · left
        simp only [isPlace, Chk.spot, Bool.and_eq_true, Bool.not_eq_true', beq_iff_eq] at hp
        rw [hp.1, if_neg (by decide)]
        rw [List.mem_singleton, hp.2]
      · right; exact ⟨s, hs, hp⟩
    · rintro (h | ⟨s, hs, hp⟩)
      · refine ⟨_, .inl rfl, ?_⟩
        cases hf : c.f
        · rw [hf, if_neg (by decide), List.mem_singleton] at h
          simp [isPlace, Chk.spot, hf, h]
        · rw [hf, if_pos rfl] at h
          cases h
      · exact ⟨s, .inr hs, hp⟩
theorem refs_all (P : Int → Bool) : ∀ (cs : List Chk) (pre : List Int), (∀ c ∈ cs, c.ok) → ((spotsFrom pre.length cs).all (fun s => (refsOf (pre ++ chunksW cs) s).all P) = true ↔ ∀ c ∈ cs, ∀ v ∈ c.pay.take c.r.toNat, P v = true) := by
  intro cs
  induction cs with
  | nil => intro pre _; simp [spotsFrom]
  | cons c cs ih =>
    intro pre hok
    have hc := hok c List.mem_cons_self
    have hE := headE_ok.1 hc.1
    have hp := hc.2
    have h1 : refsOf (pre ++ chunksW (c :: cs)) (c.spot pre.length) = c.pay.take c.r.toNat := by
      simp only [refsOf, Chk.spot, Int.toNat_natCast]
      rw [chunksW_cons, chkW, List.drop_append, List.drop_of_length_le (by omega), List.nil_append, show pre.length + 1 - pre.length = 1 by omega, List.cons_append, List.drop_succ_cons, List.drop_zero, List.take_append_of_le_length (by omega)]
    have h2 := ih (pre ++ chkW c) (fun d hd => hok d (List.mem_cons_of_mem _ hd))
    rw [List.length_append, chkW_length, List.append_assoc, ← chunksW_cons] at h2
    simp only [spotsFrom, List.all_cons, Bool.and_eq_true, List.forall_mem_cons]
    rw [h1, h2, List.all_eq_true]
def refsC (cs : List Chk) : Prop := ∀ c ∈ cs, ∀ v ∈ c.pay.take c.r.toNat, v = 0 ∨ v ∈ starts 0 cs
theorem chunks_refs {cs : List Chk} (hok : ∀ c ∈ cs, c.ok) : refsOk (spotsFrom 0 cs) (chunksW cs) = true ↔ refsC cs := by
  have := refs_all (fun v => (placeF (spotsFrom 0 cs) v).isSome) cs [] hok
  simp only [List.length_nil, List.nil_append] at this
  unfold refsOk refsC
  rw [this]
  constructor
  · intro h c hc v hv
    have := placeC_some.1 (h c hc v hv)
    rwa [starts_mem] at this
  · intro h c hc v hv
    have := h c hc v hv
    rw [← starts_mem] at this
    exact placeC_some.2 this
theorem checkE_chunks {cs : List Chk} (hok : ∀ c ∈ cs, c.ok) (hl : (chunksW cs).length ≤ 256) : checkE (chunksW cs) = 0 ↔ refsC cs := by
  obtain ⟨h1, h2⟩ := chunks_spots hok hl
  rw [checkE_ok, h2, chunks_refs hok]
  exact ⟨fun h => h.2, fun h => ⟨h1, h⟩⟩
theorem check_chunks {a : List Int} (h : checkE a = 0) : ∃ cs : List Chk, (∀ c ∈ cs, c.ok) ∧ a = chunksW cs ∧ spotsL a = spotsFrom 0 cs ∧ a.length ≤ 256 ∧ refsC cs := by
  obtain ⟨cs, h1, h2, h3, h4⟩ := arena_chunks (checkE_ok.1 h).1
  subst h2
  exact ⟨cs, h1, rfl, h3, h4, (checkE_chunks h1 h4).1 h⟩
end Go.Proofs.YtbmkbnalembbjaaGreatDoor

namespace Go.Proofs.YtbmkbnalembbjaaGreatDoor
open Go.RowKit
def freeC (p : Nat) : Chk := ⟨0, (p : Int) - 1, 0, true, List.replicate (p - 1) 0⟩
def flushC (p : Nat) : List Chk := if p = 0 then [] else [freeC p]
def joinP : Nat → List Chk → List Chk
  | p, [] => flushC p
  | p, c :: cs => if c.f then joinP (p + c.len) cs else flushC p ++ c :: joinP 0 cs
def flushG (i p : Nat) : List Rn := if p = 0 then [] else [⟨i, p⟩]
def gapsP : Nat → Nat → List Chk → List Rn
  | i, p, [] => flushG (i - p) p
  | i, p, c :: cs => if c.f then gapsP (i + c.len) (p + c.len) cs else flushG (i - p) p ++ gapsP (i + c.len) 0 cs
theorem freeC_len {p : Nat} (h : p ≠ 0) : (freeC p).len = p := by unfold Chk.len freeC; rw [List.length_replicate]; omega
theorem freeC_f (p : Nat) : (freeC p).f = true := rfl
theorem freeC_ok {p : Nat} (h : p ≠ 0) (h2 : p ≤ 256) : (freeC p).ok := by
  refine ⟨headE_ok.2 ?_, ?_⟩
  · unfold freeC; dsimp only; refine ⟨by omega, by omega, by omega, by omega, by omega, by omega, by omega, fun _ => ⟨rfl, rfl⟩⟩
  · unfold freeC; dsimp only; rw [List.length_replicate]; omega
theorem flushC_length (p : Nat) : (chunksW (flushC p)).length = p := by
  unfold flushC
  by_cases h : p = 0
  · rw [if_pos h, h]; rfl
  · rw [if_neg h, chunksW_cons, List.length_append, chkW_length, freeC_len h]; rfl
theorem joinP_length : ∀ (cs : List Chk) (p : Nat), (chunksW (joinP p cs)).length = p + (chunksW cs).length := by
  intro cs
  induction cs with
  | nil => intro p; simp only [joinP]; rw [flushC_length]; rfl
  | cons c cs ih =>
    intro p
    simp only [joinP]
    rw [chunksW_cons, List.length_append, chkW_length]
    split
    · rw [ih]; omega
    · rw [chunksW_append, List.length_append, flushC_length, chunksW_cons, List.length_append, chkW_length, ih]; omega
theorem joinP_mem : ∀ (cs : List Chk) (p : Nat) (d : Chk), d ∈ joinP p cs → (∃ q, q ≠ 0 ∧ q ≤ p + (chunksW cs).length ∧ d = freeC q) ∨ (d ∈ cs ∧ d.f = false) := by
  intro cs
  have hfl : ∀ (p n : Nat) (d : Chk), d ∈ flushC p → ∃ q, q ≠ 0 ∧ q ≤ p + n ∧ d = freeC q := by
    intro p n d h
    unfold flushC at h
    split at h
    · cases h
    · rename_i h0; exact ⟨p, h0, by omega, List.mem_singleton.1 h⟩
  induction cs with
  | nil => intro p d h; exact .inl (hfl p _ d h)
  | cons c cs ih =>
    intro p d h
    simp only [joinP] at h
    rw [chunksW_cons, List.length_append, chkW_length]
    split at h
    · rcases ih _ d h with ⟨q, h1, h2, h3⟩ | ⟨h1, h2⟩
      · exact .inl ⟨q, h1, by omega, h3⟩
      · exact .inr ⟨List.mem_cons_of_mem _ h1, h2⟩
    · rename_i hf
      rcases List.mem_append.1 h with h | h
      · exact .inl (hfl p _ d h)
      · rcases List.mem_cons.1 h with rfl | h
        · exact .inr ⟨List.mem_cons_self, by simpa using hf⟩
        · rcases ih _ d h with ⟨q, h1, h2, h3⟩ | ⟨h1, h2⟩
          · exact .inl ⟨q, h1, by omega, h3⟩
          · exact .inr ⟨List.mem_cons_of_mem _ h1, h2⟩
theorem gapsA_chunks : ∀ (cs : List Chk) (i p : Nat) (acc : List Rn), p ≤ i → (∀ c ∈ cs, c.ok) → gapsA (acc ++ flushG (i - p) p) (decide (0 < p)) (spotsFrom i cs) = acc ++ gapsP i p cs := by
  intro cs
  induction cs with
  | nil => intro i p acc _ _; simp only [spotsFrom, gapsA, gapsP]
  | cons c cs ih =>
    intro i p acc hp hok
    have hc := hok c List.mem_cons_self
    have hok' : ∀ d ∈ cs, d.ok := fun d hd => hok d (List.mem_cons_of_mem _ hd)
    have hpos : 1 ≤ c.len := by unfold Chk.len; omega
    simp only [spotsFrom, gapsA, gapsP]
    rw [Chk.long hc]
    have hsf : (c.spot i).f = c.f := rfl
    have hsl : (c.spot i).loc = i := rfl
    rw [hsf, hsl]
    cases hf : c.f
    · rw [if_pos rfl, if_neg (by decide)]
      have := ih (i + c.len) 0 (acc ++ flushG (i - p) p) (by omega) hok'
      rw [List.append_assoc] at this
      simpa [flushG] using this
    · rw [if_neg (by decide), if_pos rfl]
      have := ih (i + c.len) (p + c.len) acc (by omega) hok'
      rw [show i + c.len - (p + c.len) = i - p by omega] at this
      rw [decide_eq_true (by omega)] at this
      rw [← this]
      by_cases h0 : p = 0
      · rw [if_neg (by simp [h0])]
        subst h0
        have e1 : flushG (i - 0) 0 = [] := rfl
        have e2 : flushG (i - 0) (0 + c.len) = [⟨i, c.len⟩] := by unfold flushG; rw [if_neg (by omega)]; simp
        rw [e1, e2, List.append_nil]
      · rw [if_pos (by simp; omega)]
        simp only [flushG]
        rw [if_neg h0, if_neg (by omega), bump_snoc]
        congr 3
theorem gapsL_chunks {cs : List Chk} (hok : ∀ c ∈ cs, c.ok) : gapsL (spotsFrom 0 cs) = gapsP 0 0 cs := by
  have := gapsA_chunks cs 0 0 [] (by omega) hok
  simpa [flushG, gapsL] using this
theorem gapsP_mem : ∀ (cs : List Chk) (i p : Nat), p ≤ i → ∀ r ∈ gapsP i p cs, ∃ a n : Nat, r = ⟨a, n⟩ ∧ 1 ≤ n ∧ i - p ≤ a ∧ a + n ≤ i + (chunksW cs).length := by
  intro cs
  have hfl : ∀ (i p m : Nat), p ≤ i → ∀ r ∈ flushG (i - p) p, ∃ a n : Nat, r = ⟨a, n⟩ ∧ 1 ≤ n ∧ i - p ≤ a ∧ a + n ≤ i + m := by
    intro i p m hp r h
    unfold flushG at h
    split at h
    · cases h
    · exact ⟨i - p, p, List.mem_singleton.1 h, by omega, by omega, by omega⟩
  induction cs with
  | nil => intro i p hp r h; exact hfl i p _ hp r h
  | cons c cs ih =>
    intro i p hp r h
    simp only [gapsP] at h
    rw [chunksW_cons, List.length_append, chkW_length]
    split at h
    · obtain ⟨a, n, h1, h2, h3, h4⟩ := ih _ _ (by omega) r h
      exact ⟨a, n, h1, h2, by omega, by omega⟩
    · rcases List.mem_append.1 h with h | h
      · exact hfl i p _ hp r h
      · obtain ⟨a, n, h1, h2, h3, h4⟩ := ih _ _ (by omega) r h
        exact ⟨a, n, h1, h2, by omega, by omega⟩
def layL (a : List Int) (i n : Nat) : List Int := if n = 0 then a else (fillL a i n 0).set i (wordOf 0 ((n : Int) - 1) 0 true)
theorem layL_length (a : List Int) (i n : Nat) (h : i + n ≤ a.length) : (layL a i n).length = a.length := by
  unfold layL
  split
  · rfl
  · rw [List.length_set, fillL_length _ _ _ _ h]
theorem layL_mid (pre X post : List Int) : layL (pre ++ X ++ post) pre.length X.length = pre ++ chunksW (flushC X.length) ++ post := by
  unfold layL flushC
  by_cases h : X.length = 0
  · rw [if_pos h, if_pos h, List.eq_nil_of_length_eq_zero h]; simp [chunksW]
  · rw [if_neg h, if_neg h]
    unfold fillL
    rw [show (pre ++ X ++ post).take pre.length = pre by rw [List.append_assoc]; simp, show (pre ++ X ++ post).drop (pre.length + X.length) = post by rw [show pre.length + X.length = (pre ++ X).length by simp, List.drop_left]]
    rw [List.append_assoc, List.set_append_right _ _ (Nat.le_refl _), Nat.sub_self]
    obtain ⟨m, hm⟩ : ∃ m, X.length = m + 1 := ⟨X.length - 1, by omega⟩
    rw [hm, List.replicate_succ, List.cons_append, List.set_cons_zero, List.append_assoc]
    simp [chunksW, chkW, freeC]
theorem layL_out {a : List Int} {i n k : Nat} (h : i + n ≤ a.length) (hk : k < i ∨ i + n ≤ k) : (layL a i n)[k]? = a[k]? := by
  unfold layL
  split
  · rfl
  · rw [List.getElem?_set_ne (by omega)]
    unfold fillL
    rcases hk with hk | hk
    · rw [List.append_assoc, List.getElem?_append_left (by rw [List.length_take]; omega), List.getElem?_take, if_pos hk]
    · rw [List.getElem?_append_right (by rw [List.length_append, List.length_take, List.length_replicate]; omega), List.length_append, List.length_take, List.length_replicate, Nat.min_eq_left (by omega), List.getElem?_drop]
      congr 1
      omega
def joinL (a : List Int) (l : List Rn) : List Int := l.foldl (fun a r => layL a r.loc.toNat r.len.toNat) a
theorem joinL_append (a : List Int) (l m : List Rn) : joinL a (l ++ m) = joinL (joinL a l) m := List.foldl_append
theorem joinL_flush (pre X post : List Int) : joinL (pre ++ X ++ post) (flushG pre.length X.length) = pre ++ chunksW (flushC X.length) ++ post := by
  rw [← layL_mid]
  unfold flushG joinL
  by_cases h : X.length = 0
  · rw [if_pos h]; unfold layL; rw [if_pos h]; rfl
  · rw [if_neg h]; simp
theorem joinL_chunks : ∀ (cs : List Chk) (pre X : List Int), joinL (pre ++ X ++ chunksW cs) (gapsP (pre.length + X.length) X.length cs) = pre ++ chunksW (joinP X.length cs) := by
  intro cs
  induction cs with
  | nil =>
    intro pre X
    simp only [gapsP, joinP]
    rw [Nat.add_sub_cancel, joinL_flush]
    simp [chunksW]
  | cons c cs ih =>
    intro pre X
    simp only [gapsP, joinP]
    cases hf : c.f
    · rw [if_neg (by decide), if_neg (by decide), joinL_append, Nat.add_sub_cancel, joinL_flush]
      have := ih (pre ++ chunksW (flushC X.length) ++ chkW c) []
      rw [List.length_append, List.length_append, flushC_length, chkW_length] at this
      simp only [List.append_nil, List.length_nil, Nat.add_zero, List.append_assoc] at this
      rw [chunksW_append, chunksW_cons, chunksW_cons, List.append_assoc]
      exact this
    · rw [if_pos rfl, if_pos rfl]
      have := ih pre (X ++ chkW c)
      rw [List.length_append, chkW_length, ← Nat.add_assoc] at this
      rw [← this, chunksW_cons]
      simp
theorem joinL_out {k : Nat} : ∀ (l : List Rn) (a : List Int), (∀ r ∈ l, ∃ i n : Nat, r = ⟨i, n⟩ ∧ i + n ≤ a.length) → (joinL a l)[k]? = a[k]? ∨ ∃ r ∈ l, r.loc ≤ (k : Int) ∧ (k : Int) - r.loc < r.len := by
  intro l
  induction l with
  | nil => intro a _; exact .inl rfl
  | cons r l ih =>
    intro a h
    obtain ⟨i, n, rfl, hin⟩ := h r List.mem_cons_self
    have hl := layL_length a i n hin
    by_cases hk : k < i ∨ i + n ≤ k
    · rcases ih (layL a i n) (fun s hs => by rw [hl]; exact h s (List.mem_cons_of_mem _ hs)) with h1 | ⟨s, hs, h2⟩
      · left
        rw [← layL_out hin hk]
        exact h1
      · exact .inr ⟨s, List.mem_cons_of_mem _ hs, h2⟩
    · exact .inr ⟨⟨i, n⟩, List.mem_cons_self, by dsimp only; omega, by dsimp only; omega⟩
theorem gapsP_join : ∀ (cs : List Chk) (i p : Nat), p ≤ i → gapsP (i - p) 0 (joinP p cs) = gapsP i p cs := by
  intro cs
  have key : ∀ (i p : Nat) (R : List Chk), p ≤ i → (R = [] ∨ ∃ c T, R = c :: T ∧ c.f = false) → gapsP (i - p) 0 (flushC p ++ R) = gapsP i p R := by
    intro i p R hp hR
    unfold flushC
    by_cases h0 : p = 0
    · rw [if_pos h0, h0]; rfl
    · rw [if_neg h0]
      simp only [List.cons_append, List.nil_append, gapsP]
      rw [if_pos (freeC_f p), freeC_len h0, show i - p + p = i by omega, Nat.zero_add]
  induction cs with
  | nil => intro i p hp; simp only [joinP]; have := key i p [] hp (.inl rfl); rwa [List.append_nil] at this
  | cons c cs ih =>
    intro i p hp
    simp only [joinP]
    cases hf : c.f
    · rw [if_neg (by decide), key i p _ hp (.inr ⟨c, _, rfl, hf⟩)]
      simp only [gapsP]
      rw [hf, if_neg (by decide), if_neg (by decide)]
      have := ih (i + c.len) 0 (by omega)
      rw [Nat.sub_zero] at this
      rw [this]
    · rw [if_pos rfl]
      simp only [gapsP]
      rw [hf, if_pos rfl, ← ih (i + c.len) (p + c.len) (by omega)]
      congr 1
      omega
theorem joinP_join : ∀ (cs : List Chk) (p : Nat), joinP 0 (joinP p cs) = joinP p cs := by
  intro cs
  induction cs with
  | nil =>
    intro p
    simp only [joinP]
    unfold flushC
    by_cases h0 : p = 0
    · rw [if_pos h0]; rfl
    · rw [if_neg h0]
      simp only [joinP]
      rw [if_pos (freeC_f p), freeC_len h0, Nat.zero_add]
      unfold flushC
      rw [if_neg h0]
  | cons c cs ih =>
    intro p
    simp only [joinP]
    cases hf : c.f
    · rw [if_neg (by decide)]
      unfold flushC
      by_cases h0 : p = 0
      · rw [if_pos h0]
        simp only [List.nil_append, joinP]
        rw [hf, if_neg (by decide), ih]
        rfl
      · rw [if_neg h0]
        simp only [List.cons_append, List.nil_append, joinP]
        rw [if_pos (freeC_f p), freeC_len h0, Nat.zero_add, hf, if_neg (by decide), ih]
        unfold flushC
        rw [if_neg h0]
        rfl
    · rw [if_pos rfl]
      exact ih _
theorem starts_join : ∀ (cs : List Chk) (i p : Nat), p ≤ i → starts (i - p) (joinP p cs) = starts i cs := by
  intro cs
  have key : ∀ (i p : Nat) (R : List Chk), p ≤ i → starts (i - p) (flushC p ++ R) = starts i R := by
    intro i p R hp
    unfold flushC
    by_cases h0 : p = 0
    · rw [if_pos h0, h0]; rfl
    · rw [if_neg h0]
      simp only [List.cons_append, List.nil_append, starts]
      rw [freeC_len h0, show i - p + p = i by omega]
      rfl
  induction cs with
  | nil => intro i p hp; simp only [joinP]; have := key i p [] hp; rwa [List.append_nil] at this
  | cons c cs ih =>
    intro i p hp
    simp only [joinP]
    cases hf : c.f
    · rw [if_neg (by decide), key i p _ hp]
      simp only [starts]
      have := ih (i + c.len) 0 (by omega)
      rw [Nat.sub_zero] at this
      rw [this]
    · rw [if_pos rfl]
      simp only [starts]
      rw [hf, if_pos rfl, List.nil_append, ← ih (i + c.len) (p + c.len) (by omega)]
      congr 1
      omega
theorem free_join : ∀ (cs : List Chk) (i p j : Nat), ((spotsFrom j (joinP p cs)).filter (·.f)).length = (gapsP i p cs).length := by
  intro cs
  have key : ∀ (i p j : Nat) (R : List Chk), ((spotsFrom j (flushC p ++ R)).filter (·.f)).length = (flushG i p).length + ((spotsFrom (j + p) R).filter (·.f)).length := by
    intro i p j R
    unfold flushC flushG
    by_cases h0 : p = 0
    · rw [if_pos h0, if_pos h0, h0]; simp
    · rw [if_neg h0, if_neg h0]
      simp only [List.cons_append, List.nil_append, spotsFrom]
      rw [freeC_len h0, List.filter_cons, if_pos (by rfl)]
      simp only [List.length_cons, List.length_nil]
      omega
  induction cs with
  | nil => intro i p j; simp only [joinP, gapsP]; have := key (i - p) p j []; rw [List.append_nil] at this; rw [this]; rfl
  | cons c cs ih =>
    intro i p j
    simp only [joinP, gapsP]
    cases hf : c.f
    · rw [if_neg (by decide), if_neg (by decide), key (i - p) p j, List.length_append]
      simp only [spotsFrom]
      rw [List.filter_cons, if_neg (by simp [Chk.spot, hf]), ih (i + c.len) 0]
    · rw [if_pos rfl, if_pos rfl]
      exact ih _ _ _
theorem joinP_ok {cs : List Chk} (hok : ∀ c ∈ cs, c.ok) (hl : (chunksW cs).length ≤ 256) : ∀ d ∈ joinP 0 cs, d.ok := by
  intro d hd
  rcases joinP_mem cs 0 d hd with ⟨q, h1, h2, rfl⟩ | ⟨h1, -⟩
  · exact freeC_ok h1 (by omega)
  · exact hok d h1
theorem refsC_join {cs : List Chk} (h : refsC cs) : refsC (joinP 0 cs) := by
  intro d hd v hv
  have hs := starts_join cs 0 0 (by omega)
  rw [Nat.sub_zero] at hs
  rw [hs]
  rcases joinP_mem cs 0 d hd with ⟨q, h1, h2, rfl⟩ | ⟨h1, -⟩
  · simp [freeC] at hv
  · exact h d h1 v hv
structure JoinOk (a b : List Int) (l : List Rn) : Prop where
  len : b.length = a.length
  check : checkE b = 0
  gaps : gapsL (spotsL b) = l
  again : joinL b l = b
  free : ((spotsL b).filter (·.f)).length = l.length
  out : ∀ k : Nat, b[k]? = a[k]? ∨ ∃ r ∈ l, r.loc ≤ (k : Int) ∧ (k : Int) - r.loc < r.len
  runs : ∀ r ∈ l, ∃ i n : Nat, r = ⟨i, n⟩ ∧ 1 ≤ n ∧ i + n ≤ a.length
theorem join_ok {a : List Int} (h : checkE a = 0) : JoinOk a (joinL a (gapsL (spotsL a))) (gapsL (spotsL a)) := by
  obtain ⟨cs, hok, rfl, hs, hl, hr⟩ := check_chunks h
  have hg : gapsL (spotsL (chunksW cs)) = gapsP 0 0 cs := by rw [hs, gapsL_chunks hok]
  rw [hg]
  have hj := joinL_chunks cs [] []
  simp only [List.nil_append, List.length_nil, Nat.add_zero] at hj
  have hok2 := joinP_ok hok hl
  have hlen := joinP_length cs 0
  rw [Nat.zero_add] at hlen
  have hm := gapsP_mem cs 0 0 (by omega)
  have hm' : ∀ r ∈ gapsP 0 0 cs, ∃ i n : Nat, r = ⟨i, n⟩ ∧ 1 ≤ n ∧ i + n ≤ (chunksW cs).length := fun r hr => by
    obtain ⟨i, n, h1, h2, h3, h4⟩ := hm r hr
    exact ⟨i, n, h1, h2, by omega⟩
  obtain ⟨hs1, hs2⟩ := chunks_spots hok2 (by omega)
  have hg2 := gapsP_join cs 0 0 (by omega)
  rw [Nat.sub_zero] at hg2
  refine ⟨by rw [hj, hlen], by rw [hj, checkE_chunks hok2 (by omega)]; exact refsC_join hr, by rw [hj, hs2, gapsL_chunks hok2, hg2], ?_, ?_, fun k => ?_, hm'⟩
  · have hj2 := joinL_chunks (joinP 0 cs) [] []
    simp only [List.nil_append, List.length_nil, Nat.add_zero] at hj2
    rw [hg2, joinP_join] at hj2
    rw [hj, hj2]
  · rw [hj, hs2, free_join cs 0 0 0]
  · exact joinL_out _ _ (fun r hr => by
      obtain ⟨i, n, h1, h2, h3⟩ := hm' r hr
      exact ⟨i, n, h1, h3⟩)
end Go.Proofs.YtbmkbnalembbjaaGreatDoor
