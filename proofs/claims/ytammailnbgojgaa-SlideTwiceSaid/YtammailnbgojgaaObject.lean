/-
  package walk: object.
-/
import Derived.Test.YtammailnbgojgaaCheck
import Derived.Test.YtammailnbgojgaaWord
import Derived.Test.YtammailnbgojgaaBase2
namespace Go.Proofs.Ytammailnbgojgaa
open Go.RowKit

/-- The numbers of the objects that an object's references name. -/
def refIx (l : List Spot) (a : List Int) (s : Spot) : List Int := (refsOf a s).map fun v => (placeF l v).getD 0

theorem placeV_getD (l : List Spot) (v : Int) : (placeV l v).getD (.int .i64 0) = .int .i64 ((placeF l v).getD 0) := by
  unfold placeV
  cases placeF l v <;> rfl

set_option maxRecDepth 100000 in
set_option maxHeartbeats 1000000 in
theorem object_any (A : Option Addr) (n c b : Nat) (a : List Int) (l : List Spot) (s : Spot) (w : World) (hr : Reads w w.heap.size 1 A n (a.map (.int .u64))) (hc : n ≤ c) (hn : n ≤ 256) (hs : SpotOk a s)
    (ha : ∀ x ∈ a, (Lit.int .u64 x).wf = true) (hM : MapIs w Try.prog 42 .u64 b 300 (placeV l)) :
    Calls Try.prog 58 #[.slice A n c, .agg #[.int .i64 s.loc, .int .i64 s.r, .int .i64 s.b, .int .i64 s.t, .bool s.f], .map (some b)] w fun e w' => Below w.heap.size w w' ∧ ∃ A1 c1 A2 c2,
      e = .returned (.agg #[.int .i64 s.t, .slice A1 s.r.toNat c1, .slice A2 s.b.toNat c2, .bool s.f]) ∧ w'.ownsRow w.heap.size 3 1 (.slice A1 s.r.toNat c1) s.r.toNat ((refIx l a s).map (.int .i64)) ∧
      w'.ownsRow w.heap.size 42 1 (.slice A2 s.b.toNat c2) s.b.toNat ((bodyOf a s).map (.int .u64)) := by
  have hal : a.length = n := by have := hr.1; simpa using this
  have HR := Lib.hid (fun w B hr hB => refs_any A n c B a s w hr hB hc hn hs)
  have HF := Lib.hid (refsOf_length hs)
  have HG := Lib.hid (bodyOf_length hs)
  have HI : Hid (refIx l a s = (refsOf a s).map fun v => (placeF l v).getD 0) := rfl
  have l0 := hs.loc0
  have r0 := hs.r0
  have b0 := hs.b0
  have ft := hs.fits
  have HB : Hid (bodyOf a s = (a.drop (s.loc.toNat + 1 + s.r.toNat)).take s.b.toNat) := rfl
  unfold Spot.long at ft
  have hblt := hM.lt
  have HSub : Hid (∀ v ∈ refsOf a s, v ∈ a) := fun v hv => by
    unfold refsOf at hv
    exact List.mem_of_mem_drop (List.mem_of_mem_take hv)
  clear hs
  generalize refsOf a s = rs at *
  generalize bodyOf a s = bs at *
  generalize refIx l a s = ix at *
  obtain ⟨loc, r, bd, t, f⟩ := s
  dsimp only at *
  obtain ⟨i, rfl⟩ := Int.eq_ofNat_of_zero_le l0
  obtain ⟨q, rfl⟩ := Int.eq_ofNat_of_zero_le r0
  obtain ⟨k, rfl⟩ := Int.eq_ofNat_of_zero_le b0
  simp only [Int.toNat_natCast] at *
  rw [hal] at ft
  have HL := Lib.hid hal
  clear hal l0 r0 b0
  obtain ⟨i0, hi, hz0, hz1, hz2⟩ := info_parts (show (Try.prog.info? 3).map (fun i => (i.zero, i.size, i.bytes)) = some (some (.int .i64 0), 1, 8) by kernel_rfl)
  go_enter Try.func58, Try.ntmps58
  go_wp2_with fail
  have hbw := ((below_new w (.cells #[.int .i64 i, .int .i64 q, .int .i64 k, .int .i64 t, .bool f] 101)).alloc (by simp) (.cells #[.int .i64 0, .slice none 0 0, .slice none 0 0, .bool false] 63)).alloc (by simp; omega) (.cells #[.int .i64 t, .slice none 0 0, .slice none 0 0, .bool f] 63)
  have B0 := ((Blk.new w 101 #[.int .i64 i, .int .i64 q, .int .i64 k, .int .i64 t, .bool f]).alloc (.cells #[.int .i64 0, .slice none 0 0, .slice none 0 0, .bool false] 63)).alloc (.cells #[.int .i64 t, .slice none 0 0, .slice none 0 0, .bool f] 63)
  have B1 := (Blk.new (w.alloc (.cells #[.int .i64 i, .int .i64 q, .int .i64 k, .int .i64 t, .bool f] 101)) 63 #[.int .i64 0, .slice none 0 0, .slice none 0 0, .bool false]).alloc (.cells #[.int .i64 t, .slice none 0 0, .slice none 0 0, .bool f] 63)
  have B2 := Blk.new ((w.alloc (.cells #[.int .i64 i, .int .i64 q, .int .i64 k, .int .i64 t, .bool f] 101)).alloc (.cells #[.int .i64 0, .slice none 0 0, .slice none 0 0, .bool false] 63)) 63 #[.int .i64 t, .slice none 0 0, .slice none 0 0, .bool f]
  simp only [World.size_alloc] at B1 B2
  refine (HR.out _ w.heap.size (hr.below hbw) (by simp; omega)).mono ?_
  rintro e w3 ⟨hb3, A3, c3, rfl, hc3, hrr⟩
  have hbw3 := hbw.trans (hb3.mono (by simp; omega))
  have hM3 := hM.below hbw3 hblt
  have C0 := B0.below hb3 (by simp; omega)
  have C1 := B1.below hb3 (by simp)
  have C2 := B2.below hb3 (by simp)
  clear B0 B1 B2
  have hsz : w.heap.size + 3 ≤ w3.heap.size := by have := hb3.size; simp at this; omega
  have hrrw : Reads w w.heap.size 1 A3 q (rs.map (.int .u64)) := hrr.keep fun p hp => (hbw3.cell hp).symm
  clear hb3 hbw hM3 hrr
  go_wp2
  go_loopw [9, 22] (fun _ x wr => ∃ (p : Nat) (A1 : Option Addr) (c1 : Nat), p ≤ q ∧ x = .int .i64 p ∧ Below w.heap.size w wr ∧ w.heap.size + 3 ≤ wr.heap.size ∧ Blk wr w.heap.size 101 #[.int .i64 i, .int .i64 q, .int .i64 k, .int .i64 t, .bool f] ∧ Blk wr (w.heap.size + 1) 63 #[.int .i64 0, .slice none 0 0, .slice none 0 0, .bool false] ∧
    Blk wr (w.heap.size + 1 + 1) 63 #[.int .i64 t, .slice A1 p c1, .slice none 0 0, .bool f] ∧ wr.ownsRow (w.heap.size + 3) 3 1 (.slice A1 p c1) p ((ix.take p).map (.int .i64))) (fun _ x _ => q - (intOf x).toNat)
  case atStart => exact ⟨0, none, 0, Nat.zero_le _, rfl, hbw3, hsz, C0, C1, C2, by simpa using World.ownsRow_nil _ _ _ _⟩
  case round =>
    clear C0 C1 C2 hsz
    obtain ⟨p, A1, c1, hp, rfl, hb, hsz, B0, B1, B2, hown⟩ := hrel
    by_cases hlt : p < q
    · obtain ⟨ad3, v, rfl, had3, hv, hcv⟩ := (hrrw.below hb).num hlt
      have hvw := ha v (HSub.out v (List.mem_of_getElem? hv))
      have hlook := (hM.below hb hblt).look Try.underlying42 Try.underlying78 (zero_int _) hvw
      rw [placeV_getD] at hlook
      have HT : Hid (ix.take (p + 1) = ix.take p ++ [(placeF l v).getD 0]) := by
        show _ = _
        obtain ⟨h1, rfl⟩ := List.getElem?_eq_some_iff.1 hv
        rw [HI.out, ← List.map_take, ← List.map_take, List.take_succ_eq_append_getElem h1, List.map_append]
        rfl
      generalize (placeF l v).getD 0 = z at *
      clear hv hvw
      have k1 := B2.cell 1
      simp only [List.getElem?_toArray, List.getElem?_cons_zero, List.getElem?_cons_succ] at k1
      have hown2 := hown.alloc (.cells #[.int .i64 z] 3)
      have B0' := B0.alloc (.cells #[.int .i64 z] 3)
      have B1' := B1.alloc (.cells #[.int .i64 z] 3)
      have B2' := B2.alloc (.cells #[.int .i64 z] 3)
      have hb2 := hb.alloc hb.size (.cells #[.int .i64 z] 3)
      have hnew := reads_new wr [.int .i64 z] 3 1 1 rfl
      have hge : ∀ g, (Value.slice A1 p c1).ownBlock = some g → w.heap.size + 3 ≤ g := fun g hg => own_ge hown hg
      have HGe := Lib.hid hge
      clear hown B0 B1 B2 hb hge
      go_wp2_with (at_builtin; refine wpList_append_any _ rfl (.tmp 27) (.tmp 31) 23 rfl (w.heap.size + 3) 3 i0 (.int .i64 0) 1 8 Try.underlying23 hi hz0 hz1 hz2 rfl (by decide) (.slice A1 p c1) p _ rfl hown2 (wr.heap.size + 1) (some ⟨wr.heap.size, 0, none⟩) 1 1 [.int .i64 z] rfl hnew (by simp [Value.oneCell']) (by simp [maxLen]; omega) (by omega) (by have := hsz; simp; omega) ?_; rintro v' w5 hown5 hgr hbl -; obtain ⟨A5, c5, rfl⟩ := own_slice hown5; have B0'' := B0'.grown hgr (fun e => by have := HGe.out _ e.symm; omega); have B1'' := B1'.grown hgr (fun e => by have := HGe.out _ e.symm; omega); have B2'' := B2'.grown hgr (fun e => by have := HGe.out _ e.symm; omega); have k2 := B2''.cell 1; simp only [List.getElem?_toArray, List.getElem?_cons_zero, List.getElem?_cons_succ] at k2; have f2 := B2''.frozen 1)
      have hb3 := hb2.grown hgr hb2.size (fun g hg => by have := HGe.out g hg; omega)
      have hsz5 := hgr.size
      simp only [World.size_alloc] at hsz5
      go_roundw
      case rel => exact ⟨p + 1, A5, c5, by omega, by go_num, hb3.setCell (p := ⟨w.heap.size + 1 + 1, 1, none⟩) (by simp; omega) _, by simp [World.setCell]; omega, B0''.far (p := ⟨w.heap.size + 1 + 1, 1, none⟩) (by simp; omega) _, B1''.far (p := ⟨w.heap.size + 1 + 1, 1, none⟩) (by simp) _,
        B2''.set_ 1 _, by rw [HT.out, List.map_append]; exact own_far hown5 (p := ⟨w.heap.size + 1 + 1, 1, none⟩) (by simp) _⟩
      case measure => simp [intOf]; omega
    · have hpq : p = q := by omega
      subst hpq
      have ht : ix.take p = ix := List.take_of_length_le (by rw [HI.out, List.length_map, HF.out]; exact Nat.le_refl _)
      rw [ht] at hown
      have hrb := (hr.below hb).sub (lo := i + 1 + p) (hi := i + 1 + p + k) (by omega) (by omega) hc
      rw [← List.map_drop, ← List.map_take, show i + 1 + p + k - (i + 1 + p) = k by omega, ← HB.out] at hrb
      have HCl := Lib.hid (fun c' => clone_u64 _ k c' w.heap.size (bs.map (.int .u64)) wr hrb (by omega) (u64s_one _) (by omega))
      have k0 := B0.cell 0
      have k1 := B0.cell 1
      have k2 := B0.cell 2
      simp only [List.getElem?_toArray, List.getElem?_cons_zero, List.getElem?_cons_succ] at k0 k1 k2
      have hpos : 0 < n := by omega
      obtain ⟨ad, rfl, had, -⟩ := hr.2 hpos
      clear ht hrb
      by_cases hci : c = i + 1 + p
      · have HCl := HCl.out
        rw [if_pos hci] at HCl
        have HCl := Lib.hid HCl
        go_wp2_with fail
        refine (HCl.out _).mono ?_
        rintro e w7 ⟨A7, c7, rfl, hown7, hb7⟩
        have D1 := Blk.below (B := wr.heap.size) B1 hb7 (by omega)
        have D2 := Blk.below (B := wr.heap.size) B2 hb7 (by omega)
        have hown8 := own_below hown hb7
        have hb07 := hb.trans (hb7.mono hb.size)
        have m0 := D2.cell 0
        have m1 := D2.cell 1
        have m2 := D2.cell 2
        have m3 := D2.cell 3
        have f2 := D2.frozen 2
        have n0 := D1.cell 0
        have n1 := D1.cell 1
        have n2 := D1.cell 2
        have n3 := D1.cell 3
        have g0 := D1.frozen 0
        have g1 := D1.frozen 1
        have g2 := D1.frozen 2
        have g3 := D1.frozen 3
        simp only [List.getElem?_toArray, List.getElem?_cons_zero, List.getElem?_cons_succ] at m0 m1 m2 m3 n0 n1 n2 n3
        have HO1 := Lib.hid hown8
        have HO2 := Lib.hid hown7
        have HB7 := Lib.hid hb07
        clear hown hown7 hown8 hb07 hb7 D1 D2 B0 B1 B2 k0 k1 k2 hb
        go_wp2
        refine bodyPost_ret (v := .agg #[.int .i64 t, .slice A1 p c1, .slice A7 k c7, .bool f]) ?_ rfl ⟨?_, A1, c1, A7, c7, rfl, ?_, ?_⟩
        · simp only [results, Try.results58]
          go_simp
        · iterate 5 refine Below.setCell ?_ (by dsimp only; omega) _
          exact HB7.out
        · refine own_mono (base' := w.heap.size + 3) ?_ (by omega)
          iterate 5 refine own_far ?_ (by dsimp only; omega) _
          exact HO1.out
        · refine own_mono (base' := w.heap.size + 3) ?_ (by omega)
          iterate 5 refine own_far ?_ (by dsimp only; omega) _
          exact own_mono HO2.out (by omega)
      · have HCl := HCl.out
        rw [if_neg hci] at HCl
        have HCl := Lib.hid HCl
        go_wp2_with fail
        refine (HCl.out _).mono ?_
        rintro e w7 ⟨A7, c7, rfl, hown7, hb7⟩
        have D1 := Blk.below (B := wr.heap.size) B1 hb7 (by omega)
        have D2 := Blk.below (B := wr.heap.size) B2 hb7 (by omega)
        have hown8 := own_below hown hb7
        have hb07 := hb.trans (hb7.mono hb.size)
        have m0 := D2.cell 0
        have m1 := D2.cell 1
        have m2 := D2.cell 2
        have m3 := D2.cell 3
        have f2 := D2.frozen 2
        have n0 := D1.cell 0
        have n1 := D1.cell 1
        have n2 := D1.cell 2
        have n3 := D1.cell 3
        have g0 := D1.frozen 0
        have g1 := D1.frozen 1
        have g2 := D1.frozen 2
        have g3 := D1.frozen 3
        simp only [List.getElem?_toArray, List.getElem?_cons_zero, List.getElem?_cons_succ] at m0 m1 m2 m3 n0 n1 n2 n3
        have HO1 := Lib.hid hown8
        have HO2 := Lib.hid hown7
        have HB7 := Lib.hid hb07
        clear hown hown7 hown8 hb07 hb7 D1 D2 B0 B1 B2 k0 k1 k2 hb
        go_wp2
        refine bodyPost_ret (v := .agg #[.int .i64 t, .slice A1 p c1, .slice A7 k c7, .bool f]) ?_ rfl ⟨?_, A1, c1, A7, c7, rfl, ?_, ?_⟩
        · simp only [results, Try.results58]
          go_simp
        · iterate 5 refine Below.setCell ?_ (by dsimp only; omega) _
          exact HB7.out
        · refine own_mono (base' := w.heap.size + 3) ?_ (by omega)
          iterate 5 refine own_far ?_ (by dsimp only; omega) _
          exact HO1.out
        · refine own_mono (base' := w.heap.size + 3) ?_ (by omega)
          iterate 5 refine own_far ?_ (by dsimp only; omega) _
          exact own_mono HO2.out (by omega)
end Go.Proofs.Ytammailnbgojgaa
