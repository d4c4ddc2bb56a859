/-
  Texts joined: Word Object IndexSpot At Objects TapeOps TapeReadOps SortInt RootLib.
-/
import Derived.Test.YtbmkbnalembbjaaRows
import Derived.Shelf.SortM.Plain
import Derived.Shelf.SortM.SortNone
import Derived.Shelf.SlGeneric
import Derived.Ground.SlgmProg
import Derived.Sort.OwnSortedInts
import Derived.Lib.OwnBridge
import Derived.Shelf.SlicesE.DeleteFunc
import Derived.Ground.SlgfProg
import Derived.Shelf.SlicesG.CompactI
import Derived.Ground.SlgnProg
import Derived.Test.YtbmkbnalembbjaaK0
import Derived.Test.YtbmkbnalembbjaaK1
namespace Go.Proofs.Ytbmkbnalembbjaa
open Go.RowKit
def stretchF (len n : Int) : List Int → Int
  | [] => 0
  | k :: r => if n < 0 ∨ k < 0 ∨ len < k ∨ len - k < n then 4 else stretchF len n r
theorem info_u64 : (Try.prog.info? 37).map (fun i => (i.zero, i.size, i.bytes)) = some (some (.int .u64 0), 1, 8) := by kernel_rfl
set_option maxHeartbeats 400000 in
theorem clone_u64 (A : Option Addr) (n c B : Nat) (xs : List Value) (w : World) (hr : Reads w B 1 A n xs) (hB : B ≤ w.heap.size) (h1 : ∀ u ∈ xs, u.oneCell' = true) (hn : n * 8 ≤ 140737488355328) :
    Calls Try.prog 24 #[.slice A n c] w fun e w' => ∃ A' c', e = .returned (.slice A' n c') ∧ w'.ownsRow w.heap.size 37 1 (.slice A' n c') n xs ∧ Below w.heap.size w w' := by
  obtain ⟨i0, hi, hz0, hz1, hz2⟩ := info_parts info_u64
  rcases A with _ | ad
  · have hm : n = 0 := by
      rcases Nat.eq_zero_or_pos n with h0 | h0
      · exact h0
      · obtain ⟨ad, h, _⟩ := hr.2 h0
        cases h
    subst hm
    have hx : xs = [] := List.eq_nil_of_length_eq_zero (by simpa using hr.1)
    subst hx
    have hnil := fun (w : World) => Lib.run_eql_slice_nil (P := Try.prog) w 23 37 none 0 c 0 0 Try.underlying23
    go_enter Try.func24, Try.ntmps24
    go_wp2
    go_ret
    exact ⟨none, 0, rfl, World.ownsRow_nil _ _ _ _, Below.refl _ _⟩
  · have hnil := fun (w : World) => Lib.run_eql_slice_nil (P := Try.prog) w 23 37 (some ad) n c 0 0 Try.underlying23
    have hmade := World.ownsRow_made (e := 37) (size := 1) w #[] 0 (Nat.le_refl w.heap.size) (Nat.zero_le _) rfl
    go_enter Try.func24, Try.ntmps24
    go_wp2_with (at_builtin; refine wpList_append_any _ rfl (.tmp 5) (.tmp 6) 23 rfl w.heap.size 37 i0 (.int .u64 0) 1 8 Try.underlying23 hi hz0 hz1 hz2 rfl (by decide) (.slice (some ⟨w.heap.size, 0, none⟩) 0 0) 0 [] rfl hmade B (some ad) n c xs rfl (hr.alloc hB _) h1 (by simp [maxLen]; omega) (by simpa using hn) (by simp) ?_; rintro v' w1 hown hgr hbl -; obtain ⟨A', c', rfl⟩ := own_slice hown)
    go_ret
    exact ⟨A', c', rfl, by simpa using hown, ((Below.refl _ _).alloc (Nat.le_refl _) _).grown hgr (by simp) (by simp [Value.ownBlock])⟩
theorem u64s_one (l : List Int) : ∀ u ∈ l.map (Value.int .u64), u.oneCell' = true := by
  intro u hu
  obtain ⟨x, _, rfl⟩ := List.mem_map.1 hu
  rfl
def fillE (len at_ n : Int) : Int := if 256 < len then 2 else stretchF len n [at_]
def fillL (a : List Int) (at_ n : Nat) (v : Int) : List Int := a.take at_ ++ List.replicate n v ++ a.drop (at_ + n)
def moveE (len from_ to n : Int) : Int := if 256 < len then 2 else stretchF len n [from_, to]
def moveL (a : List Int) (from_ to n : Nat) : List Int := splice a to ((a.drop from_).take n)
end Go.Proofs.Ytbmkbnalembbjaa

namespace Go.Proofs.Ytbmkbnalembbjaa
open Go.RowKit
def refIx (l : List Spot) (a : List Int) (s : Spot) : List Int := (refsOf a s).map fun v => (placeF l v).getD 0
theorem placeV_getD (l : List Spot) (v : Int) : (placeV l v).getD (.int .i64 0) = .int .i64 ((placeF l v).getD 0) := by
  unfold placeV
  cases placeF l v <;> rfl
set_option maxRecDepth 100000 in
set_option maxHeartbeats 1000000 in
theorem object_any (A : Option Addr) (n c b : Nat) (a : List Int) (l : List Spot) (s : Spot) (w : World) (hr : Reads w w.heap.size 1 A n (a.map (.int .u64))) (hc : n ≤ c) (hn : n ≤ 256) (hs : SpotOk a s)
    (ha : ∀ x ∈ a, (Lit.int .u64 x).wf = true) (hM : MapIs w Try.prog 37 .u64 b 300 (placeV l)) :
    Calls Try.prog 77 #[.slice A n c, .agg #[.int .i64 s.loc, .int .i64 s.r, .int .i64 s.b, .int .i64 s.t, .bool s.f], .map (some b)] w fun e w' => Below w.heap.size w w' ∧ ∃ A1 c1 A2 c2,
      e = .returned (.agg #[.int .i64 s.t, .slice A1 s.r.toNat c1, .slice A2 s.b.toNat c2, .bool s.f]) ∧ w'.ownsRow w.heap.size 3 1 (.slice A1 s.r.toNat c1) s.r.toNat ((refIx l a s).map (.int .i64)) ∧
      w'.ownsRow w.heap.size 37 1 (.slice A2 s.b.toNat c2) s.b.toNat ((bodyOf a s).map (.int .u64)) := by
  have hal : a.length = n := by have := hr.1; simpa using this
  have HR := Lib.hid (fun w B hr hB => refs_any A n c B a s w hr hB hc hn hs)
  have HF := Lib.hid (refsOf_length hs)
  have HG := Lib.hid (bodyOf_length hs)
  have HI : Hid (refIx l a s = (refsOf a s).map fun v => (placeF l v).getD 0) := rfl
  have l0 := hs.loc0
  have r0 := hs.r0
  have b0 := hs.b0
  have ft := hs.fits
  have HB : Hid (bodyOf a s = (a.drop (s.loc.toNat + 1 + s.r.toNat)).take s.b.toNat) := rfl
  unfold Spot.long at ft
  have hblt := hM.lt
  have HSub : Hid (∀ v ∈ refsOf a s, v ∈ a) := fun v hv => by
    unfold refsOf at hv
    exact List.mem_of_mem_drop (List.mem_of_mem_take hv)
  clear hs
  generalize refsOf a s = rs at *
  generalize bodyOf a s = bs at *
  generalize refIx l a s = ix at *
  obtain ⟨loc, r, bd, t, f⟩ := s
  dsimp only at *
  obtain ⟨i, rfl⟩ := Int.eq_ofNat_of_zero_le l0
  obtain ⟨q, rfl⟩ := Int.eq_ofNat_of_zero_le r0
  obtain ⟨k, rfl⟩ := Int.eq_ofNat_of_zero_le b0
  simp only [Int.toNat_natCast] at *
  rw [hal] at ft
  have HL := Lib.hid hal
  clear hal l0 r0 b0
  obtain ⟨i0, hi, hz0, hz1, hz2⟩ := info_parts (show (Try.prog.info? 3).map (fun i => (i.zero, i.size, i.bytes)) = some (some (.int .i64 0), 1, 8) by kernel_rfl)
  go_enter Try.func77, Try.ntmps77
  go_wp2_with fail
  have hbw := ((below_new w (.cells #[.int .i64 i, .int .i64 q, .int .i64 k, .int .i64 t, .bool f] 146)).alloc (by simp) (.cells #[.int .i64 0, .slice none 0 0, .slice none 0 0, .bool false] 104)).alloc (by simp; omega) (.cells #[.int .i64 t, .slice none 0 0, .slice none 0 0, .bool f] 104)
  have B0 := ((Blk.new w 146 #[.int .i64 i, .int .i64 q, .int .i64 k, .int .i64 t, .bool f]).alloc (.cells #[.int .i64 0, .slice none 0 0, .slice none 0 0, .bool false] 104)).alloc (.cells #[.int .i64 t, .slice none 0 0, .slice none 0 0, .bool f] 104)
  have B1 := (Blk.new (w.alloc (.cells #[.int .i64 i, .int .i64 q, .int .i64 k, .int .i64 t, .bool f] 146)) 104 #[.int .i64 0, .slice none 0 0, .slice none 0 0, .bool false]).alloc (.cells #[.int .i64 t, .slice none 0 0, .slice none 0 0, .bool f] 104)
  have B2 := Blk.new ((w.alloc (.cells #[.int .i64 i, .int .i64 q, .int .i64 k, .int .i64 t, .bool f] 146)).alloc (.cells #[.int .i64 0, .slice none 0 0, .slice none 0 0, .bool false] 104)) 104 #[.int .i64 t, .slice none 0 0, .slice none 0 0, .bool f]
  simp only [World.size_alloc] at B1 B2
  refine (HR.out _ w.heap.size (hr.below hbw) (by simp; omega)).mono ?_
  rintro e w3 ⟨hb3, A3, c3, rfl, hc3, hrr⟩
  have hbw3 := hbw.trans (hb3.mono (by simp; omega))
  have hM3 := hM.below hbw3 hblt
  have C0 := B0.below hb3 (by simp; omega)
  have C1 := B1.below hb3 (by simp)
  have C2 := B2.below hb3 (by simp)
  clear B0 B1 B2
  have hsz : w.heap.size + 3 ≤ w3.heap.size := by have := hb3.size; simp at this; omega
  have hrrw : Reads w w.heap.size 1 A3 q (rs.map (.int .u64)) := hrr.keep fun p hp => (hbw3.cell hp).symm
  clear hb3 hbw hM3 hrr
  go_wp2
  go_loopw [9, 22] (fun _ x wr => ∃ (p : Nat) (A1 : Option Addr) (c1 : Nat), p ≤ q ∧ x = .int .i64 p ∧ Below w.heap.size w wr ∧ w.heap.size + 3 ≤ wr.heap.size ∧ Blk wr w.heap.size 146 #[.int .i64 i, .int .i64 q, .int .i64 k, .int .i64 t, .bool f] ∧ Blk wr (w.heap.size + 1) 104 #[.int .i64 0, .slice none 0 0, .slice none 0 0, .bool false] ∧
    Blk wr (w.heap.size + 1 + 1) 104 #[.int .i64 t, .slice A1 p c1, .slice none 0 0, .bool f] ∧ wr.ownsRow (w.heap.size + 3) 3 1 (.slice A1 p c1) p ((ix.take p).map (.int .i64))) (fun _ x _ => q - (intOf x).toNat)
  case atStart => exact ⟨0, none, 0, Nat.zero_le _, rfl, hbw3, hsz, C0, C1, C2, by simpa using World.ownsRow_nil _ _ _ _⟩
  case round =>
    clear C0 C1 C2 hsz
    obtain ⟨p, A1, c1, hp, rfl, hb, hsz, B0, B1, B2, hown⟩ := hrel
    by_cases hlt : p < q
    · obtain ⟨ad3, v, rfl, had3, hv, hcv⟩ := (hrrw.below hb).num hlt
      have hvw := ha v (HSub.out v (List.mem_of_getElem? hv))
      have hlook := (hM.below hb hblt).look Try.underlying37 Try.underlying141 (zero_int _) hvw
      rw [placeV_getD] at hlook
      have HT : Hid (ix.take (p + 1) = ix.take p ++ [(placeF l v).getD 0]) := by
        show _ = _
        obtain ⟨h1, rfl⟩ := List.getElem?_eq_some_iff.1 hv
        rw [HI.out, ← List.map_take, ← List.map_take, List.take_succ_eq_append_getElem h1, List.map_append]
        rfl
      generalize (placeF l v).getD 0 = z at *
      clear hv hvw
      have k1 := B2.cell 1
      simp only [List.getElem?_toArray, List.getElem?_cons_zero, List.getElem?_cons_succ] at k1
      have hown2 := hown.alloc (.cells #[.int .i64 z] 3)
      have B0' := B0.alloc (.cells #[.int .i64 z] 3)
      have B1' := B1.alloc (.cells #[.int .i64 z] 3)
      have B2' := B2.alloc (.cells #[.int .i64 z] 3)
      have hb2 := hb.alloc hb.size (.cells #[.int .i64 z] 3)
      have hnew := reads_new wr [.int .i64 z] 3 1 1 rfl
      have hge : ∀ g, (Value.slice A1 p c1).ownBlock = some g → w.heap.size + 3 ≤ g := fun g hg => own_ge hown hg
      have HGe := Lib.hid hge
      clear hown B0 B1 B2 hb hge
      go_wp2_with (at_builtin; refine wpList_append_any _ rfl (.tmp 27) (.tmp 31) 24 rfl (w.heap.size + 3) 3 i0 (.int .i64 0) 1 8 Try.underlying24 hi hz0 hz1 hz2 rfl (by decide) (.slice A1 p c1) p _ rfl hown2 (wr.heap.size + 1) (some ⟨wr.heap.size, 0, none⟩) 1 1 [.int .i64 z] rfl hnew (by simp [Value.oneCell']) (by simp [maxLen]; omega) (by omega) (by have := hsz; simp; omega) ?_; rintro v' w5 hown5 hgr hbl -; obtain ⟨A5, c5, rfl⟩ := own_slice hown5; have B0'' := B0'.grown hgr (fun e => by have := HGe.out _ e.symm; omega); have B1'' := B1'.grown hgr (fun e => by have := HGe.out _ e.symm; omega); have B2'' := B2'.grown hgr (fun e => by have := HGe.out _ e.symm; omega); have k2 := B2''.cell 1; simp only [List.getElem?_toArray, List.getElem?_cons_zero, List.getElem?_cons_succ] at k2; have f2 := B2''.frozen 1)
      have hb3 := hb2.grown hgr hb2.size (fun g hg => by have := HGe.out g hg; omega)
      have hsz5 := hgr.size
      simp only [World.size_alloc] at hsz5
      go_roundw
      case rel => exact ⟨p + 1, A5, c5, by omega, by go_num, hb3.setCell (p := ⟨w.heap.size + 1 + 1, 1, none⟩) (by simp; omega) _, by simp [World.setCell]; omega, B0''.far (p := ⟨w.heap.size + 1 + 1, 1, none⟩) (by simp; omega) _, B1''.far (p := ⟨w.heap.size + 1 + 1, 1, none⟩) (by simp) _,
        B2''.set_ 1 _, by rw [HT.out, List.map_append]; exact own_far hown5 (p := ⟨w.heap.size + 1 + 1, 1, none⟩) (by simp) _⟩
      case measure => simp [intOf]; omega
    · have hpq : p = q := by omega
      subst hpq
      have ht : ix.take p = ix := List.take_of_length_le (by rw [HI.out, List.length_map, HF.out]; exact Nat.le_refl _)
      rw [ht] at hown
      have hrb := (hr.below hb).sub (lo := i + 1 + p) (hi := i + 1 + p + k) (by omega) (by omega) hc
      rw [← List.map_drop, ← List.map_take, show i + 1 + p + k - (i + 1 + p) = k by omega, ← HB.out] at hrb
      have HCl := Lib.hid (fun c' => clone_u64 _ k c' w.heap.size (bs.map (.int .u64)) wr hrb (by omega) (u64s_one _) (by omega))
      have k0 := B0.cell 0
      have k1 := B0.cell 1
      have k2 := B0.cell 2
      simp only [List.getElem?_toArray, List.getElem?_cons_zero, List.getElem?_cons_succ] at k0 k1 k2
      have hpos : 0 < n := by omega
      obtain ⟨ad, rfl, had, -⟩ := hr.2 hpos
      clear ht hrb
      by_cases hci : c = i + 1 + p
      · have HCl := HCl.out
        rw [if_pos hci] at HCl
        have HCl := Lib.hid HCl
        go_wp2_with fail
        refine (HCl.out _).mono ?_
        rintro e w7 ⟨A7, c7, rfl, hown7, hb7⟩
        have D1 := Blk.below (B := wr.heap.size) B1 hb7 (by omega)
        have D2 := Blk.below (B := wr.heap.size) B2 hb7 (by omega)
        have hown8 := own_below hown hb7
        have hb07 := hb.trans (hb7.mono hb.size)
        have m0 := D2.cell 0
        have m1 := D2.cell 1
        have m2 := D2.cell 2
        have m3 := D2.cell 3
        have f2 := D2.frozen 2
        have n0 := D1.cell 0
        have n1 := D1.cell 1
        have n2 := D1.cell 2
        have n3 := D1.cell 3
        have g0 := D1.frozen 0
        have g1 := D1.frozen 1
        have g2 := D1.frozen 2
        have g3 := D1.frozen 3
        simp only [List.getElem?_toArray, List.getElem?_cons_zero, List.getElem?_cons_succ] at m0 m1 m2 m3 n0 n1 n2 n3
        have HO1 := Lib.hid hown8
        have HO2 := Lib.hid hown7
        have HB7 := Lib.hid hb07
        clear hown hown7 hown8 hb07 hb7 D1 D2 B0 B1 B2 k0 k1 k2 hb
        go_wp2
        refine bodyPost_ret (v := .agg #[.int .i64 t, .slice A1 p c1, .slice A7 k c7, .bool f]) ?_ rfl ⟨?_, A1, c1, A7, c7, rfl, ?_, ?_⟩
        · simp only [results, Try.results77]
          go_simp
        · iterate 5 refine Below.setCell ?_ (by dsimp only; omega) _
          exact HB7.out
        · refine own_mono (base' := w.heap.size + 3) ?_ (by omega)
          iterate 5 refine own_far ?_ (by dsimp only; omega) _
          exact HO1.out
        · refine own_mono (base' := w.heap.size + 3) ?_ (by omega)
          iterate 5 refine own_far ?_ (by dsimp only; omega) _
          exact own_mono HO2.out (by omega)
      · have HCl := HCl.out
        rw [if_neg hci] at HCl
        have HCl := Lib.hid HCl
        go_wp2_with fail
        refine (HCl.out _).mono ?_
        rintro e w7 ⟨A7, c7, rfl, hown7, hb7⟩
        have D1 := Blk.below (B := wr.heap.size) B1 hb7 (by omega)
        have D2 := Blk.below (B := wr.heap.size) B2 hb7 (by omega)
        have hown8 := own_below hown hb7
        have hb07 := hb.trans (hb7.mono hb.size)
        have m0 := D2.cell 0
        have m1 := D2.cell 1
        have m2 := D2.cell 2
        have m3 := D2.cell 3
        have f2 := D2.frozen 2
        have n0 := D1.cell 0
        have n1 := D1.cell 1
        have n2 := D1.cell 2
        have n3 := D1.cell 3
        have g0 := D1.frozen 0
        have g1 := D1.frozen 1
        have g2 := D1.frozen 2
        have g3 := D1.frozen 3
        simp only [List.getElem?_toArray, List.getElem?_cons_zero, List.getElem?_cons_succ] at m0 m1 m2 m3 n0 n1 n2 n3
        have HO1 := Lib.hid hown8
        have HO2 := Lib.hid hown7
        have HB7 := Lib.hid hb07
        clear hown hown7 hown8 hb07 hb7 D1 D2 B0 B1 B2 k0 k1 k2 hb
        go_wp2
        refine bodyPost_ret (v := .agg #[.int .i64 t, .slice A1 p c1, .slice A7 k c7, .bool f]) ?_ rfl ⟨?_, A1, c1, A7, c7, rfl, ?_, ?_⟩
        · simp only [results, Try.results77]
          go_simp
        · iterate 5 refine Below.setCell ?_ (by dsimp only; omega) _
          exact HB7.out
        · refine own_mono (base' := w.heap.size + 3) ?_ (by omega)
          iterate 5 refine own_far ?_ (by dsimp only; omega) _
          exact HO1.out
        · refine own_mono (base' := w.heap.size + 3) ?_ (by omega)
          iterate 5 refine own_far ?_ (by dsimp only; omega) _
          exact own_mono HO2.out (by omega)
end Go.Proofs.Ytbmkbnalembbjaa

namespace Go.Proofs.Ytbmkbnalembbjaa
open Go.RowKit
set_option maxRecDepth 100000 in
set_option maxHeartbeats 1000000 in
theorem indexSpot_any (F : Nat) (cap : Value) (A : Option Addr) (n c B : Nat) (l : List Spot) (p : Spot → Bool) (w : World) (hr : Reads w B 5 A n (spotsC l)) (hB : B ≤ w.heap.size) (hn : n ≤ 1000000) (hF : Plain Try.prog F)
    (HC : ∀ (w' : World) (s : Spot), Below w.heap.size w w' → s ∈ l → Calls Try.prog F #[.agg #[.int .i64 s.loc, .int .i64 s.r, .int .i64 s.b, .int .i64 s.t, .bool s.f], cap] w' fun e w'' => e = .returned (.bool (p s)) ∧ Below w'.heap.size w' w'') :
    Calls Try.prog 75 #[.slice A n c, .func (.func F) #[] #[cap]] w fun e w' => e = .returned (.int .i64 (ixOf p l)) ∧ Below w.heap.size w w' := by
  have hll : l.length = n := by have := hr.1; rw [spotsC_length] at this; omega
  have HL := Lib.hid hll
  have HC := Lib.hid HC
  have hcf := fun (x : Value) (w : World) => hF #[x, cap] w
  clear hll hF
  go_enter Try.func75, Try.ntmps75
  go_wp2
  go_loopw [5, 8] (fun _ i wr => ∃ j : Nat, j ≤ n ∧ i = .int .i64 j ∧ Below w.heap.size w wr ∧ Hid (∀ x ∈ l.take j, p x = false)) (fun _ i _ => n - (intOf i).toNat)
  case atStart => exact ⟨0, Nat.zero_le _, rfl, Below.refl _ _, by intro x hx; simp at hx⟩
  case round =>
    obtain ⟨j, hj, rfl, hb, HD⟩ := hrel
    by_cases hlt : j < n
    · obtain ⟨ad, s, rfl, had, hs, c0, c1, c2, c3, c4⟩ := (hr.below (hb.mono hB)).spot hlt
      have HS := Lib.hid hs
      have HQ := Lib.hid (HC.out wr s hb (List.mem_of_getElem? hs))
      clear hs
      cases hp : p s
      · have HF := Lib.hid hp
        clear hp
        go_wp2_with fail
        refine HQ.out.mono ?_
        rw [HF.out]
        rintro e w1 ⟨rfl, hb1⟩
        go_wp2
        go_roundw
        case rel => exact ⟨j + 1, by omega, by go_num, hb.trans (hb1.mono hb.size), fun x hx => by
          rcases take_succ_mem HS.out x hx with h | rfl
          · exact HD.out x h
          · exact HF.out⟩
        case measure => simp [intOf]; omega
      · have HF := Lib.hid hp
        clear hp
        go_wp2_with fail
        refine HQ.out.mono ?_
        rw [HF.out]
        rintro e w1 ⟨rfl, hb1⟩
        go_wp2
        go_ret
        exact ⟨ret_int (ixOf_some HS.out HF.out HD.out).symm, hb.trans (hb1.mono hb.size)⟩
    · go_wp2
      go_ret
      exact ⟨ret_int (ixOf_none (by have := HD.out; rwa [List.take_of_length_le (by rw [HL.out]; omega)] at this)).symm, hb⟩
end Go.Proofs.Ytbmkbnalembbjaa

namespace Go.Proofs.Ytbmkbnalembbjaa
open Go.RowKit
set_option maxHeartbeats 400000 in
theorem atClosure_any (g : Nat) (x : Int) (s : Spot) (w : World) (hg : g < w.heap.size) (hc : w.cell? ⟨g, 0, none⟩ = some (.int .i64 x)) :
    Calls Try.prog 76 #[.agg #[.int .i64 s.loc, .int .i64 s.r, .int .i64 s.b, .int .i64 s.t, .bool s.f], .pointer (some ⟨g, 0, none⟩)] w fun e w' => e = .returned (.bool (s.loc == x)) ∧ Below w.heap.size w w' := by
  go_enter Try.func76, Try.ntmps76
  go_wp2
  go_ret
  exact ⟨rfl, below_new _ _⟩
structure Ob where
  t : Int
  refs : List Int
  body : List Int
  f : Bool
deriving DecidableEq
def obOf (a : List Int) (l : List Spot) (s : Spot) : Ob := ⟨s.t, refIx l a s, bodyOf a s, s.f⟩
def atIx (a : List Int) (x : Int) : Int := ixOf (fun s => s.loc == x) (spotsL a)
set_option maxRecDepth 100000 in
set_option maxHeartbeats 1000000 in
theorem at_none (A : Option Addr) (n c : Nat) (a : List Int) (x : Int) (w : World) (hr : Reads w w.heap.size 1 A n (a.map (.int .u64))) (hnc : n ≤ c) (ha : ∀ x ∈ a, (Lit.int .u64 x).wf = true) (hE : checkE a = 0) (hix : atIx a x < 0) :
    Calls Try.prog 52 #[.slice A n c, .int .i64 x] w fun e w' => e = .returned (.tuple #[.agg #[.int .i64 0, .slice none 0 0, .slice none 0 0, .bool false], .int .i64 5]) ∧ Below w.heap.size w w' := by
  have H := Lib.hid (fun w hr => check_ok A n c a w hr hnc ha hE)
  have hm256 := spotsL_length a
  have hix : ixOf (fun s => s.loc == x) (spotsL a) < 0 := hix
  generalize spotsL a = l at *
  generalize hp : (fun s : Spot => s.loc == x) = p at *
  have HPx := Lib.hid hp
  have HIX := Lib.hid (fun A n c B W hr hB hn HC => indexSpot_any 76 (.pointer (some ⟨w.heap.size, 0, none⟩)) A n c B l p W hr hB hn (plain_of (fn := Try.f76) Try.func76 (by kernel_rfl) (by kernel_rfl)) HC)
  generalize ixOf p l = z at *
  clear hp hE
  go_enter Try.func52, Try.ntmps52
  go_wp2_with fail
  have hb0 := (below_new w (.cells #[.int .i64 x] 3)).alloc (by simp) (.cells #[.int .i64 0, .slice none 0 0, .slice none 0 0, .bool false] 104)
  have B0 := (Blk.new w 3 #[.int .i64 x]).alloc (.cells #[.int .i64 0, .slice none 0 0, .slice none 0 0, .bool false] 104)
  have B1 := Blk.new (w.alloc (.cells #[.int .i64 x] 3)) 104 #[.int .i64 0, .slice none 0 0, .slice none 0 0, .bool false]
  simp only [World.size_alloc] at B1
  refine (H.out _ ((hr.below hb0).more hb0.size)).mono ?_
  rintro e w1 ⟨hb1, A', c', b, rfl, hbb, hown, hM⟩
  have D0 := B0.below hb1 (by simp; omega)
  have D1 := B1.below hb1 (by simp)
  have hb01 := below_step hb0 (hb1.mono (by simp))
  have hsz : w.heap.size + 2 ≤ w1.heap.size := by have := hb1.size; simp at this; omega
  have hrl := Reads.of_own hown
  obtain ⟨m, hm⟩ : ∃ m, m = l.length := ⟨_, rfl⟩
  rw [← hm] at hrl hm256
  rw [← hm]
  have HM := Lib.hid hm
  clear hb0 hb1 B0 B1 hown hm
  go_wp2_with fail
  refine (HIX.out _ _ _ _ _ hrl (Nat.le_refl _) (by omega) ?_).mono ?_
  · intro w' s hb' _
    have := atClosure_any w.heap.size x s w' (by have := hb'.size; omega) ((D0.below hb' (by omega)).cell 0)
    rw [← HPx.out]
    exact this
  rintro e w2 ⟨rfl, hb2⟩
  have D2 := D1.below hb2 (by omega)
  have m0 := D2.cell 0
  have m1 := D2.cell 1
  have m2 := D2.cell 2
  have m3 := D2.cell 3
  have g0 := D2.frozen 0
  have g1 := D2.frozen 1
  have g2 := D2.frozen 2
  have g3 := D2.frozen 3
  simp only [List.getElem?_toArray, List.getElem?_cons_zero, List.getElem?_cons_succ] at m0 m1 m2 m3
  have HB := Lib.hid (below_step hb01 hb2)
  clear hb01 hb2 D0 D1 D2
  go_wp2
  refine bodyPost_ret (v := .tuple #[.agg #[.int .i64 0, .slice none 0 0, .slice none 0 0, .bool false], .int .i64 5]) ?_ rfl ⟨rfl, ?_⟩
  · simp only [results, Try.results52]
    go_simp
  · iterate 4 refine Below.setCell ?_ (by dsimp only; omega) _
    exact HB.out
set_option maxRecDepth 100000 in
set_option maxHeartbeats 1000000 in
theorem at_ok (A : Option Addr) (n c : Nat) (a : List Int) (x : Int) (i : Nat) (s : Spot) (w : World) (hr : Reads w w.heap.size 1 A n (a.map (.int .u64))) (hnc : n ≤ c) (ha : ∀ x ∈ a, (Lit.int .u64 x).wf = true) (hE : checkE a = 0)
    (hix : atIx a x = i) (hs : (spotsL a)[i]? = some s) :
    Calls Try.prog 52 #[.slice A n c, .int .i64 x] w fun e w' => Below w.heap.size w w' ∧ ∃ A1 c1 A2 c2, e = .returned (.tuple #[.agg #[.int .i64 s.t, .slice A1 s.r.toNat c1, .slice A2 s.b.toNat c2, .bool s.f], .int .i64 0]) ∧
      w'.ownsRow w.heap.size 3 1 (.slice A1 s.r.toNat c1) s.r.toNat ((refIx (spotsL a) a s).map (.int .i64)) ∧ w'.ownsRow w.heap.size 37 1 (.slice A2 s.b.toNat c2) s.b.toNat ((bodyOf a s).map (.int .u64)) := by
  have H := Lib.hid (fun w hr => check_ok A n c a w hr hnc ha hE)
  have hm256 := spotsL_length a
  have hix : ixOf (fun s => s.loc == x) (spotsL a) = i := hix
  obtain ⟨h0, _⟩ := checkE_ok.1 hE
  obtain ⟨hlen, hP⟩ := parse_ok h0
  have hok := (parse_mem hP s (List.mem_of_getElem? hs)).1
  have hal : a.length = n := by have := hr.1; simpa using this
  have hn : n ≤ 256 := by omega
  have hil := (List.getElem?_eq_some_iff.1 hs).1
  generalize spotsL a = l at *
  have HOb := Lib.hid (fun b w hr hM => object_any A n c b a l s w hr hnc hn hok ha hM)
  generalize refIx l a s = ix at *
  generalize bodyOf a s = bs at *
  generalize hp : (fun s : Spot => s.loc == x) = p at *
  have HPx := Lib.hid hp
  have HIX := Lib.hid (fun A n c B W hr hB hn HC => indexSpot_any 76 (.pointer (some ⟨w.heap.size, 0, none⟩)) A n c B l p W hr hB hn (plain_of (fn := Try.f76) Try.func76 (by kernel_rfl) (by kernel_rfl)) HC)
  rw [hix] at HIX
  have HS := Lib.hid hs
  clear hp hE h0 hP hok hal hs hix hlen
  go_enter Try.func52, Try.ntmps52
  go_wp2_with fail
  have hb0 := (below_new w (.cells #[.int .i64 x] 3)).alloc (by simp) (.cells #[.int .i64 0, .slice none 0 0, .slice none 0 0, .bool false] 104)
  have B0 := (Blk.new w 3 #[.int .i64 x]).alloc (.cells #[.int .i64 0, .slice none 0 0, .slice none 0 0, .bool false] 104)
  have B1 := Blk.new (w.alloc (.cells #[.int .i64 x] 3)) 104 #[.int .i64 0, .slice none 0 0, .slice none 0 0, .bool false]
  simp only [World.size_alloc] at B1
  refine (H.out _ ((hr.below hb0).more hb0.size)).mono ?_
  rintro e w1 ⟨hb1, A', c', b, rfl, hbb, hown, hM⟩
  have D0 := B0.below hb1 (by simp; omega)
  have D1 := B1.below hb1 (by simp)
  have hb01 := below_step hb0 (hb1.mono (by simp))
  have hsz : w.heap.size + 2 ≤ w1.heap.size := by have := hb1.size; simp at this; omega
  have hrl := Reads.of_own hown
  obtain ⟨m, hm⟩ : ∃ m, m = l.length := ⟨_, rfl⟩
  rw [← hm] at hrl hm256 hil
  rw [← hm]
  have HM := Lib.hid hm
  clear hb0 hb1 B0 B1 hown hm
  go_wp2_with fail
  refine (HIX.out _ _ _ _ _ hrl (Nat.le_refl _) (by omega) ?_).mono ?_
  · intro w' s hb' _
    have := atClosure_any w.heap.size x s w' (by have := hb'.size; omega) ((D0.below hb' (by omega)).cell 0)
    rw [← HPx.out]
    exact this
  rintro e w2 ⟨rfl, hb2⟩
  have D2 := D1.below hb2 (by omega)
  have hb02 := below_step hb01 hb2
  obtain ⟨ad, s', rfl, had, hs', c0, c1, c2, c3, c4⟩ := (hrl.below hb2).spot (j := i) (by omega)
  obtain rfl : s' = s := by rw [HS.out] at hs'; exact (Option.some.inj hs').symm
  have HO := Lib.hid (HOb.out b w2 ((hr.below hb02).more hb02.size) (hM.below hb2 hM.lt))
  have hil' : (i : Int) < m := by omega
  have hsz2 : w.heap.size + 2 ≤ w2.heap.size := by have := hb2.size; omega
  clear hs' hb01 hb2 D0 D1 hM
  obtain ⟨loc, r, bd, t, f⟩ := s'
  dsimp only at c0 c1 c2 c3 c4 HO ⊢
  go_wp2_with fail
  refine HO.out.mono ?_
  rintro e w3 ⟨hb3, A1, k1, A2, k2, rfl, hown1, hown2⟩
  have D3 := D2.below hb3 (by omega)
  have m0 := D3.cell 0
  have m1 := D3.cell 1
  have m2 := D3.cell 2
  have m3 := D3.cell 3
  have g0 := D3.frozen 0
  have g1 := D3.frozen 1
  have g2 := D3.frozen 2
  have g3 := D3.frozen 3
  simp only [List.getElem?_toArray, List.getElem?_cons_zero, List.getElem?_cons_succ] at m0 m1 m2 m3
  have HB := Lib.hid (below_step hb02 hb3)
  have HO1 := Lib.hid hown1
  have HO2 := Lib.hid hown2
  clear hb02 hb3 D2 D3 hown1 hown2
  go_wp2
  refine bodyPost_ret (v := .tuple #[.agg #[.int .i64 t, .slice A1 r.toNat k1, .slice A2 bd.toNat k2, .bool f], .int .i64 0]) ?_ rfl ⟨?_, A1, k1, A2, k2, rfl, ?_, ?_⟩
  · simp only [results, Try.results52]
    go_simp
  · iterate 4 refine Below.setCell ?_ (by dsimp only; omega) _
    exact HB.out
  · refine own_mono (base' := w2.heap.size) ?_ (by omega)
    iterate 4 refine own_far ?_ (by dsimp only; omega) _
    exact HO1.out
  · refine own_mono (base' := w2.heap.size) ?_ (by omega)
    iterate 4 refine own_far ?_ (by dsimp only; omega) _
    exact HO2.out
end Go.Proofs.Ytbmkbnalembbjaa

namespace Go.Proofs.Ytbmkbnalembbjaa
open Go.RowKit
structure ObV where
  t : Int
  A1 : Option Addr
  n1 : Nat
  c1 : Nat
  A2 : Option Addr
  n2 : Nat
  c2 : Nat
  f : Bool
def obvC (v : ObV) : List Value := [.int .i64 v.t, .slice v.A1 v.n1 v.c1, .slice v.A2 v.n2 v.c2, .bool v.f]
def ObR (w : World) (B : Nat) (o : Ob) (v : ObV) : Prop :=
  v.t = o.t ∧ v.f = o.f ∧ v.n1 ≤ v.c1 ∧ v.n2 ≤ v.c2 ∧ v.n1 = o.refs.length ∧ v.n2 = o.body.length ∧ Reads w B 1 v.A1 v.n1 (o.refs.map (.int .i64)) ∧ Reads w B 1 v.A2 v.n2 (o.body.map (.int .u64))
def ObO (w : World) (base : Nat) (o : Ob) (v : ObV) : Prop :=
  v.t = o.t ∧ v.f = o.f ∧ v.n1 = o.refs.length ∧ v.n2 = o.body.length ∧ w.ownsRow base 3 1 (.slice v.A1 v.n1 v.c1) v.n1 (o.refs.map (.int .i64)) ∧ w.ownsRow base 37 1 (.slice v.A2 v.n2 v.c2) v.n2 (o.body.map (.int .u64))
def ObsR (w : World) (B : Nat) (os : List Ob) (vs : List ObV) : Prop := os.length = vs.length ∧ ∀ (i : Nat) (o : Ob) (v : ObV), os[i]? = some o → vs[i]? = some v → ObR w B o v
def ObsO (w : World) (base : Nat) (os : List Ob) (vs : List ObV) : Prop := os.length = vs.length ∧ ∀ (i : Nat) (o : Ob) (v : ObV), os[i]? = some o → vs[i]? = some v → ObO w base o v
theorem ObR.keep {w w' : World} {B B' : Nat} {o : Ob} {v : ObV} (h : ObR w B o v) (hb : Below B w w') (hB : B ≤ B') : ObR w' B' o v := by
  obtain ⟨h1, h2, h3, h4, h5, h6, h7, h8⟩ := h
  exact ⟨h1, h2, h3, h4, h5, h6, (h7.below hb).more hB, (h8.below hb).more hB⟩
theorem ObsR.keep {w w' : World} {B B' : Nat} {os : List Ob} {vs : List ObV} (h : ObsR w B os vs) (hb : Below B w w') (hB : B ≤ B') : ObsR w' B' os vs :=
  ⟨h.1, fun i o v ho hv => (h.2 i o v ho hv).keep hb hB⟩
theorem ObO.reads {w : World} {base : Nat} {o : Ob} {v : ObV} (h : ObO w base o v) : ObR w w.heap.size o v := by
  obtain ⟨h1, h2, h3, h4, h5, h6⟩ := h
  exact ⟨h1, h2, own_cap h5, own_cap h6, h3, h4, Reads.of_own h5, Reads.of_own h6⟩
theorem ObsO.reads {w : World} {base : Nat} {os : List Ob} {vs : List ObV} (h : ObsO w base os vs) : ObsR w w.heap.size os vs :=
  ⟨h.1, fun i o v ho hv => (h.2 i o v ho hv).reads⟩
theorem ObsO.below {w w' : World} {base : Nat} {os : List Ob} {vs : List ObV} (h : ObsO w base os vs) (hb : Below w.heap.size w w') : ObsO w' base os vs :=
  ⟨h.1, fun i o v ho hv => by
    obtain ⟨h1, h2, h3, h4, h5, h6⟩ := h.2 i o v ho hv
    exact ⟨h1, h2, h3, h4, own_below h5 hb, own_below h6 hb⟩⟩
theorem ObsO.mono {w : World} {base base' : Nat} {os : List Ob} {vs : List ObV} (h : ObsO w base' os vs) (hb : base ≤ base') : ObsO w base os vs :=
  ⟨h.1, fun i o v ho hv => by
    obtain ⟨h1, h2, h3, h4, h5, h6⟩ := h.2 i o v ho hv
    exact ⟨h1, h2, h3, h4, own_mono h5 hb, own_mono h6 hb⟩⟩
theorem own_types {w : World} {base base' size size' n n' : Nat} {e e' : TypeId} {v v' : Value} {xs xs' : List Value} (h : w.ownsRow base e size v n xs) (h' : w.ownsRow base' e' size' v' n' xs') (hne : e ≠ e') {g : Nat} (hg : v.ownBlock = some g) : v'.ownBlock ≠ some g := by
  intro hg'
  rcases h.2 with ⟨rfl, _⟩ | ⟨g1, cap, cur, rfl, _, hh, _⟩
  · cases hg
  · rcases h'.2 with ⟨rfl, _⟩ | ⟨g2, cap2, cur2, rfl, _, hh2, _⟩
    · cases hg'
    · simp only [Value.ownBlock, Option.some.injEq] at hg hg'
      subst hg hg'
      rw [hh] at hh2
      injection hh2 with hh2
      injection hh2 with _ ht
      exact hne ht
theorem ObsO.grown {w w' : World} {base base' size n : Nat} {e : TypeId} {v0 : Value} {xs : List Value} {os : List Ob} {vs : List ObV} (h : ObsO w base os vs) (ho : w.ownsRow base' e size v0 n xs) (hg : w.grownBy w' v0.ownBlock) (h1 : e ≠ 3) (h2 : e ≠ 37) : ObsO w' base os vs :=
  ⟨h.1, fun i o v ho' hv => by
    obtain ⟨a1, a2, a3, a4, a5, a6⟩ := h.2 i o v ho' hv
    exact ⟨a1, a2, a3, a4, own_grown a5 hg (fun g hg' => own_types a5 ho h1.symm hg'), own_grown a6 hg (fun g hg' => own_types a6 ho h2.symm hg')⟩⟩
end Go.Proofs.Ytbmkbnalembbjaa

namespace Go.Proofs.Ytbmkbnalembbjaa
open Go.RowKit
theorem idxU (kd : IntKind) (N : Nat) (t el : TypeId) (h : Try.prog.underlying t = some (.array N el)) (he : Try.prog.underlying el = some (.int kd)) (hs : ∀ w, (sizeOf el).run Try.prog w = .ok 1 w) (vs : Array Value) (k : Nat) (hk : k < N) (hv : vs.size = N) (w : World) : (Instr.index t (.agg vs) (.int .i64 k)).run Try.prog w = .ok (vs[k]!) w := by
  have h1 : (0 : Int) ≤ k ∧ (k : Int) < N := by omega
  have h2 : k < vs.size := by omega
  simp [Instr.index, asIntOf, run_underlying h, run_underlying he, isAgg, hs, hk, h1, h2, go_sem]
theorem size_ofN {t : TypeId} (h : (Try.prog.info? t).map (·.size) = some 1) (w : World) : (sizeOf t).run Try.prog w = .ok 1 w := by
  obtain ⟨i, hi, h1⟩ := Option.map_eq_some_iff.1 h
  simp [sizeOf, run_typeInfo w hi, h1]
theorem u64N_wrap (x : Int) : IntKind.u64.wrap x = (u64N x : Int) := by rw [IntKind.wrap_u64, u64N_cast]
theorem encN_take {ns : List Nat} {j : Nat} (h : j < ns.length) : encN (ns.take (j + 1)) = encN (ns.take j) ++ varN ns[j] := by
  rw [List.take_succ_eq_append_getElem h, encN_append, encN_one]
set_option maxRecDepth 100000 in
set_option maxHeartbeats 2000000 in
theorem tapeOps_any (A : Option Addr) (n c : Nat) (l : List OpV) (w : World) (hr : Reads w w.heap.size 5 A n (opsC l)) (hv : ∀ o ∈ l, (Lit.int .u64 o.v).wf = true) :
    Calls Try.prog 7 #[.slice A n c] w fun e w' => Below w.heap.size w w' ∧ ((200 < n ∧ e = .returned (.tuple #[.string ⟨#[]⟩, .int .i64 2])) ∨
      (n ≤ 200 ∧ ∃ s : ByteArray, e = .returned (.tuple #[.string s, .int .i64 0]) ∧ bytesN s = encN (opsN l))) := by
  have hln : l.length = n := by have := hr.1; rw [opsC_length] at this; omega
  have HL := Lib.hid hln
  have HP := Lib.hid (fun base A k c L n w => @put_any base A k c L n w)
  have HV := Lib.hid hv
  clear hln hv
  by_cases h200 : 200 < n
  · have g1 : decide (200 < n) = true := decide_eq_true h200
    have g2 : decide ((200 : Int) < (n : Int)) = true := decide_eq_true (by omega)
    go_enter Try.func7, Try.ntmps7
    go_wp2_with fail
    go_ret2
    exact ⟨Below.refl _ _, .inl ⟨h200, rfl⟩⟩
  · have g1 : decide (200 < n) = false := decide_eq_false h200
    have g2 : decide ((200 : Int) < (n : Int)) = false := decide_eq_false (by omega)
    go_enter Try.func7, Try.ntmps7
    go_wp2_with fail
    go_loopw [4, 14] (fun o i wr => ∃ (j : Nat) (A' : Option Addr) (k c' : Nat), j ≤ n ∧ i = .int .i64 j ∧ o = .slice A' k c' ∧ wr.ownsRow w.heap.size 5 1 (.slice A' k c') k (byteN (encN (opsN (l.take j)))) ∧ Below w.heap.size w wr) (fun _ i _ => n - (intOf i).toNat)
    case atStart => exact ⟨0, none, 0, 0, Nat.zero_le _, rfl, rfl, World.ownsRow_nil _ _ _ _, Below.refl _ _⟩
    case round =>
      obtain ⟨j, A', k, c', hj, rfl, rfl, hown, hb⟩ := hrel
      by_cases hlt : j < n
      · obtain ⟨wo, hwo⟩ : ∃ x, x = wr := ⟨wr, rfl⟩
        subst hwo
        obtain ⟨ad, o, rfl, had, ho, c0, c1, c2, c3, c4⟩ := (hr.below hb).op hlt
        have hmem := List.mem_of_getElem? ho
        have hvo : (u64N o.v : Int) = o.v := u64N_id (by have := HV.out o hmem; simp [Lit.wf, IntKind.min, IntKind.max, IntKind.signed, IntKind.bits] at this; omega)
        have HT : Hid (encN (opsN (l.take (j + 1))) = encN (opsN (l.take j)) ++ encN (opN o)) := by
          show _ = _
          obtain ⟨hl, rfl⟩ := List.getElem?_eq_some_iff.1 ho
          rw [List.take_succ_eq_append_getElem hl, opsN_snoc, encN_append]
        have hlk : k ≤ 10000 := by
          have h1 := hown.1
          rw [byteN_length] at h1
          have h2 := encN_ten (opsN (l.take j)) (fun m hm => by obtain ⟨y, _, hy⟩ := List.mem_flatMap.1 hm; exact opN_lt y m hy)
          have h3 : (opsN (l.take j)).length = (l.take j).length * 5 := opsN_length _
          have h4 : (l.take j).length ≤ j := by rw [List.length_take]; omega
          omega
        rw [← hvo] at c4
        have e0 := u64N_wrap o.kind
        have e1 := u64N_wrap o.a
        have e2 := u64N_wrap o.b
        have e3 := u64N_wrap o.c
        have HOp : Hid (opN o = [u64N o.kind, u64N o.a, u64N o.b, u64N o.c, u64N o.v]) := rfl
        have HLt := Lib.hid (opN_lt o)
        obtain ⟨kind, oa, ob, oc, ov⟩ := o
        dsimp only at c0 c1 c2 c3 c4 e0 e1 e2 e3 HOp hvo
        generalize u64N kind = k0 at *
        generalize u64N oa = k1 at *
        generalize u64N ob = k2 at *
        generalize u64N oc = k3 at *
        generalize u64N ov = k4 at *
        generalize opN ⟨kind, oa, ob, oc, ov⟩ = ns at *
        have hNs := HOp.out
        subst hNs
        have DO := Blk.new wo 39 #[.int .i64 kind, .int .i64 oa, .int .i64 ob, .int .i64 oc, .int .u64 k4]
        have d0 := DO.cell 0
        have d1 := DO.cell 1
        have d2 := DO.cell 2
        have d3 := DO.cell 3
        have d4 := DO.cell 4
        simp only [List.getElem?_toArray, List.getElem?_cons_zero, List.getElem?_cons_succ] at d0 d1 d2 d3 d4
        have hownA := hown.alloc (.cells #[.int .i64 kind, .int .i64 oa, .int .i64 ob, .int .i64 oc, .int .u64 k4] 39)
        have hbA := hb.alloc hb.size (.cells #[.int .i64 kind, .int .i64 oa, .int .i64 ob, .int .i64 oc, .int .u64 k4] 39)
        clear hown hb ho hmem hvo DO HOp
        go_wp2_with fail
        go_loopw [4, 33] (fun o2 i2 wr => ∃ (p : Nat) (A2 : Option Addr) (q c2 : Nat), p ≤ 5 ∧ i2 = .int .i64 p ∧ o2 = .slice A2 q c2 ∧ wr.ownsRow w.heap.size 5 1 (.slice A2 q c2) q (byteN (encN (opsN (l.take j)) ++ encN ([k0, k1, k2, k3, k4].take p))) ∧ Below w.heap.size w wr) (fun _ i2 _ => 5 - (intOf i2).toNat)
        case atStart => exact ⟨0, A', k, c', Nat.zero_le _, rfl, rfl, by simpa [encN] using hownA, hbA⟩
        case round =>
          obtain ⟨p, A2, q, c2, hp, rfl, rfl, hown2, hb2⟩ := hrel
          by_cases hlt2 : p < 5
          · obtain ⟨m, hm⟩ : ∃ m, [k0, k1, k2, k3, k4][p]? = some m := ⟨_, List.getElem?_eq_getElem (by simpa using hlt2)⟩
            have hm64 := HLt.out m (List.mem_of_getElem? hm)
            have hX : (Instr.index 76 (.agg #[.int .u64 k0, .int .u64 k1, .int .u64 k2, .int .u64 k3, .int .u64 k4]) (.int .i64 p)).run Try.prog wr = .ok (.int .u64 m) wr := by
              rw [idxU .u64 5 76 37 Try.underlying76 Try.underlying37 (size_ofN (by kernel_rfl)) #[.int .u64 k0, .int .u64 k1, .int .u64 k2, .int .u64 k3, .int .u64 k4] p hlt2 rfl wr]
              congr 1
              have : p = 0 ∨ p = 1 ∨ p = 2 ∨ p = 3 ∨ p = 4 := by omega
              rcases this with rfl | rfl | rfl | rfl | rfl <;> (simp at hm; subst hm; rfl)
            have HQ : Hid (encN ([k0, k1, k2, k3, k4].take (p + 1)) = encN ([k0, k1, k2, k3, k4].take p) ++ varN m) := by
              obtain ⟨hl, rfl⟩ := List.getElem?_eq_some_iff.1 hm
              exact encN_take hl
            have hq : q ≤ 1000000 := by
              have h1 := hown2.1
              rw [byteN_length, List.length_append] at h1
              have h2 := encN_ten ([k0, k1, k2, k3, k4].take p) (fun m hm => HLt.out m (List.mem_of_mem_take hm))
              have h4 : ([k0, k1, k2, k3, k4].take p).length ≤ 5 := by rw [List.length_take]; simp; omega
              have h5 := hownA.1
              rw [byteN_length] at h5
              omega
            have HPut := Lib.hid (HP.out w.heap.size A2 q c2 _ m wr hown2 hb2.size (by omega) hm64)
            clear hm
            go_wp2_with fail
            refine HPut.out.mono ?_
            rintro e w4 ⟨A3, q3, c3, rfl, hown4, hgr, -⟩
            have hb4 : Below w.heap.size w w4 := hb2.grown hgr hb2.size (fun g hg => (hown2.lt g hg).1)
            rw [List.append_assoc, ← HQ.out] at hown4
            go_wp2_with fail
            go_roundw
            case rel => exact ⟨p + 1, A3, q3, c3, by omega, by go_num, rfl, hown4, hb4⟩
            case measure => simp [intOf]; omega
          · obtain rfl : p = 5 := by omega
            rw [show [k0, k1, k2, k3, k4].take 5 = [k0, k1, k2, k3, k4] from rfl, ← HT.out] at hown2
            go_wp2_with fail
            go_roundw
            case rel => exact ⟨j + 1, A2, q, c2, by omega, by go_num, rfl, hown2, hb2⟩
            case measure => simp [intOf]; omega
      · obtain rfl : j = n := by omega
        have hall : l.take j = l := List.take_of_length_le (by rw [HL.out]; exact Nat.le_refl _)
        rw [hall] at hown
        obtain ⟨s, hcv, hbs⟩ := string_of wr w.heap.size A' k c' _ (encN_bytes _) hown
        have HS := Lib.hid hbs
        go_wp2_with fail
        go_ret2
        exact ⟨hb, .inr ⟨by omega, s, rfl, HS.out⟩⟩
end Go.Proofs.Ytbmkbnalembbjaa

namespace Go.Proofs.Ytbmkbnalembbjaa
open Go.RowKit
theorem RdAt.keep {w w' : World} {g : Nat} {L : List Nat} {b : Bool} {row : Option Nat} (h : RdAt w g L b) (hg : w.grownBy w' row) (hne : some g ≠ row) : RdAt w' g L b := by
  obtain ⟨s, hB, h1, h2⟩ := h
  exact ⟨s, hB.grown hg hne, h1, h2⟩
theorem RdAt.alloc {w : World} {g : Nat} {L : List Nat} {b : Bool} (h : RdAt w g L b) (o : Obj) : RdAt (w.alloc o) g L b := by
  obtain ⟨s, hB, h1, h2⟩ := h
  exact ⟨s, hB.alloc o, h1, h2⟩
theorem RdAt.far {w : World} {g : Nat} {L : List Nat} {b : Bool} (h : RdAt w g L b) {p : Addr} (hp : g ≠ p.block) (u : Value) : RdAt (w.setCell p u) g L b := by
  obtain ⟨s, hB, h1, h2⟩ := h
  exact ⟨s, hB.far hp u, h1, h2⟩
theorem RdAt.lt {w : World} {g : Nat} {L : List Nat} {b : Bool} (h : RdAt w g L b) : g < w.heap.size := by
  obtain ⟨s, hB, -⟩ := h
  exact hB.lt
theorem info_op : (Try.prog.info? 39).map (fun i => (i.zero, i.size, i.bytes)) = some (some (.agg #[.int .i64 0, .int .i64 0, .int .i64 0, .int .i64 0, .int .u64 0]), 5, 40) := by kernel_rfl
theorem nonempty_text {s : ByteArray} (h : bytesN s ≠ []) : s.toList.isEmpty = false := by
  rw [ByteArray.toList_eq]
  cases hd : s.data.toList with
  | nil => exact absurd (by unfold bytesN; rw [hd]; rfl) h
  | cons a l => rfl
theorem empty_text {s : ByteArray} (h : bytesN s = []) : s = ⟨#[]⟩ := by
  have h1 : s.data.toList = [] := by
    unfold bytesN at h
    simpa using h
  obtain ⟨⟨l⟩⟩ := s
  simp at h1
  subst h1
  rfl
theorem opsC_snoc (l : List OpV) (o : OpV) : opsC (l ++ [o]) = opsC l ++ opC o := by simp [opsC]
def fiveC (l : List Nat) : Array Value := ((l ++ List.replicate (5 - l.length) 0).map fun (n : Nat) => Value.int .u64 (n : Int)).toArray
theorem five_set : ∀ (l : List Nat) (n : Nat), l.length < 5 → (fiveC l).setIfInBounds l.length (.int .u64 (n : Int)) = fiveC (l ++ [n])
  | [], _, _ => rfl
  | [_], _, _ => rfl
  | [_, _], _, _ => rfl
  | [_, _, _], _, _ => rfl
  | [_, _, _, _], _, _ => rfl
  | _ :: _ :: _ :: _ :: _ :: _, _, h => by simp at h; omega
theorem five_at : ∀ (l : List Nat), l.length < 5 → (fiveC l)[l.length]? = some (.int .u64 0)
  | [], _ => rfl
  | [_], _ => rfl
  | [_, _], _ => rfl
  | [_, _, _], _ => rfl
  | [_, _, _, _], _ => rfl
  | _ :: _ :: _ :: _ :: _ :: _, h => by simp at h; omega
def rdLeft (W : World) (g : Nat) : Nat := match W.cell? ⟨g, 1, none⟩ with
  | some (.bool true) => 0
  | _ => match W.cell? ⟨g, 0, none⟩ with
    | some (.string s) => s.size + 1
    | _ => 0
theorem rdLeft_is {W : World} {g : Nat} {L : List Nat} {b : Bool} (h : RdAt W g L b) : rdLeft W g = if b = true then 0 else L.length + 1 := by
  obtain ⟨s, hB, rfl, -⟩ := h
  unfold rdLeft
  rw [show W.cell? ⟨g, 1, none⟩ = some (.bool b) from hB.cell 1, show W.cell? ⟨g, 0, none⟩ = some (.string s) from hB.cell 0]
  cases b
  · rw [if_neg (by decide), bytesN_length]
  · rfl
theorem numsR_left (k : Nat) (L : List Nat) (hk : 0 < k) : (numsR k L false).2.2 = true ∨ (numsR k L false).2.1.length < L.length := by
  induction k with
  | zero => omega
  | succ k ih =>
    show (numR (numsR k L false).2.1 (numsR k L false).2.2).2.2 = true ∨ (numR (numsR k L false).2.1 (numsR k L false).2.2).2.1.length < L.length
    obtain ⟨P, hP⟩ := numsR_suffix k L false
    have hle : (numsR k L false).2.1.length ≤ L.length := by
      have := congrArg List.length hP
      rw [List.length_append] at this
      omega
    unfold numR
    split
    · rename_i n R e he
      obtain ⟨Q, hQ, h⟩ := numI_shorter _ _ _ _ _ _ he
      have h1 := congrArg List.length h
      have h2 : 0 < Q.length := List.length_pos_iff.2 hQ
      rw [List.length_append] at h1
      right
      show R.length < L.length
      omega
    · exact .inl rfl
set_option maxRecDepth 100000 in
set_option maxHeartbeats 4000000 in
theorem readOps_any (s : ByteArray) (w : World) (hs : s.size ≤ 16777216) :
    Calls Try.prog 8 #[.string s] w fun e w' => Below w.heap.size w w' ∧
      ((∃ (os : List OpV) (A' : Option Addr) (c' : Nat), OpsRead (bytesN s) os ∧ os.length ≤ 200 ∧ e = .returned (.tuple #[.slice A' os.length c', .int .i64 0]) ∧ w'.ownsRow w.heap.size 39 5 (.slice A' os.length c') os.length (opsC os)) ∨
       ((∀ l : List OpV, (∀ o ∈ l, OpW o) → l.length ≤ 200 → bytesN s ≠ encN (opsN l)) ∧ e = .returned (.tuple #[.slice none 0 0, .int .i64 3]))) := by
  obtain ⟨i0, hi, hz0, hz1, hz2⟩ := info_parts info_op
  have HNum := Lib.hid (fun g L b w hR => num_any g L b w hR)
  obtain ⟨T, hT⟩ : ∃ T, T = bytesN s := ⟨_, rfl⟩
  have HTl : Hid (T.length ≤ 16777216) := by show _ ≤ _; rw [hT, bytesN_length]; exact hs
  have hstart : ReadAt T [] T false := ReadAt.start (by rw [hT]; exact bytesN_lt s)
  have DR := Blk.new w 80 #[.string s, .bool false]
  have hrd : RdAt (w.alloc (.cells #[.string s, .bool false] 80)) w.heap.size T false := ⟨s, DR, hT.symm, by omega⟩
  have hb0 := below_new w (.cells #[.string s, .bool false] 80)
  rw [← hT]
  have HSt := Lib.hid hstart
  have HRd := Lib.hid hrd
  clear DR hT hstart hrd hs
  go_enter Try.func8, Try.ntmps8
  go_wp2_with fail
  go_loopw [5] (fun o wr => ∃ (os : List OpV) (L : List Nat) (b : Bool) (A' : Option Addr) (k c' : Nat), o = .slice A' k c' ∧ Hid (RdAt wr w.heap.size L b) ∧ Hid (ReadAt T os L b) ∧ Hid (k = os.length ∧ k ≤ 16777216) ∧ wr.ownsRow (w.heap.size + 1) 39 5 (.slice A' k c') k (opsC os) ∧ Below w.heap.size w wr) (fun _ W => rdLeft W w.heap.size)
  case atStart => exact ⟨[], T, false, none, 0, 0, rfl, HRd, HSt, ⟨rfl, by omega⟩, World.ownsRow_nil _ _ _ _, hb0⟩
  case round =>
    obtain ⟨os, L, b, A', k, c', rfl, HR, HA, HK, hown, hb⟩ := hrel
    have hR := HR.out
    obtain ⟨s1, hB, hsL, hs1⟩ := hR
    have k0 := hB.cell 0
    have k1 := hB.cell 1
    simp only [List.getElem?_toArray, List.getElem?_cons_zero, List.getElem?_cons_succ] at k0 k1
    cases b
    · by_cases hne : L = []
      · subst hne
        obtain rfl := empty_text hsL
        have hK := HK.out
        have HRo := Lib.hid hown
        clear hB hsL hown
        have hb' := hb
        by_cases h200 : 200 < k
        · have g1 : decide (200 < k) = true := decide_eq_true h200
          have g2 : decide ((200 : Int) < (k : Int)) = true := decide_eq_true (by omega)
          go_wp2_with fail
          go_ret2
          refine ⟨hb', .inr ⟨fun l hl h2 hT => ?_, rfl⟩⟩
          have := HA.out.only hl hT
          subst this
          omega
        · have g1 : decide (200 < k) = false := decide_eq_false h200
          have g2 : decide ((200 : Int) < (k : Int)) = false := decide_eq_false (by omega)
          go_wp2_with fail
          go_ret2
          have h1 := hK.1
          subst h1
          exact ⟨hb', .inl ⟨os, A', c', HA.out.done, by omega, rfl, own_mono HRo.out (by omega)⟩⟩
      · have he := nonempty_text (by rw [hsL]; exact hne)
        have hK := HK.out
        have hkl : k * 5 ≤ 16777216 := by
          have h1 := HA.out.few
          have h2 := HTl.out
          rw [← hK.1] at h1
          omega
        have HNx := Lib.hid (HA.out.next hne)
        have HLf := Lib.hid (rdLeft_is HR.out)
        have HQ := Lib.hid (numsR_left 5 L (by decide))
        have HN5 := Lib.hid (And.intro (numsR_length 5 L false) (numsR_lt 5 L false))
        have D6 := Blk.new wr 76 #[.int .u64 0, .int .u64 0, .int .u64 0, .int .u64 0, .int .u64 0]
        have HR6 := Lib.hid (HR.out.alloc (.cells #[.int .u64 0, .int .u64 0, .int .u64 0, .int .u64 0, .int .u64 0] 76))
        have hown6 := hown.alloc (.cells #[.int .u64 0, .int .u64 0, .int .u64 0, .int .u64 0, .int .u64 0] 76)
        have hb6 := hb.alloc hb.size (.cells #[.int .u64 0, .int .u64 0, .int .u64 0, .int .u64 0, .int .u64 0] 76)
        have hrw := hB.lt
        obtain ⟨wo, hwo⟩ : ∃ x, x = wr := ⟨wr, rfl⟩
        subst hwo
        clear hB hsL hown hb hK
        go_wp2_with fail
        go_loopw [23] (fun i wr => ∃ p : Nat, p ≤ 5 ∧ i = .int .i64 p ∧ Hid (RdAt wr w.heap.size (numsR p L false).2.1 (numsR p L false).2.2) ∧ Blk wr wo.heap.size 76 (fiveC (numsR p L false).1) ∧ wr.ownsRow (w.heap.size + 1) 39 5 (.slice A' k c') k (opsC os) ∧ Below w.heap.size w wr) (fun i _ => 5 - (intOf i).toNat)
        case atStart => exact ⟨0, by omega, rfl, HR6, D6, hown6, hb6⟩
        case round =>
          obtain ⟨p, hp, rfl, HRp, hBp, hownp, hbp⟩ := hrel
          by_cases hlt : p < 5
          · have HN1 := Lib.hid (HNum.out w.heap.size (numsR p L false).2.1 (numsR p L false).2.2 wr HRp.out)
            have hnl := numsR_length p L false
            go_wp2_with fail
            refine HN1.out.mono ?_
            rintro e w4 ⟨rfl, hR4, hg4⟩
            have hB4 := hBp.grown hg4 (by intro e; injection e with e; omega)
            have hown4 := own_grown hownp hg4 (fun g h1 h2 => by have := (hownp.lt g h1).1; injection h2 with h2; omega)
            have hb4 := hbp.grown hg4 hbp.size (fun g h1 => by injection h1 with h1; omega)
            have f4 := hB4.frozen p
            have c4 : w4.cell? ⟨wo.heap.size, p, none⟩ = some (.int .u64 0) := by
              have := five_at (numsR p L false).1 (by omega)
              rw [hnl] at this
              exact (hB4.cell p).trans this
            have hR5 := hR4.far (p := ⟨wo.heap.size, p, none⟩) (by dsimp only; omega) (.int .u64 (numR (numsR p L false).2.1 (numsR p L false).2.2).1)
            have hown5 := own_apart hown4 (p := ⟨wo.heap.size, p, none⟩) (own_blk_ne hown4 hB4 (by decide)) (.int .u64 (numR (numsR p L false).2.1 (numsR p L false).2.2).1)
            have hb5 := hb4.setCell (p := ⟨wo.heap.size, p, none⟩) (by dsimp only; omega) (.int .u64 (numR (numsR p L false).2.1 (numsR p L false).2.2).1)
            have HB5 := Lib.hid (hB4.set_ p (.int .u64 (numR (numsR p L false).2.1 (numsR p L false).2.2).1))
            have HFive : Hid ((fiveC (numsR p L false).1).setIfInBounds p (.int .u64 (numR (numsR p L false).2.1 (numsR p L false).2.2).1) = fiveC (numsR (p + 1) L false).1) := by
              have := five_set (numsR p L false).1 (numR (numsR p L false).2.1 (numsR p L false).2.2).1 (by omega)
              rw [hnl] at this
              exact this
            have hrel : Hid (Hid (RdAt (w4.setCell ⟨wo.heap.size, p, none⟩ (.int .u64 (numR (numsR p L false).2.1 (numsR p L false).2.2).1)) w.heap.size (numsR (p + 1) L false).2.1 (numsR (p + 1) L false).2.2) ∧ Blk (w4.setCell ⟨wo.heap.size, p, none⟩ (.int .u64 (numR (numsR p L false).2.1 (numsR p L false).2.2).1)) wo.heap.size 76 (fiveC (numsR (p + 1) L false).1)) := ⟨hR5, by rw [← HFive.out]; exact HB5.out⟩
            generalize (numR (numsR p L false).2.1 (numsR p L false).2.2).1 = m at *
            clear hB4 hR4 hg4 HB5 HFive hR5
            go_wp2_with fail
            go_roundw
            case rel => exact ⟨p + 1, by omega, by go_num, hrel.out.1, hrel.out.2, hown5, hb5⟩
            case measure => simp [intOf]; omega
          · obtain rfl : p = 5 := by omega
            rw [show ((5 : Nat) : Int) = 5 from rfl]
            generalize numsR 5 L false = q at *
            obtain ⟨ns, L', b'⟩ := q
            obtain ⟨n0, n1, n2, n3, n4, rfl⟩ : ∃ a b c d e, ns = [a, b, c, d, e] := list5n HN5.out.1
            have hd0 := hBp.cell 0
            have hd1 := hBp.cell 1
            have hd2 := hBp.cell 2
            have hd3 := hBp.cell 3
            have hd4 := hBp.cell 4
            have d0 : wr.cell? ⟨wo.heap.size, 0, none⟩ = some (.int .u64 n0) := hd0
            have d1 : wr.cell? ⟨wo.heap.size, 1, none⟩ = some (.int .u64 n1) := hd1
            have d2 : wr.cell? ⟨wo.heap.size, 2, none⟩ = some (.int .u64 n2) := hd2
            have d3 : wr.cell? ⟨wo.heap.size, 3, none⟩ = some (.int .u64 n3) := hd3
            have d4 : wr.cell? ⟨wo.heap.size, 4, none⟩ = some (.int .u64 n4) := hd4
            have HO : Hid (opC (opOf [n0, n1, n2, n3, n4]) = [.int .i64 (i64N n0), .int .i64 (i64N n1), .int .i64 (i64N n2), .int .i64 (i64N n3), .int .u64 n4]) := rfl
            have e0 : IntKind.i64.wrap (n0 : Int) = i64N n0 := IntWalk.i64_left _
            have e1 : IntKind.i64.wrap (n1 : Int) = i64N n1 := IntWalk.i64_left _
            have e2 : IntKind.i64.wrap (n2 : Int) = i64N n2 := IntWalk.i64_left _
            have e3 : IntKind.i64.wrap (n3 : Int) = i64N n3 := IntWalk.i64_left _
            have f0 : wrap64 (n0 : Int) = i64N n0 := rfl
            have f1 : wrap64 (n1 : Int) = i64N n1 := rfl
            have f2 : wrap64 (n2 : Int) = i64N n2 := rfl
            have f3 : wrap64 (n3 : Int) = i64N n3 := rfl
            generalize i64N n0 = k0 at *
            generalize i64N n1 = k1 at *
            generalize i64N n2 = k2 at *
            generalize i64N n3 = k3 at *
            generalize opOf [n0, n1, n2, n3, n4] = o at *
            have hown7 := hownp.alloc (.cells #[.int .i64 k0, .int .i64 k1, .int .i64 k2, .int .i64 k3, .int .u64 n4] 39)
            have hnew := reads_new wr [.int .i64 k0, .int .i64 k1, .int .i64 k2, .int .i64 k3, .int .u64 n4] 39 1 5 rfl
            have hb7 := hbp.alloc hbp.size (.cells #[.int .i64 k0, .int .i64 k1, .int .i64 k2, .int .i64 k3, .int .u64 n4] 39)
            have hR7 := HRp.out.alloc (.cells #[.int .i64 k0, .int .i64 k1, .int .i64 k2, .int .i64 k3, .int .u64 n4] 39)
            have hs7 := hbp.size
            have hrl := HRp.out.lt
            dsimp only at HNx HQ
            clear hd0 hd1 hd2 hd3 hd4 hownp hBp
            go_wp2_with (at_builtin; refine wpList_append_any _ rfl (.tmp 31) (.tmp 47) 22 rfl (w.heap.size + 1) 39 i0 _ 5 40 Try.underlying22 hi hz0 hz1 hz2 rfl (by decide) (.slice A' k c') k _ rfl hown7 (wr.heap.size + 1) (some ⟨wr.heap.size, 0, none⟩) 1 1 [.int .i64 k0, .int .i64 k1, .int .i64 k2, .int .i64 k3, .int .u64 n4] rfl hnew (by simp [Value.oneCell']) (by simp [maxLen]; omega) (by omega) (by simp; omega) ?_; rintro v' w8 hown8 hgr hbl -; obtain ⟨A3, c3, rfl⟩ := own_slice hown8)
            have hR8 := hR7.keep hgr (fun e => by have := (hown7.lt _ e.symm).1; omega)
            have hb8 := hb7.grown hgr hb7.size (fun g hg => by have := (hown7.lt g hg).1; omega)
            have hkl2 := HK.out.1
            go_roundw
            case rel => exact ⟨os ++ [o], L', b', A3, k + 1, c3, rfl, hR8, HNx.out, ⟨by rw [List.length_append, ← hkl2]; rfl, by omega⟩, by rw [opsC_snoc, HO.out]; exact hown8, hb8⟩
            case measure =>
              rw [HLf.out, rdLeft_is hR8]
              show (if b' = true then 0 else L'.length + 1) < (if false = true then 0 else L.length + 1)
              simp only [Bool.false_eq_true, if_false]
              rcases HQ.out with h | h
              · rw [if_pos h]; omega
              · split <;> omega
    · clear hB hsL
      have hb' := hb
      cases he : s1.toList.isEmpty
      all_goals
        go_wp2_with fail
        go_ret2
        exact ⟨hb', .inr ⟨fun l hl _ hT => HA.out.none hl hT, rfl⟩⟩
end Go.Proofs.Ytbmkbnalembbjaa

namespace Go.Proofs
open Go.RowKit Go.Sort Go.Shelf
shelf_lay_g SlLaysM.n5 Slgm 5 at Try 57 as Try.sortI
end Go.Proofs
namespace Go.Proofs.Ytbmkbnalembbjaa
open Go.RowKit Go.Sort
def sortL (l : List Int) : List Int := l.mergeSort fun x y => decide (x ≤ y)
theorem sortL_length (l : List Int) : (sortL l).length = l.length := List.length_mergeSort l
theorem sortL_mem {l : List Int} {x : Int} : x ∈ sortL l ↔ x ∈ l := (List.mergeSort_perm l _).mem_iff
theorem sortL_perm (l : List Int) : (sortL l).Perm l := List.mergeSort_perm l _
theorem sortL_sorted (l : List Int) : (sortL l).Pairwise (fun x y => x ≤ y) := by
  have h := List.pairwise_mergeSort (le := fun x y : Int => decide (x ≤ y)) (fun a b c h1 h2 => by simp only [decide_eq_true_eq] at *; omega) (fun a b => by simp only [Bool.or_eq_true, decide_eq_true_eq]; omega) l
  exact h.imp (by simp)
theorem sort_int (base : Nat) (A : Option Addr) (n c : Nat) (xs : List Int) (w : World) (hown : w.ownsRow base 3 1 (.slice A n c) n (xs.map (.int .i64))) (hn : n ≤ 1000000) :
    Calls Try.prog 57 #[.slice A n c] w fun e w' => e = .returned (.tuple #[]) ∧ w'.ownsRow base 3 1 (.slice A n c) n ((sortL xs).map (.int .i64)) ∧ w.grownBy w' (Value.slice A n c).ownBlock := by
  by_cases hnil : Value.slice A n c = .slice none 0 0
  · injection hnil with h1 h2 h3
    subst h1 h2 h3
    have hx : xs = [] := List.eq_nil_of_length_eq_zero (by have := hown.1; simpa using this)
    subst hx
    have H := AnyM.slices_Sort_int_none Try.sortI none 0 w
    refine Calls.mono H ?_
    rintro e w' ⟨rfl, rfl⟩
    exact ⟨rfl, by simpa [sortL] using hown, ⟨rfl, rfl, rfl, Nat.le_refl _, fun _ _ _ => rfl⟩⟩
  · obtain ⟨g, cap, hv, hb, hg, h1, h2, h3, hH⟩ := Lib.holds_of_ownsRow hown hnil
    injection hv with e1 _ e3
    subst e1 e3
    have H := AnyM.slices_Sort_int Try.sortI g 0 c xs w hH hg (by omega)
    rw [h3] at H
    refine Calls.mono H ?_
    rintro e w' ⟨rfl, q, os, rfl⟩
    refine ⟨rfl, ?_, grownBy_sortedI _⟩
    have := Lib.ownsRow_putRow (q := q) (k := n) hown (ys := sortL xs) (by rw [sortL_length, h3]) (Nat.le_refl _)
    rw [List.take_of_length_le (by rw [sortL_length]; omega)] at this
    exact own_grown (row := none) this ⟨rfl, rfl, rfl, by simp, fun k hk _ => heap_grow_old _ _ hk⟩ (fun _ _ h => by cases h)
end Go.Proofs.Ytbmkbnalembbjaa

namespace Go.Proofs
open Go.RowKit Go.Sort Go.Shelf
shelf_lay_g SlLaysH.n10 Slgf 10 at Try 110 as Try.deleteI
shelf_lay_g SlLaysN.n43 Slgn 43 at Try 87 as Try.compactI
end Go.Proofs
namespace Go.Proofs.Ytbmkbnalembbjaa
open Go.RowKit Go.Sort
theorem compact_sublist (l : List Int) : List.Sublist (Lib.compact l) l := by
  have h1 : List.Sublist (((List.range l.length).filter (Lib.keeps l.toArray)).map (l.toArray[·]!)) ((List.range l.length).map (l.toArray[·]!)) := List.Sublist.map _ List.filter_sublist
  have h2 := Lib.range_map_get l.toArray
  simp only [List.size_toArray] at h2
  rw [h2] at h1
  exact h1
theorem compact_mem {l : List Int} {x : Int} : x ∈ Lib.compact l ↔ x ∈ l := by
  refine ⟨fun h => (compact_sublist l).subset h, fun h => ?_⟩
  obtain ⟨j, hj, rfl⟩ := List.getElem_of_mem h
  clear h
  induction j with
  | zero =>
    refine List.mem_map.2 ⟨0, List.mem_filter.2 ⟨by simpa using hj, by simp [Lib.keeps]⟩, by simp [hj]⟩
  | succ j ih =>
    by_cases hk : Lib.keeps l.toArray (j + 1) = true
    · exact List.mem_map.2 ⟨j + 1, List.mem_filter.2 ⟨by simpa using hj, hk⟩, by simp [hj]⟩
    · have h1 := ih (by omega)
      have h2 : l[j + 1] = l[j] := by
        simp only [Lib.keeps, decide_eq_true_eq, not_or, ne_eq, Decidable.not_not] at hk
        have := hk.2
        simpa [hj, show j < l.length by omega] using this
      rw [h2]
      exact h1
set_option maxHeartbeats 400000 in
theorem negative_any (x : Int) (w : World) : Calls Try.prog 111 #[.int .i64 x] w fun e w' => e = .returned (.bool (decide (x < 0))) ∧ w' = w := by
  go_enter Try.func111, Try.ntmps111
  go_wp2
  go_ret
  exact ⟨rfl, rfl⟩
set_option maxHeartbeats 400000 in
theorem index_nil (F : Nat) (c : Nat) (w : World) : Calls Try.prog 109 #[.slice none 0 c, .func (.func F) #[] #[]] w fun e w' => e = .returned (.int .i64 (-1)) ∧ w' = w := by
  go_enter Try.func109, Try.ntmps109
  go_wp2
  go_loopw [8] (fun i wr => i = .int .i64 0 ∧ wr = w) (fun _ _ => 0)
  case atStart => exact ⟨rfl, rfl⟩
  case round =>
    obtain ⟨rfl, rfl⟩ := hrel
    go_wp2
    go_ret
    exact ⟨rfl, rfl⟩
set_option maxHeartbeats 400000 in
theorem delete_nil (c : Nat) (w : World) : Calls Try.prog 110 #[.slice none 0 c, .func (.func 111) #[] #[]] w fun e w' => e = .returned (.slice none 0 c) ∧ w' = w := by
  go_enter Try.func110, Try.ntmps110
  go_wp2_with (go_at_call 109; refine (index_nil _ _ _).mono ?_; rintro e w' ⟨rfl, rfl⟩)
  go_ret
  exact ⟨rfl, rfl⟩
theorem delete_neg (base : Nat) (A : Option Addr) (n c : Nat) (xs : List Int) (w : World) (hown : w.ownsRow base 3 1 (.slice A n c) n (xs.map (.int .i64))) (hn : n ≤ 1000000) :
    Calls Try.prog 110 #[.slice A n c, .func (.func 111) #[] #[]] w fun e w' => e = .returned (.slice A (xs.filter fun x => !decide (x < 0)).length c) ∧
      w'.ownsRow base 3 1 (.slice A (xs.filter fun x => !decide (x < 0)).length c) (xs.filter fun x => !decide (x < 0)).length ((xs.filter fun x => !decide (x < 0)).map (.int .i64)) ∧ w.grownBy w' (Value.slice A n c).ownBlock := by
  by_cases hnil : Value.slice A n c = .slice none 0 0
  · injection hnil with h1 h2 h3
    subst h1 h2 h3
    have hx : xs = [] := List.eq_nil_of_length_eq_zero (by have := hown.1; simpa using this)
    subst hx
    refine Calls.mono (delete_nil 0 w) ?_
    rintro e w' ⟨rfl, rfl⟩
    exact ⟨rfl, hown, ⟨rfl, rfl, rfl, Nat.le_refl _, fun _ _ _ => rfl⟩⟩
  · obtain ⟨g, cap, hv, hb, hg, h1, h2, h3, hH⟩ := Lib.holds_of_ownsRow hown hnil
    injection hv with e1 _ e3
    subst e1 e3
    have H := AnyE.slices_DeleteFunc Try.deleteI (Value.int .i64) (fun _ => rfl) (fun x => decide (x < 0)) 111 #[] (enters_of Try.func111 (by kernel_rfl) rfl) 0 Try.zeroValue3 g 0 c xs.toArray w
      (fun W x hb => by
        refine Calls.mono (negative_any x W) ?_
        rintro e w' ⟨rfl, rfl⟩
        exact ⟨rfl, 0, rfl⟩)
      (fun q os dk x hs => by
        refine Calls.mono (negative_any x _) ?_
        rintro e w' ⟨rfl, rfl⟩
        exact ⟨rfl, 0, rfl⟩) hH (by simp; omega) (by simp; omega)
    simp only [List.size_toArray] at H
    rw [h3] at H
    have hfl := List.length_filter_le (fun x => !decide (x < 0)) xs
    generalize (xs.filter fun x => !decide (x < 0)) = ys at *
    refine Calls.mono H ?_
    rintro e w' ⟨rfl, q, rfl⟩
    have := Lib.ownsRow_putRow (q := q) (k := ys.length) hown (ys := ys ++ List.replicate (n - ys.length) 0) (by simp; omega) (by omega)
    rw [List.take_append_of_le_length (Nat.le_refl _), List.take_length] at this
    exact ⟨rfl, this, grownBy_sortedI (os := #[]) _⟩
theorem compact_int (base : Nat) (A : Option Addr) (n c : Nat) (xs : List Int) (w : World) (hown : w.ownsRow base 3 1 (.slice A n c) n (xs.map (.int .i64))) (hn : n ≤ 1000000) :
    Calls Try.prog 87 #[.slice A n c] w fun e w' => e = .returned (.slice A (Lib.compact xs).length c) ∧
      w'.ownsRow base 3 1 (.slice A (Lib.compact xs).length c) (Lib.compact xs).length ((Lib.compact xs).map (.int .i64)) ∧ w.grownBy w' (Value.slice A n c).ownBlock := by
  by_cases hnil : Value.slice A n c = .slice none 0 0
  · injection hnil with h1 h2 h3
    subst h1 h2 h3
    have hx : xs = [] := List.eq_nil_of_length_eq_zero (by have := hown.1; simpa using this)
    subst hx
    refine Calls.mono (AnyG.slices_Compact_int_empty Try.compactI none 0 w) ?_
    rintro e w' ⟨rfl, rfl⟩
    exact ⟨rfl, hown, ⟨rfl, rfl, rfl, Nat.le_refl _, fun _ _ _ => rfl⟩⟩
  · obtain ⟨g, cap, hv, hb, hg, h1, h2, h3, hH⟩ := Lib.holds_of_ownsRow hown hnil
    injection hv with e1 _ e3
    subst e1 e3
    have H := AnyG.slices_Compact_int Try.compactI g 0 c xs w hH (by omega) (by omega)
    rw [h3] at H
    have hfl := (compact_sublist xs).length_le
    generalize Lib.compact xs = ys at *
    refine Calls.mono H ?_
    rintro e w' ⟨rfl, q, rfl⟩
    have := Lib.ownsRow_putRow (q := q) (k := ys.length) hown (ys := ys ++ List.replicate (n - ys.length) 0) (by simp; omega) (by omega)
    rw [List.take_append_of_le_length (Nat.le_refl _), List.take_length] at this
    exact ⟨rfl, this, grownBy_sortedI (os := #[]) _⟩
end Go.Proofs.Ytbmkbnalembbjaa
