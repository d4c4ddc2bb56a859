/-
  Texts joined: CarryCopy BuildFn CarryFns TopPlacesW Bulk LawStrs.
-/
import Derived.Deep.RegionHeld3
import Derived.Deep.QuietTactic
import Derived.BigQuiet
import Derived.StillTailTactics
import Derived.Test.YtblkhipbhahmeaaGreatDoorRows
import Derived.SliceStrings
import Derived.Test.YtblkhipbhahmeaaGreatDoorU0
import Derived.Test.YtblkhipbhahmeaaGreatDoorU1
import Derived.Test.YtblkhipbhahmeaaGreatDoorU4
import Derived.Test.YtblkhipbhahmeaaGreatDoorU5
import Derived.Test.YtblkhipbhahmeaaGreatDoorU7
import Derived.Test.YtblkhipbhahmeaaGreatDoorU9
import Derived.Test.YtblkhipbhahmeaaGreatDoorU12
import Derived.Test.YtblkhipbhahmeaaGreatDoorU17
import Derived.Test.YtblkhipbhahmeaaGreatDoorU18
import Derived.Test.YtblkhipbhahmeaaGreatDoorU22
import Derived.Test.YtblkhipbhahmeaaGreatDoorU23
import Derived.Test.YtblkhipbhahmeaaGreatDoorU24
namespace Go.Proofs.YtblkhipbhahmeaaGreatDoor
open Go.RowKit
def CopyOk (a f : List Int) (N : Int) : Prop := checkE a = 0 ∧ (∀ x ∈ f, x ∈ begsL (spotsL a)) ∧ 0 ≤ N ∧ N ≤ 256 ∧ ∀ O, Ordered a (spotsL a) f O → longsL (spotsL a) O ≤ N
def CopyRet (a f : List Int) (N : Nat) (O : List Int) (base : Nat) (e : Ending) (w' : World) : Prop :=
 ∃ (Y b : List Int) (k : Nat) (A1 : Option Addr) (c1 : Nat) (AO : Option Addr) (cO : Nat) (AY : Option Addr) (cY : Nat), CopyIs a f N O Y b ∧ k = O.length ∧ e = .returned (.tuple #[.slice A1 N c1, .slice AO k cO, .slice AY k cY, .int .i64 0]) ∧
   w'.ownsRow base 40 1 (.slice A1 N c1) N (b.map (.int .u64)) ∧ w'.ownsRow base 3 1 (.slice AO k cO) k (O.map (.int .i64)) ∧ w'.ownsRow base 3 1 (.slice AY k cY) k (Y.map (.int .i64))
set_option maxRecDepth 100000 in
set_option maxHeartbeats 4000000 in
theorem copy_good (A : Option Addr) (n c : Nat) (a : List Int) (A2 : Option Addr) (n2 c2 N : Nat) (f : List Int) (w : World) (hr : Reads w w.heap.size 1 A n (a.map (.int .u64))) (hnc : n ≤ c) (hc : c ≤ maxLen) (ha : ∀ x ∈ a, (Lit.int .u64 x).wf = true)
  (hr2 : Reads w w.heap.size 1 A2 n2 (f.map (.int .i64))) (hn2 : n2 ≤ 1000000000000000000) (hx2 : ∀ x ∈ f, (Lit.int .i64 x).wf = true) (hE : checkE a = 0) (hF : ∀ x ∈ f, x ∈ begsL (spotsL a)) (hN : N ≤ 256) :
  Calls Tryz.prog 6 #[.slice A n c, .slice A2 n2 c2, .int .i64 N] w fun e w' => Below w.heap.size w w' ∧ ∃ O, Ordered a (spotsL a) f O ∧
   (CopyRet a f N O w.heap.size e w' ∨
    (¬ longsL (spotsL a) O ≤ N ∧ e = .returned (.tuple #[.slice none 0 0, .slice none 0 0, .slice none 0 0, .int .i64 7]))) := by
 have hal : a.length = n := by have := hr.1; simpa using this
 have h0 := (checkE_ok.1 hE).1
 have hn256 : n ≤ 256 := by have := (parse_ok h0).1; omega
 have HO := Lib.hid (fun w hr hr2 => order_ok A n c a A2 n2 c2 f w hr hnc ha hr2 hn2 hx2 hE)
 have HWd := Lib.hid (fun w hr hr2 O (hO : Ordered a (spotsL a) f O) => by
  have := twords_ok A n c a A2 n2 c2 f (sortL O) w hr hnc ha hr2 hn2 hx2 hE (hO.search.done hO.roots)
  rw [longsL_perm (spotsL a) (sortL_perm O)] at this
  exact this)
 have HNw := Lib.hid (fun w => wnew_ok N w hN)
 have HAt := Lib.hid (fun x i s w hr hix his => at_ok A n c a x i s w hr hnc ha hE hix his)
 have HIs := Lib.hid (fun O (hO : Ordered a (spotsL a) f O) (h : longsL (spotsL a) O ≤ N) => (⟨hE, hO, h, hN, rfl, rfl⟩ : CopyIs a f N O (sumsY (spotsL a) 0 O) (chunksW (laidC N 0 (rowsOf a O (sumsY (spotsL a) 0 O))))))
 have HCl := Lib.hid (fun O (hO : Ordered a (spotsL a) f O) => ordered_closed hE hO)
 have HW := Lib.hid (fun (k : Nat) (h1 : 1 ≤ k) (h2 : k ≤ 256) w => hword_ok 0 ((k : Int) - 1) 0 true w (headE_ok.2 ⟨by omega, by omega, by omega, by omega, by omega, by omega, by omega, fun _ => ⟨rfl, rfl⟩⟩))
 have HFa := Lib.hid (fun O (hC : ClosedL a O) φ => copy_facts hE hC φ)
 have HBB := Lib.hid (begsL_bounds h0)
 have HFF := Lib.hid hF
 have HAL := Lib.hid hal
 obtain ⟨i0, hi, hz0, hz1, hz2⟩ := info_parts info_int
 have hmm := @run_makeMap Tryz.prog
 clear hal h0 hF hE hx2
 go_enter Tryz.func6, Tryz.ntmps6
 go_wp2_with fail
 refine (HO.out _ hr hr2).mono ?_
 rintro e w1 ⟨hb1, ⟨O, AO, cO, hO, rfl, hownO⟩ | ⟨⟨z, hz, hz2⟩, -⟩⟩
 ·have hC := HCl.out O hO
  have hk256 : O.length ≤ 256 := nodup_bound 256 O hO.search.once (fun x hx => HBB.out x (hC.begs x hx))
  have hWd := HWd.out (w1.alloc (.cells (madeCells #[Value.int .u64 0] N) 40)) ((hr.below (below_step hb1 (below_new w1 _))).more (below_step hb1 (below_new w1 _)).size) ((hr2.below (below_step hb1 (below_new w1 _))).more (below_step hb1 (below_new w1 _)).size) O hO
  have hIs := HIs.out O hO
  have hnn : ∀ x ∈ O, 0 ≤ longW (spotsL a) x := fun x hx => by
   obtain ⟨j, hj⟩ := List.mem_iff_getElem?.1 hx
   obtain ⟨s, i, h⟩ := (HFa.out O hC id).2 j x hj
   unfold longW
   rw [h.spot]
   have := h.ok.r0
   have := h.ok.b0
   simp only [Spot.long]
   omega
  have hE0 := longsL_nn hnn
  obtain ⟨E, hE⟩ := Int.eq_ofNat_of_zero_le hE0
  obtain ⟨k, hk⟩ : ∃ k, k = O.length := ⟨_, rfl⟩
  have HO0 := Lib.hid hO
  have hbn := below_new w1 (.cells (madeCells #[Value.int .u64 0] N) 40)
  rw [hE] at hWd hIs
  rw [← hk] at hownO hk256 ⊢
  have hWd := Lib.hid hWd
  have B0 : Blk (w1.alloc (.cells (madeCells #[Value.int .u64 0] N) 40)) w1.heap.size 40 ((List.replicate N (0 : Int)).map (Value.int .u64)).toArray := by
   rw [List.map_replicate, ← madeCells_one]; exact heap_alloc_new w1 _
  by_cases hfit : (E : Int) ≤ N
  ·have hI := hIs hfit
   have hD := copied_of hI
   obtain ⟨hF1, hF2⟩ := HFa.out O hC (posL O (sumsY (spotsL a) 0 O))
   have hyj : ∀ j, j < k → (sumsY (spotsL a) 0 O)[j]? = some ((eJ a O j : Nat) : Int) := fun j hj => by
    rw [sumsY_at _ _ _ _ (by omega), (hF1 j).2.2.1]; congr 1; omega
   have hyl : (sumsY (spotsL a) 0 O).length = k := by rw [hD.len, hk]
   have hEk : eJ a O k = E := by
    have := (hF1 k).2.2.1
    rw [hk, List.take_length, hE] at this
    rw [hk]
    omega
   have hwords := hD.words
   rw [hE, Int.toNat_natCast] at hwords
   have hnd := hD.nodup
   have hOn := hC.nn
   have hEN : E ≤ N := by omega
   have hdN : decide (N < E) = false := decide_eq_false (by omega)
   have hdN2 : decide ((N : Int) < (E : Int)) = false := decide_eq_false (by omega)
   have hxb : ∀ (j : Nat) (X : Nat), O[j]? = some (X : Int) → X ≤ 256 := fun j X hX => by
    have := HBB.out _ (hC.begs _ (List.mem_of_getElem? hX))
    omega
   rw [← hk] at hF1
   rw [hEk] at hF1
   clear hIs hE hE0 hC hD hfit hnn
   obtain ⟨b, hb⟩ : ∃ b, b = chunksW (laidC N 0 (rowsOf a O (sumsY (spotsL a) 0 O))) := ⟨_, rfl⟩
   rw [← hb] at hI hwords
   generalize sumsY (spotsL a) 0 O = Y at *
   have hnow := fun v h => nowM_at (keep := O) (Y := Y) (v := v) h
   have hnows := fun j x y hx hy h => nowM_succ (keep := O) (Y := Y) hnd (j := j) (x := x) (y := y) hx hy h
   have hnow0 := nowM_zero O Y
   have hwords' : b = O.flatMap (newW a (posL O Y)) ++ chunksW (flushC (N - E)) := hwords
   generalize posL O Y = φ at *
   generalize hejd : eJ a O = ej at *
   have HEJD := Lib.hid hejd
   clear hejd
   rw [← hk] at hnow
   have HF1 := Lib.hid hF1
   have HF2 := Lib.hid hF2
   have HYJ := Lib.hid hyj
   have HYL := Lib.hid hyl
   have HEk := Lib.hid hEk
   have HWo := Lib.hid hwords'
   have HI := Lib.hid hI
   have HNow := Lib.hid hnow
   have HNowS := Lib.hid hnows
   have HNow0 := Lib.hid hnow0
   have HXB := Lib.hid hxb
   have HOn := Lib.hid hOn
   have HK := Lib.hid hk
   have hrO := Reads.of_own hownO
   have HOO := Lib.hid hownO
   have HB0 := Lib.hid B0
   clear hI hF1 hF2 hyj hyl hEk hwords hnd hOn hxb hb hnow hnows hnow0 hwords' hk hownO B0
   go_wp2_with fail
   refine (HNw.out _).mono ?_
   rintro e w2 ⟨rfl, rfl⟩
   go_wp2_with fail
   refine hWd.out.mono ?_
   rintro e w3 ⟨hb3, rfl⟩
   have hb13 := below_step hbn hb3
   obtain ⟨w4, hins, hM, hg1⟩ := (MapIs.made w3 Tryz.prog 40 .u64).store (k := 40) (t := 56) Tryz.underlying40 Tryz.underlying56 (by decide) (x := 0) (by decide) (.int .u64 0)
   rw [← HNow0.out] at hM
   have HM := Lib.hid hM
   have hb34 : Below w3.heap.size w3 w4 := (below_new w3 _).grown hg1 (by simp) (by simp)
   have hsz13 : w1.heap.size < w3.heap.size := by have := hb3.size; rw [World.size_alloc] at this; omega
   have HB4 : Hid (Blk w4 w1.heap.size 40 (((O.take 0).flatMap (rawW a) ++ List.replicate (N - ej 0) (0 : Int)).map (Value.int .u64)).toArray) := by
    show Blk _ _ _ _
    have h0 : ej 0 = 0 := by have := (HF1.out 0).1; simpa using this.symm
    have := (HB0.out.below hb3 HB0.out.lt).below hb34 hsz13
    rw [h0, Nat.sub_zero]
    exact this
   have hb14 := below_step hb13 hb34
   have hsz4 : w3.heap.size < w4.heap.size := HM.out.lt
   have hej0 : ej 0 = 0 := by have := (HF1.out 0).1; simpa using this.symm
   have HEJ0 : Hid ((0 : Int) = (ej 0 : Nat)) := by show _ = _; rw [hej0]; rfl
   clear hM hg1 hej0 hWd HNw
   go_wp2
   clear hins
   go_loopw [15, 17, 58] (fun v z i wr => ∃ (j : Nat) (AY : Option Addr) (cY : Nat), j ≤ k ∧ v = .slice AY j cY ∧ z = .int .i64 (ej j : Nat) ∧ i = .int .i64 j ∧ Hid (MapIs wr Tryz.prog 40 .u64 w3.heap.size (j + 1) (nowM O Y j)) ∧
    Hid (Blk wr w1.heap.size 40 (((O.take j).flatMap (rawW a) ++ List.replicate (N - ej j) (0 : Int)).map (Value.int .u64)).toArray) ∧ wr.ownsRow (w3.heap.size + 1) 3 1 (.slice AY j cY) j ((Y.take j).map (.int .i64)) ∧ Below w1.heap.size w1 wr ∧ w3.heap.size < wr.heap.size) (fun _ _ i _ => k - (intOf i).toNat)
   case atStart => exact ⟨0, none, 0, Nat.zero_le _, rfl, by rw [← HEJ0.out], rfl, HM.out, HB4, World.ownsRow_nil _ _ _ _, hb14, hsz4⟩
   case round =>
    obtain ⟨j, AY, cY, hj, rfl, rfl, rfl, HMj, HBj, hownY, hb, hszr⟩ := hrel
    have hbw := below_step hb1 hb
    by_cases hlt : j < k
    ·obtain ⟨ad, x, rfl, had, hx, cx⟩ := (hrO.below hb).num hlt
     obtain ⟨s, i, hA⟩ := HF2.out j x hx
     have x0 := HOn.out x (List.mem_of_getElem? hx)
     obtain ⟨X, rfl⟩ := Int.eq_ofNat_of_zero_le x0
     have hX := HXB.out j X hx
     have hyy := HYJ.out j hlt
     have hle := (HF1.out (j + 1)).2.2.2.1
     have hnx := hA.next
     rw [HEJD.out] at hnx
     have r0 := hA.ok.r0
     have b0 := hA.ok.b0
     have ft := hA.ok.fits
     have hsl := (spotAt_some hA.spot).2.2
     have hsf := (spotAt_some hA.spot).2.1
     have hrl := refsOf_length hA.ok
     have hbl := bodyOf_length hA.ok
     have how := obj_words hA.ok
     have hraw := hA.raw
     have HAx := HAt.out X i s
     have HIX := Lib.hid (And.intro hA.ix hA.get)
     have hcl : ((wordOf s.r s.b s.t s.f :: (refsOf a s ++ bodyOf a s)).length : Int) = s.long := by
      rw [List.length_cons, List.length_append, hrl, hbl]; unfold Spot.long; omega
     clear hA
     generalize refsOf a s = rs at *
     generalize bodyOf a s = bs at *
     generalize wordOf s.r s.b s.t s.f = Wd at *
     generalize refIx (spotsL a) a s = ri at *
     obtain ⟨loc, r, bb, t, fr⟩ := s
     simp only [Spot.long] at hcl how hsf hsl HAx hrl hbl r0 b0 ft hnx
     subst hsf
     subst hsl
     obtain ⟨mr, rfl⟩ := Int.eq_ofNat_of_zero_le r0
     obtain ⟨mb, rfl⟩ := Int.eq_ofNat_of_zero_le b0
     simp only [Int.toNat_natCast] at hrl hbl how HAx
     obtain ⟨LN, hLN⟩ : ∃ LN, LN = 1 + mr + mb := ⟨_, rfl⟩
     rw [show (1 + (mr : Int) + mb).toNat = LN by omega] at how
     have hcln : (Wd :: (rs ++ bs)).length = LN := by omega
     rw [HAL.out] at ft
     have hIL : X + LN ≤ n := by omega
     obtain ⟨eN, heN⟩ : ∃ eN, eN = ej (j + 1) := ⟨_, rfl⟩
     obtain ⟨e0, he0⟩ : ∃ e0, e0 = ej j := ⟨_, rfl⟩
     have hlen0 := (HF1.out j).1
     rw [← heN] at hnx hle
     rw [← he0] at hnx hyy hlen0 HBj ⊢
     have hne : eN = e0 + LN := by omega
     have hEL : e0 + LN ≤ N := by omega
     obtain ⟨ada, rfl, hada, hcella⟩ := hr.2 (by omega)
     have hsrc : ∀ (W : World), Below w.heap.size w W → ∀ (j : Nat) (v : Value), ((Wd :: (rs ++ bs)).map (Value.int .u64))[j]? = some v → W.cell? ((ada.add X).add j) = some v := by
      intro W hW j v hv
      rw [← how, List.getElem?_map, List.getElem?_take] at hv
      by_cases hj : j < LN
      ·rw [if_pos hj, List.getElem?_drop] at hv
       rw [add_of_add, hW.cell (by rw [block_of_add]; exact hada)]
       exact hcella _ _ (by rw [List.getElem?_map]; exact hv)
      ·rw [if_neg hj] at hv; cases hv
     have wx : IntKind.u64.wrap (X : Int) = X := wrap_u64_of (by omega) (by omega)
     have wy : IntKind.u64.wrap (e0 : Int) = e0 := wrap_u64_of (by omega) (by omega)
     obtain ⟨p, hp⟩ : ∃ p, p = X + 1 := ⟨_, rfl⟩
     obtain ⟨q, hq⟩ : ∃ q, q = e0 + 1 := ⟨_, rfl⟩
     have wp : IntKind.u64.wrap ((X : Int) + 1) = p := by rw [wrap_u64_of (by omega) (by omega)]; omega
     have wq : IntKind.u64.wrap ((e0 : Int) + 1) = q := by rw [wrap_u64_of (by omega) (by omega)]; omega
     obtain ⟨m1, hm1⟩ : ∃ m1, m1 = 1 + mr := ⟨_, rfl⟩
     have w1' : IntKind.i64.wrap (1 + (mr : Int)) = m1 := by rw [IntWalk.i64_in _ (by omega)]; omega
     have w2' : IntKind.i64.wrap ((m1 : Int) + mb) = LN := by rw [IntWalk.i64_in _ (by omega)]; omega
     have w3' : IntKind.i64.wrap ((X : Int) + LN) = (X : Int) + LN := IntWalk.i64_in _ (by omega)
     have w4' : IntKind.i64.wrap ((e0 : Int) + LN) = eN := by rw [IntWalk.i64_in _ (by omega)]; omega
     have e4 : ((X : Int) + LN).toNat = X + LN := by omega
     have e5 : 0 ≤ (X : Int) + LN := by omega
     have e6 : (X : Int) + LN ≤ c := by omega
     have hne1 : ¬ N = e0 := by omega
     have e7 : (e0 : Int) ≤ N := by omega
     have e8 : (0 : Int) ≤ e0 := by omega
     have e9 : e0 ≤ N := by omega
     have e10 : (X : Int) ≤ (X : Int) + LN := by omega
     have e11 : (0 : Int) ≤ X := by omega
     have hne2 : ¬ c = X := by omega
     have hnowN := HNowS.out j _ _ hx hyy x0
     rw [show ((X : Int) + 1) = p by omega, show ((e0 : Int) + 1) = q by omega] at hnowN
     have hYt : Hid (Y.take (j + 1) = Y.take j ++ [(e0 : Int)]) := by
      show _ = _
      obtain ⟨z1, z2⟩ := List.getElem?_eq_some_iff.1 hyy
      rw [List.take_succ_eq_append_getElem z1, z2]
     have HNN := Lib.hid hnowN
     have HSrc := Lib.hid hsrc
     have HAx := Lib.hid HAx
     have HCl := Lib.hid hcln
     have HRw := Lib.hid hraw
     have HLN := Lib.hid hLN
     have HEN := Lib.hid heN
     have HNE := Lib.hid hne
     have HL0 := Lib.hid hlen0
     have hj1 : j + 1 ≤ k := hlt
     have HPw : Hid ((Lit.int .u64 (p : Int)).wf = true) := by
      show _ = _
      simp [Lit.wf, IntKind.min, IntKind.max, IntKind.signed, IntKind.bits]; omega
     have hgY : ∀ g, (Value.slice AY j cY).ownBlock = some g → w3.heap.size < g := fun g hg => (hownY.lt g hg).1
     have HGY := Lib.hid hgY
     have hown2 := hownY.alloc (.cells #[.int .i64 e0] 3)
     have hnew := reads_new wr [.int .i64 e0] 3 1 1 rfl
     have hb2 := hb.alloc hb.size (.cells #[.int .i64 e0] 3)
     have HM2 := Lib.hid (HMj.out.alloc (.cells #[.int .i64 e0] 3))
     have HB2 := Lib.hid (HBj.out.alloc (.cells #[.int .i64 e0] 3))
     have HSZ : Hid (w3.heap.size + 1 ≤ (wr.alloc (.cells #[.int .i64 e0] 3)).heap.size) := by
      show _ ≤ _
      rw [World.size_alloc]; omega
     have hj257 : j ≤ 256 := by omega
     clear how hcella hsrc hcln hraw hrl hbl hcl hLN hx hyy heN hnowN hp hq hm1 hownY hgY hne hlen0 he0 HMj HBj hb ft hnx
     go_wp2_with (at_builtin; refine wpList_append_any _ rfl (.tmp 62) (.tmp 64) 23 rfl (w3.heap.size + 1) 3 i0 (.int .i64 0) 1 8 Tryz.underlying23 hi hz0 hz1 hz2 rfl (by decide) (.slice AY j cY) j _ rfl hown2 (wr.heap.size + 1) (some ⟨wr.heap.size, 0, none⟩) 1 1 [.int .i64 e0] rfl hnew (by simp [Value.oneCell']) (by unfold maxLen; omega) (by omega) HSZ.out ?_; rintro v' w5 hown5 hgr - -; obtain ⟨A7, c7, rfl⟩ := own_slice hown5; have hb5 := hb2.grown hgr hb2.size (fun g hg => by have := (hown2.lt g hg).1; omega); have HM5 := Lib.hid (HM2.out.kept hgr (fun h => by have := HGY.out _ h.symm; omega)); have HB5 := Lib.hid (HB2.out.grown hgr (fun h => by have := HGY.out _ h.symm; omega)); obtain ⟨w6, hupd, hM6, hg6⟩ := HM5.out.store (k := 40) (t := 56) Tryz.underlying40 Tryz.underlying56 (by unfold maxLen; omega) HPw.out (.int .u64 q); have HM6 := Lib.hid hM6; have hown6 := own_grown hown5 hg6 (fun g hg h => by have := (hown5.lt g hg).1; injection h with h; omega); have hb6 := hb5.grown hg6 hb5.size (fun g hg => by injection hg with hg; omega); have HB6 := Lib.hid (HB5.out.grown hg6 (fun h => by injection h with h; omega)); clear hM6 hg6 hgr)
     have hb06 := below_step hb1 hb6
     refine (HAx.out _ ((hr.below hb06).more hb06.size) HIX.out.1 HIX.out.2).mono ?_
     rintro e w7 ⟨hb7, A6, c6, A8, c8, rfl, -, -⟩
     have D7 := Blk.new w7 45 #[.int .i64 t, .slice A6 mr c6, .slice A8 mb c8, .bool false]
     have hbn7 := below_new w7 (.cells #[.int .i64 t, .slice A6 mr c6, .slice A8 mb c8, .bool false] 45)
     have hbx := below_step hb7 hbn7
     have B7 := HB6.out.below hbx HB6.out.lt
     have M7 := HM6.out.below hbx HM6.out.lt
     have O7 := own_below hown6 hbx
     have hb17 := hb6.trans (hbx.mono hb6.size)
     have hb07 := below_step hb1 hb17
     have hsz7 : w3.heap.size < (w7.alloc (.cells #[.int .i64 t, .slice A6 mr c6, .slice A8 mb c8, .bool false] 45)).heap.size := M7.lt
     have d1 := D7.cell 1
     have d2 := D7.cell 2
     simp only [List.getElem?_toArray, List.getElem?_cons_zero, List.getElem?_cons_succ] at d1 d2
     obtain ⟨W1, hrun, HB1, HM1, HO1, hbW1, hszW⟩ : ∃ W1, (Builtin.copy_ #[22, 22] 3 #[.slice (some ⟨w1.heap.size, e0, none⟩) (N - e0) (N - e0), .slice (some (ada.add X)) LN (c - X)]).run Tryz.prog (w7.alloc (.cells #[.int .i64 t, .slice A6 mr c6, .slice A8 mb c8, .bool false] 45)).drew = .ok (goInt LN) W1 ∧
       Hid (Blk W1 w1.heap.size 40 (((O.take (j + 1)).flatMap (rawW a) ++ List.replicate (N - eN) (0 : Int)).map (Value.int .u64)).toArray) ∧ Hid (MapIs W1 Tryz.prog 40 .u64 w3.heap.size (j + 1 + 1) (nowM O Y (j + 1))) ∧
       Hid (W1.ownsRow (w3.heap.size + 1) 3 1 (.slice A7 (j + 1) c7) (j + 1) ((Y.take (j + 1)).map (.int .i64))) ∧ Below w1.heap.size w1 W1 ∧ w3.heap.size < W1.heap.size := by
      have hg : (w7.alloc (.cells #[.int .i64 t, .slice A6 mr c6, .slice A8 mb c8, .bool false] 45)).drew.heap[w1.heap.size]? = some (.cells (((O.take j).flatMap (rawW a) ++ List.replicate (N - e0) (0 : Int)).map (Value.int .u64)).toArray 40 (0, 0)) := B7.drew
      have hgs := grownBy_setRow (w := (w7.alloc (.cells #[.int .i64 t, .slice A6 mr c6, .slice A8 mb c8, .bool false] 45)).drew) (g := w1.heap.size) (cs := (splice (((O.take j).flatMap (rawW a) ++ List.replicate (N - e0) (0 : Int)).map (Value.int .u64)) e0 ((Wd :: (rs ++ bs)).map (Value.int .u64))).toArray)
      refine ⟨_, run_copyK _ _ _ _ 40 1 w1.heap.size e0 (N - e0) (N - e0) (ada.add X) LN (c - X) LN (((O.take j).flatMap (rawW a) ++ List.replicate (N - e0) (0 : Int)).map (Value.int .u64)) 40 ((Wd :: (rs ++ bs)).map (Value.int .u64)) Tryz.underlying22 size_u64 hg (Nat.min_eq_left (by omega)) (by rw [List.length_map, HCl.out]; simp) (fun j v hv => HSrc.out _ hb07.drew j v hv) (by rw [List.length_map, List.length_map, HCl.out, List.length_append, HL0.out, List.length_replicate]; omega) (u64s_one _), ?_, ?_, ?_, ?_, ?_⟩
      ·show Blk _ _ _ _
       unfold Blk
       rw [setRow_heap _ _ _ _ _ _ hg, ← splice_map, HRw.out]
       congr 3
       unfold splice
       rw [HCl.out, List.take_append, List.take_of_length_le (by rw [HL0.out]; exact Nat.le_refl _), List.drop_append, List.drop_of_length_le (by rw [HL0.out]; omega), HL0.out, Nat.sub_self, List.take_zero, List.append_nil, List.nil_append, List.drop_replicate, show N - e0 - (e0 + LN - e0) = N - eN by have := HNE.out; omega]
       simp
      ·show MapIs _ _ _ _ _ _ _
       rw [HNN.out]
       exact M7.drew.kept hgs (fun h => by injection h with h; omega)
      ·show World.ownsRow _ _ _ _ _ _ _
       have e1 := List.map_append (f := Value.int .i64) (l₁ := Y.take j) (l₂ := [(e0 : Int)])
       rw [hYt.out, e1]
       exact own_grown O7.drew hgs (fun g hg h => by have := (O7.lt g hg).1; injection h with h; omega)
      ·exact below_setRow hb17.drew (Nat.le_refl _) _
      ·have := hgs.size
       exact Nat.lt_of_lt_of_le hsz7 this
     have HRun := Lib.hid hrun
     have HENi : Hid ((eN : Int) = (ej (j + 1) : Nat)) := by show _ = _; rw [HEN.out]
     clear hrun D7 hbn7 hb7 hbx B7 M7 O7 hb17 hb07 hb06 hown6 hb6 hupd hb5 hown5 hb2 hown2
     go_wp2
     go_region_law (refine step_copy_run rfl (.tmp 89) (.tmp 95) 22 22 rfl (.slice (some ⟨w1.heap.size, e0, none⟩) (N - e0) (N - e0)) (.slice (some (ada.add X)) LN (c - X)) (by simp [Act.eval, Act.put]) (by simp [Act.eval, Act.put]) HRun.out ?_)
     all_goals
      try simp only [Act.put, Act.eval, List.getElem_toArray, List.getElem_cons_zero, List.getElem_cons_succ, List.setIfInBounds_toArray, List.set_cons_zero, List.set_cons_succ]
      go_wp2
      go_roundw
      case rel => exact ⟨j + 1, A7, c7, hj1, rfl, by rw [← HENi.out], by go_num, HM1, (by rw [← HEN.out]; exact HB1), HO1.out, hbW1, hszW⟩
      case measure => simp [intOf]; omega
    ·obtain rfl : k = j := by omega
     have HB2 : Hid (Blk wr w1.heap.size 40 (((O.take 0).flatMap (newW a φ) ++ ((O.drop 0).flatMap (rawW a) ++ List.replicate (N - E) (0 : Int))).map (Value.int .u64)).toArray) := by
      have h := HBj.out
      rw [HEk.out, List.take_of_length_le (by rw [HK.out]; exact Nat.le_refl _)] at h
      exact h
     have HOY : Hid (wr.ownsRow (w3.heap.size + 1) 3 1 (.slice AY k cY) k (Y.map (.int .i64))) := by
      rw [List.take_of_length_le (by rw [HYL.out]; exact Nat.le_refl _)] at hownY
      exact hownY
     clear HBj hownY
     rw [HEk.out]
     go_wp2
     go_loopw [103] (fun i wr => ∃ j : Nat, j ≤ k ∧ i = .int .i64 j ∧ Hid (Blk wr w1.heap.size 40 (((O.take j).flatMap (newW a φ) ++ ((O.drop j).flatMap (rawW a) ++ List.replicate (N - E) (0 : Int))).map (Value.int .u64)).toArray) ∧ Hid (MapIs wr Tryz.prog 40 .u64 w3.heap.size (k + 1) (nowM O Y k)) ∧
      Hid (wr.ownsRow (w3.heap.size + 1) 3 1 (.slice AY k cY) k (Y.map (.int .i64))) ∧ Below w1.heap.size w1 wr ∧ w3.heap.size < wr.heap.size) (fun i _ => k - (intOf i).toNat)
     case atStart => exact ⟨0, Nat.zero_le _, rfl, HB2, HMj, HOY, hb, hszr⟩
     case round =>
      clear HMj HB2 HOY hb hszr hbw
      obtain ⟨j, hj, rfl, HBj, HMj, HOYj, hb, hszr⟩ := hrel
      have hbw := below_step hb1 hb
      by_cases hlt : j < k
      ·obtain ⟨ad, x, rfl, had, hx, cx⟩ := (hrO.below hb).num hlt
       obtain ⟨adY, y, rfl, hadY, hy, cy⟩ := (Reads.of_own HOYj.out).num hlt
       obtain ⟨s, i, hA⟩ := HF2.out j x hx
       obtain rfl : ((ej j : Nat) : Int) = y := Option.some.inj ((HYJ.out j hlt).symm.trans hy)
       have hle := (HF1.out (j + 1)).2.2.2.1
       have hnx := hA.next
       rw [HEJD.out] at hnx
       have r0 := hA.ok.r0
       have b0 := hA.ok.b0
       have hsl := (spotAt_some hA.spot).2.2
       have hsf := (spotAt_some hA.spot).2.1
       have hrl := refsOf_length hA.ok
       have hbl := bodyOf_length hA.ok
       have hnew := hA.new
       have hrest := hA.rest
       have hlk := hA.links
       have HAx := HAt.out x i s
       have HIX := Lib.hid (And.intro hA.ix hA.get)
       have hrin : ∀ v ∈ refsOf a s, (Lit.int .u64 v).wf = true := fun v hv => ha v (by
        unfold refsOf at hv
        exact List.mem_of_mem_drop (List.mem_of_mem_take hv))
       have hP := (HF1.out j).2.1
       have hx0 := HOn.out x (List.mem_of_getElem? hx)
       clear hA
       generalize refsOf a s = rs at *
       generalize bodyOf a s = bs at *
       generalize wordOf s.r s.b s.t s.f = Wd at *
       generalize refIx (spotsL a) a s = ri at *
       obtain ⟨loc, r, bb, t, fr⟩ := s
       simp only [Spot.long] at hsf hsl HAx hrl hbl r0 b0 hnx
       subst hsf
       subst hsl
       obtain ⟨X, rfl⟩ := Int.eq_ofNat_of_zero_le hx0
       obtain ⟨mr, rfl⟩ := Int.eq_ofNat_of_zero_le r0
       obtain ⟨mb, rfl⟩ := Int.eq_ofNat_of_zero_le b0
       simp only [Int.toNat_natCast] at hrl hbl HAx
       obtain ⟨e0, he0⟩ : ∃ e0, e0 = ej j := ⟨_, rfl⟩
       rw [← he0] at hnx hP cy
       obtain ⟨Pw, hPw⟩ : ∃ Pw, Pw = (O.take j).flatMap (newW a φ) := ⟨_, rfl⟩
       obtain ⟨Qw, hQw⟩ : ∃ Qw, Qw = (O.drop (j + 1)).flatMap (rawW a) ++ List.replicate (N - E) (0 : Int) := ⟨_, rfl⟩
       have hEe : e0 + 1 + mr ≤ E := by omega
       have HB0 : Hid (Blk wr w1.heap.size 40 ((Pw ++ ((Wd :: (((rs.take 0).map (refT φ)) ++ (rs.drop 0 ++ bs))) ++ Qw)).map (Value.int .u64)).toArray) := by
        have h := HBj.out
        rw [hrest, ← hPw] at h
        show Blk _ _ _ _
        rw [hQw]
        simpa using h
       have HBe : Hid ((O.take (j + 1)).flatMap (newW a φ) ++ ((O.drop (j + 1)).flatMap (rawW a) ++ List.replicate (N - E) (0 : Int)) = Pw ++ ((Wd :: (rs.map (refT φ) ++ bs)) ++ Qw)) := by
        show _ = _
        rw [hnew, hPw, hQw, List.append_assoc]
       rw [← hPw] at hP
       have HPl := Lib.hid hP
       have HY0 : Hid (Y[j]? = some (e0 : Int)) := by
        show _ = _
        rw [HYJ.out j hlt, he0]
       have HRl := Lib.hid hrl
       have HLk := Lib.hid hlk
       have HRin := Lib.hid hrin
       have HAx := Lib.hid HAx
       have hj1 : j + 1 ≤ k := hlt
       have cyw := cy
       have hszY : adY.block < wr.heap.size := hadY
       clear HBj hnew hrest hlk hrin hrl hbl hx hy hnx hle hP hPw hQw he0 hx0
       go_wp2_with fail
       refine (HAx.out _ ((hr.below hbw).more hbw.size) HIX.out.1 HIX.out.2).mono ?_
       rintro e w5 ⟨hb5, A6, c6, A8, c8, rfl, -, -⟩
       have D5 := Blk.new w5 45 #[.int .i64 t, .slice A6 mr c6, .slice A8 mb c8, .bool false]
       have hbn5 := below_new w5 (.cells #[.int .i64 t, .slice A6 mr c6, .slice A8 mb c8, .bool false] 45)
       have hbx := below_step hb5 hbn5
       have HB5 := Lib.hid (HB0.out.below hbx HB0.out.lt)
       have HM5 := Lib.hid (HMj.out.below hbx hszr)
       have HO5 := Lib.hid (own_below HOYj.out hbx)
       have hb15 := hb.trans (hbx.mono hb.size)
       have hsz5 : w3.heap.size < (w5.alloc (.cells #[.int .i64 t, .slice A6 mr c6, .slice A8 mb c8, .bool false] 45)).heap.size := HM5.out.lt
       have d1 := D5.cell 1
       simp only [List.getElem?_toArray, List.getElem?_cons_zero, List.getElem?_cons_succ] at d1
       clear D5 hbn5 hb5 hbx cyw
       go_wp2
       clear HB0 HMj HOYj hb hszr hbw
       go_loopw [27, 117] (fun _ i wr => ∃ q : Nat, q ≤ mr ∧ i = .int .i64 q ∧ Hid (Blk wr w1.heap.size 40 ((Pw ++ ((Wd :: (((rs.take q).map (refT φ)) ++ (rs.drop q ++ bs))) ++ Qw)).map (Value.int .u64)).toArray) ∧ Hid (MapIs wr Tryz.prog 40 .u64 w3.heap.size (k + 1) (nowM O Y k)) ∧
        Hid (wr.ownsRow (w3.heap.size + 1) 3 1 (.slice (some adY) k cY) k (Y.map (.int .i64))) ∧ Below w1.heap.size w1 wr ∧ w3.heap.size < wr.heap.size) (fun _ i _ => mr - (intOf i).toNat)
       case atStart => exact ⟨0, Nat.zero_le _, rfl, HB5, HM5, HO5, hb15, hsz5⟩
       case round =>
        obtain ⟨q, hq, rfl, HBq, HMq, HOq, hbq, hszq⟩ := hrel
        by_cases hltq : q < mr
        ·obtain ⟨adY2, y2, e3, hadY2, hy2, cy2⟩ := (Reads.of_own HOq.out).num hlt
         injection e3 with e3
         subst e3
         obtain rfl : (e0 : Int) = y2 := Option.some.inj (HY0.out.symm.trans hy2)
         have hjr : q < rs.length := by rw [HRl.out]; exact hltq
         obtain ⟨v, hv⟩ : ∃ v, rs[q]? = some v := ⟨_, List.getElem?_eq_getElem hjr⟩
         have hvw := HRin.out v (List.mem_of_getElem? hv)
         have hnow := HNow.out v (fun h0 => HLk.out v (List.mem_of_getElem? hv) h0)
         obtain ⟨z, hz⟩ : ∃ z, z = refT φ v := ⟨_, rfl⟩
         rw [← hz] at hnow
         have hlook := HMq.out.drew.look (k := 40) (t := 56) Tryz.underlying40 Tryz.underlying56 (zero_u64 _) hvw
         rw [hnow] at hlook
         simp only [Option.getD_some] at hlook
         obtain ⟨q1, hq1⟩ : ∃ q1, q1 = e0 + 1 := ⟨_, rfl⟩
         obtain ⟨q2, hq2⟩ : ∃ q2, q2 = q1 + q := ⟨_, rfl⟩
         have wq1 : IntKind.i64.wrap ((e0 : Int) + 1) = q1 := by rw [IntWalk.i64_in _ (by omega)]; omega
         have wq2 : IntKind.i64.wrap ((q1 : Int) + q) = q2 := by rw [IntWalk.i64_in _ (by omega)]; omega
         have hq2N : q2 < N := by omega
         have hq2i : (q2 : Int) < N := by omega
         have hq20 : (0 : Int) ≤ q2 := by omega
         have hji : (j : Int) < k := by omega
         have hj0 : (0 : Int) ≤ j := by omega
         have hAl : ((rs.take q).map (refT φ)).length = q := by rw [List.length_map, List.length_take]; omega
         have hlist : (Pw ++ ((Wd :: (((rs.take q).map (refT φ)) ++ (rs.drop q ++ bs))) ++ Qw))[q2]? = some v := by
          rw [List.getElem?_append_right (by rw [HPl.out]; omega), HPl.out, List.getElem?_append_left (by simp only [List.length_cons, List.length_append, hAl, List.length_drop]; omega), show q2 - e0 = q + 1 by omega, List.getElem?_cons_succ, List.getElem?_append_right (by omega), hAl, Nat.sub_self, List.drop_eq_getElem_cons hjr]
          obtain ⟨z1, z2⟩ := List.getElem?_eq_some_iff.1 hv
          rw [← z2]; rfl
         have k1 := HBq.out.cell q2
         rw [List.getElem?_toArray, List.getElem?_map, hlist, Option.map_some] at k1
         have f1 := HBq.out.frozen q2
         have HL2 := Lib.hid (And.intro hq1 hq2)
         have HAl := Lib.hid hAl
         have HZ := Lib.hid hz
         have HV := Lib.hid hv
         have HJR := Lib.hid hjr
         clear hnow hq1 hq2 hAl hlist hz hv hvw hjr hy2
         go_wp2
         go_region
         have HBn : Hid (Blk (wr.setCell ⟨w1.heap.size, q2, none⟩ (.int .u64 z)).drew w1.heap.size 40 ((Pw ++ ((Wd :: (((rs.take (q + 1)).map (refT φ)) ++ (rs.drop (q + 1) ++ bs))) ++ Qw)).map (Value.int .u64)).toArray) := by
          show Blk _ _ _ _
          obtain ⟨l1, l2⟩ := HL2.out
          have h2 := HBq.out.set_ q2 (.int .u64 z)
          have hms := mid_set (Wd := Wd) (z := z) (bs := bs) HAl.out HJR.out
          rw [List.setIfInBounds_toArray, ← List.map_set, List.set_append_right _ _ (by rw [HPl.out]; omega), HPl.out, List.set_append_left _ _ (by have := HAl.out; have := HJR.out; simp only [List.length_cons, List.length_append, List.length_drop]; omega), show q2 - e0 = 1 + q by omega, hms] at h2
          obtain ⟨z1, z2⟩ := List.getElem?_eq_some_iff.1 HV.out
          rw [List.take_succ_eq_append_getElem z1, z2, List.map_append (f := refT φ) (l₁ := rs.take q)]
          rw [HZ.out] at h2 ⊢
          exact h2.drew
         have HMn : Hid (MapIs (wr.setCell ⟨w1.heap.size, q2, none⟩ (.int .u64 z)).drew Tryz.prog 40 .u64 w3.heap.size (k + 1) (nowM O Y k)) := (HMq.out.setCell (a := ⟨w1.heap.size, q2, none⟩) (by dsimp only; omega) _).drew
         have HOn2 := Lib.hid (own_far HOq.out (p := ⟨w1.heap.size, q2, none⟩) (by dsimp only; omega) (.int .u64 z)).drew
         have hbn := (hbq.setCell (p := ⟨w1.heap.size, q2, none⟩) (Nat.le_refl _) (.int .u64 z)).drew
         have hszn : w3.heap.size < (wr.setCell ⟨w1.heap.size, q2, none⟩ (.int .u64 z)).drew.heap.size := by
          have := HMn.out.lt
          exact this
         have hq1 : q + 1 ≤ mr := hltq
         clear hlook k1 f1 hbq
         go_wp2
         go_roundw
         case rel => exact ⟨q + 1, hq1, by go_num, HBn, HMn, HOn2, hbn, hszn⟩
         case measure => simp [intOf]; omega
        ·obtain rfl : q = mr := by omega
         have HBx : Hid (Blk wr w1.heap.size 40 (((O.take (j + 1)).flatMap (newW a φ) ++ ((O.drop (j + 1)).flatMap (rawW a) ++ List.replicate (N - E) (0 : Int))).map (Value.int .u64)).toArray) := by
          show Blk _ _ _ _
          have h2 := HBq.out
          rw [List.take_of_length_le (l := rs) (by rw [HRl.out]; exact Nat.le_refl _), List.drop_of_length_le (l := rs) (by rw [HRl.out]; exact Nat.le_refl _), List.nil_append] at h2
          rw [HBe.out]
          exact h2
         go_wp2
         go_roundw
         case rel => exact ⟨j + 1, hj1, by go_num, HBx, HMq, HOq, hbq, hszq⟩
         case measure => simp [intOf]; omega
      ·obtain rfl : k = j := by omega
       have HBk : Hid (Blk wr w1.heap.size 40 ((O.flatMap (newW a φ) ++ List.replicate (N - E) (0 : Int)).map (Value.int .u64)).toArray) := by
        show Blk _ _ _ _
        have h2 := HBj.out
        rw [List.take_of_length_le (l := O) (by rw [HK.out]; exact Nat.le_refl _), List.drop_of_length_le (l := O) (by rw [HK.out]; exact Nat.le_refl _), List.flatMap_nil, List.nil_append] at h2
        exact h2
       have hNl : (O.flatMap (newW a φ)).length = E := by
        have := (HF1.out k).2.1
        rw [List.take_of_length_le (by rw [HK.out]; exact Nat.le_refl _), HEk.out] at this
        exact this
       have HNl := Lib.hid hNl
       have HOY2 := Lib.hid (own_mono (base := w.heap.size) HOYj.out (by have := hb1.size; omega))
       have HOO2 := Lib.hid (own_below HOO.out hb)
       have hbl : b.length = N := by
        rw [HWo.out, List.length_append, HNl.out, flushC_length]
        omega
       have HBL := Lib.hid hbl
       have hb1s := hb1.size
       clear HBj HMj HOYj hNl hbl
       have hfin : ∀ W : World, Blk W w1.heap.size 40 (b.map (Value.int .u64)).toArray → W.ownsRow w.heap.size 40 1 (.slice (some ⟨w1.heap.size, 0, none⟩) N N) N (b.map (.int .u64)) := fun W hW => by
        have := own_close (w := W) (base := w.heap.size) (e := 40) (size := 1) (n := N) (c := N) (g := w1.heap.size) (b.map (Value.int .u64)) hb1s hW (Nat.le_refl _) (by unfold maxLen; omega) (by rw [List.length_map, HBL.out, Nat.mul_one])
        rw [Nat.mul_one, List.take_of_length_le (by rw [List.length_map, HBL.out]; exact Nat.le_refl _)] at this
        exact this
       have HFin := Lib.hid hfin
       by_cases hlt2 : E < N
       ·obtain ⟨K, hK⟩ : ∃ K, K = N - E := ⟨_, rfl⟩
        have wK : IntKind.i64.wrap ((N : Int) - E) = K := by rw [IntWalk.i64_in _ (by omega)]; omega
        have wK2 : IntKind.i64.wrap ((K : Int) - 1) = (K : Int) - 1 := IntWalk.i64_in _ (by omega)
        have hK1 : 1 ≤ K := by omega
        have HWk := HW.out K hK1 (by omega)
        have hset := flush_set (pre := O.flatMap (newW a φ)) (rest := []) (e := E) (p := K) HNl.out (by omega)
        rw [List.append_nil, List.append_nil] at hset
        obtain ⟨wd, hwd⟩ : ∃ wd, wd = wordOf 0 ((K : Int) - 1) 0 true := ⟨_, rfl⟩
        rw [← hwd] at HWk hset
        have HWk := Lib.hid HWk
        have HBk2 : Hid (Blk wr w1.heap.size 40 ((O.flatMap (newW a φ) ++ List.replicate K (0 : Int)).map (Value.int .u64)).toArray) := by
         rw [hK]; exact HBk.out
        have HSet : Hid ((O.flatMap (newW a φ) ++ List.replicate K (0 : Int)).set E wd = b) := by
         show _ = _
         rw [hset, HWo.out, hK]
        have hgi : (E : Int) < N := by omega
        have hg0 : (0 : Int) ≤ E := by omega
        have hget : (O.flatMap (newW a φ) ++ List.replicate K (0 : Int))[E]? = some 0 := by
         rw [List.getElem?_append_right (by rw [HNl.out]; exact Nat.le_refl _), HNl.out, Nat.sub_self, List.getElem?_replicate, if_pos (by omega)]
        have HGet := Lib.hid hget
        clear hset hwd hK hget hfin HBk
        go_wp2_with fail
        refine (HWk.out _).mono ?_
        rintro e w5 ⟨rfl, hb5⟩
        have B5 := HBk2.out.below hb5 HBk2.out.lt
        have O5 := own_below HOY2.out hb5
        have P5 := own_below HOO2.out hb5
        have hb15 := hb.trans (hb5.mono hb.size)
        have k1 := B5.cell E
        rw [List.getElem?_toArray, List.getElem?_map, HGet.out, Option.map_some] at k1
        have f1 := B5.frozen E
        have HB5 := Lib.hid B5
        have HO5 := Lib.hid O5
        have HP5 := Lib.hid P5
        clear B5 O5 P5
        go_wp2
        have hB6 : Blk (w5.setCell ⟨w1.heap.size, E, none⟩ (.int .u64 wd)) w1.heap.size 40 (b.map (Value.int .u64)).toArray := by
         have h2 := HB5.out.set_ E (.int .u64 wd)
         rw [List.setIfInBounds_toArray, ← List.map_set, HSet.out] at h2
         exact h2
        refine bodyPost_ret (results_tmp4c rfl _ _ _) rfl ⟨below_step hb1 (hb15.setCell (p := ⟨w1.heap.size, E, none⟩) (Nat.le_refl _) _), O, HO0.out, .inl ⟨Y, b, k, some ⟨w1.heap.size, 0, none⟩, N, _, _, _, _, HI.out, HK.out, rfl, HFin.out _ hB6, ?_, ?_⟩⟩
        ·exact own_apart HP5.out (own_blk_ne HP5.out HB5.out (by decide)) _
        ·exact own_apart HO5.out (own_blk_ne HO5.out HB5.out (by decide)) _
       ·have hEN3 : E = N := by omega
        have hB6 : Blk wr w1.heap.size 40 (b.map (Value.int .u64)).toArray := by
         have h2 := HBk.out
         have e1 : N - E = 0 := by omega
         rw [e1] at h2
         rw [HWo.out, e1]
         exact h2
        have HB6 := Lib.hid hB6
        have hd2 : decide (E < N) = false := decide_eq_false hlt2
        clear hB6 hEN3 hfin HBk
        go_wp2
        refine bodyPost_ret (results_tmp4c rfl _ _ _) rfl ⟨below_step hb1 hb, O, HO0.out, .inl ⟨Y, b, k, some ⟨w1.heap.size, 0, none⟩, N, _, _, _, _, HI.out, HK.out, rfl, HFin.out _ HB6.out, ?_, ?_⟩⟩
        ·exact HOO2.out
        ·exact HOY2.out
  ·have HNF : Hid (¬ longsL (spotsL a) O ≤ N) := by
    show ¬ _
    rw [hE]; exact hfit
   have hgt : (N : Int) < E := by omega
   clear hfit hIs hE hE0 hk hownO B0 hnn hC
   go_wp2_with fail
   refine (HNw.out _).mono ?_
   rintro e w2 ⟨rfl, rfl⟩
   go_wp2_with fail
   refine hWd.out.mono ?_
   rintro e w3 ⟨hb3, rfl⟩
   go_wp2
   refine bodyPost_ret (results_tmp4c rfl _ _ _) rfl ⟨below_step hb1 (below_step hbn hb3), O, HO0.out, .inr ⟨HNF.out, rfl⟩⟩
 ·exact absurd (HFF.out z hz) hz2
def BuildGives (os : List Ob) (fr : List Int) (n2 : Nat) (N : Int) (base : Nat) (e : Ending) (w' : World) : Prop :=
 (∃ (M : Nat) (A1 : Option Addr) (c1 : Nat) (A4 : Option Addr) (c4 : Nat), N = M ∧ LayOk os M ∧ e = .returned (.tuple #[.slice A1 M c1, .slice A4 n2 c4, .int .i64 0]) ∧ w'.ownsRow base 40 1 (.slice A1 M c1) M ((layW os M).map (.int .u64)) ∧
   w'.ownsRow base 3 1 (.slice A4 n2 c4) n2 ((fr.map fun k => ((begO os k.toNat : Nat) : Int)).map (.int .i64))) ∨
 (¬ LayOk os N ∧ ∃ er : Int, (er != 0) = true ∧ e = .returned (.tuple #[.slice none 0 0, .slice none 0 0, .int .i64 er]))
set_option maxRecDepth 100000 in
set_option maxHeartbeats 2000000 in
theorem build_any (A : Option Addr) (n c : Nat) (os : List Ob) (vs : List ObV) (Af : Option Addr) (n2 cf : Nat) (fr : List Int) (N : Int) (w : World) (hr : Reads w w.heap.size 4 A n (vs.flatMap obvC)) (ho : ObsR w w.heap.size os vs) (hln : os.length = n) (hn : n ≤ 2199023255552)
  (hwr : ∀ o ∈ os, (∀ x ∈ o.refs, (Lit.int .i64 x).wf = true) ∧ ∀ x ∈ o.body, (Lit.int .u64 x).wf = true) (hlw : ∀ M : Nat, LayOk os M → ∀ x ∈ layW os M, (Lit.int .u64 x).wf = true) (hrf : Reads w w.heap.size 1 Af n2 (fr.map (.int .i64))) (hn2 : n2 * 8 ≤ 140737488355328)
  (hfr : ∀ k ∈ fr, 0 ≤ k ∧ ∃ o, os[k.toNat]? = some o ∧ o.f = false) :
  Calls Tryz.prog 8 #[.agg #[.slice A n c, .slice Af n2 cf], .int .i64 N] w fun e w' => Below w.heap.size w w' ∧ BuildGives os fr n2 N w.heap.size e w' := by
 have hfl : fr.length = n2 := by have := hrf.1; simpa using this
 have HLay := Lib.hid (fun w hr ho => lay_any A n c os vs N w hr ho hln hn hwr)
 have HLn := Lib.hid hln
 have HOb := Lib.hid ho
 have HFr := Lib.hid hfr
 have HFL := Lib.hid hfl
 have HLw := Lib.hid hlw
 have hb0 := below_new w (.cells #[.slice A n c, .slice Af n2 cf] 26)
 have D0 := Blk.new w 26 #[.slice A n c, .slice Af n2 cf]
 have d0 := D0.cell 0
 simp only [List.getElem?_toArray, List.getElem?_cons_zero, List.getElem?_cons_succ] at d0
 obtain ⟨i0, hi, hz0, hz1, hz2⟩ := info_parts info_int
 clear hfl hln ho hfr hwr hlw
 go_enter Tryz.func8, Tryz.ntmps8
 go_wp2_with fail
 refine (HLay.out _ ((hr.below hb0).more hb0.size) (HOb.out.keep hb0 hb0.size)).mono ?_
 rintro e w2 ⟨hb2, ⟨M, A1, c1, rfl, hok, rfl, hown1⟩ | ⟨hno, er, her, rfl⟩⟩
 ·have hb02 := below_step hb0 hb2
  have D2 := D0.below hb2 D0.lt
  obtain ⟨g1, g2, -⟩ := lay_objects hok
  have hsp := spots_any A1 M c1 (layW os M) w2 (Reads.of_own hown1) (HLw.out M hok)
  rw [(checkE_ok.1 g1).1] at hsp
  have hget : ∀ (k : Nat) (o : Ob), os[k]? = some o → ∃ s, (spotsL (layW os M))[k]? = some s ∧ s.loc = (begO os k : Nat) := fun k o hk => by
   obtain ⟨h1, h2⟩ := layCs_get (N := M) hk
   exact ⟨_, by rw [g2]; exact spotsFrom_get h1, by rw [← h2]; rfl⟩
  have hnl : n ≤ 256 := by have := totO_len os; have := hok.fit; have := hok.hi; have := HLn.out; omega
  have hsl := spotsL_length (layW os M)
  generalize spotsL (layW os M) = Sp at *
  obtain ⟨kS, hkS⟩ : ∃ kS, kS = Sp.length := ⟨_, rfl⟩
  rw [← hkS] at hsp hsl
  have HSp := Lib.hid hsp
  have HGet := Lib.hid hget
  have HOk := Lib.hid hok
  have HO1 := Lib.hid hown1
  have HKS := Lib.hid hkS
  clear hsp hget hok hown1 g1 g2 hkS
  go_wp2_with fail
  refine HSp.out.mono ?_
  rintro e w3 ⟨hb3, A5, c5, rfl, hown5⟩
  have hb03 := below_step hb02 hb3
  have D3 := D2.below hb3 D2.lt
  have HO3 := Lib.hid (own_mono (own_below HO1.out hb3) hb0.size)
  have hrS := Reads.of_own hown5
  have d31 := D3.cell 1
  simp only [List.getElem?_toArray, List.getElem?_cons_zero, List.getElem?_cons_succ] at d31
  have HD3 := Lib.hid D3
  clear hown5 hb2 hb3 D2 D3 D0 hb02
  go_wp2
  go_loopw [11, 32] (fun v i wr => ∃ (j : Nat) (A6 : Option Addr) (c6 : Nat), j ≤ n2 ∧ v = .slice A6 j c6 ∧ i = .int .i64 j ∧ wr.ownsRow w3.heap.size 3 1 (.slice A6 j c6) j (((fr.take j).map fun k => ((begO os k.toNat : Nat) : Int)).map (.int .i64)) ∧ Below w3.heap.size w3 wr) (fun _ i _ => n2 - (intOf i).toNat)
  case atStart => exact ⟨0, none, 0, Nat.zero_le _, rfl, rfl, World.ownsRow_nil _ _ _ _, Below.refl _ _⟩
  case round =>
   obtain ⟨j, A6, c6, hj, rfl, rfl, hown, hb⟩ := hrel
   have hbw := below_step hb03 hb
   by_cases hlt : j < n2
   ·obtain ⟨ad, x, rfl, had, hx, cx⟩ := (hrf.below hbw).num hlt
    obtain ⟨x0, o, hxo, hof⟩ := HFr.out x (List.mem_of_getElem? hx)
    obtain ⟨K, rfl⟩ := Int.eq_ofNat_of_zero_le x0
    rw [Int.toNat_natCast] at hxo
    have hKn : K < n := by have := (List.getElem?_eq_some_iff.1 hxo).1; have := HLn.out; omega
    obtain ⟨s, hs, hsl2⟩ := HGet.out K o hxo
    have hKS : K < kS := by rw [HKS.out]; exact (List.getElem?_eq_some_iff.1 hs).1
    obtain ⟨adS, s', rfl, hadS, hs', e0, -⟩ := (hrS.below hb).spot hKS
    obtain rfl : s = s' := Option.some.inj (hs.symm.trans hs')
    obtain ⟨ado, v, rfl, hado, hv, m0, m1, m2, m3⟩ := (hr.below hbw).obv hKn
    have hvf := (HOb.out.2 K o v hxo hv).2.1
    rw [hvf, hof] at m3
    have DD := HD3.out.below hb HD3.out.lt
    have q0 := DD.cell 0
    have q1 := DD.cell 1
    simp only [List.getElem?_toArray, List.getElem?_cons_zero, List.getElem?_cons_succ] at q0 q1
    obtain ⟨B, hB⟩ : ∃ B, B = begO os K := ⟨_, rfl⟩
    rw [hsl2, ← hB] at e0
    have z1 : decide ((K : Int) < 0) = false := decide_eq_false (by omega)
    have z2 : decide (n ≤ K) = false := decide_eq_false (by omega)
    have hown2 := hown.alloc (.cells #[.int .i64 B] 3)
    have hb2' := hb.alloc hb.size (.cells #[.int .i64 B] 3)
    have hnew := reads_new wr [.int .i64 B] 3 1 1 rfl
    have HT : Hid ((fr.take (j + 1)).map (fun k => ((begO os k.toNat : Nat) : Int)) = (fr.take j).map (fun k => ((begO os k.toNat : Nat) : Int)) ++ [(B : Int)]) := by
     show _ = _
     obtain ⟨y1, y2⟩ := List.getElem?_eq_some_iff.1 hx
     rw [List.take_succ_eq_append_getElem y1, y2, List.map_append]
     simp [hB]
    have hj1 : j + 1 ≤ n2 := hlt
    have hsz := hb.size
    have hKi : (K : Int) < kS := by omega
    have hK0 : (0 : Int) ≤ K := by omega
    have hKi2 : (K : Int) < n := by omega
    clear hx hxo hs hs' hsl2 hB hv hvf hown hb DD
    go_wp2_with (at_builtin; refine wpList_append_any _ rfl (.tmp 53) (.tmp 59) 23 rfl w3.heap.size 3 i0 (.int .i64 0) 1 8 Tryz.underlying23 hi hz0 hz1 hz2 rfl (by decide) (.slice A6 j c6) j _ rfl hown2 (wr.heap.size + 1) (some ⟨wr.heap.size, 0, none⟩) 1 1 [.int .i64 B] rfl hnew (by simp [Value.oneCell']) (by unfold maxLen; omega) (by omega) (by simp; omega) ?_; rintro v' w5 hown5 hgr - -; obtain ⟨A7, c7, rfl⟩ := own_slice hown5)
    have hb5 := hb2'.grown hgr hb2'.size (fun g hg => (hown2.lt g hg).1)
    go_roundw
    case rel => exact ⟨j + 1, A7, c7, hj1, rfl, by go_num, by rw [HT.out, List.map_append]; exact hown5, hb5⟩
    case measure => simp [intOf]; omega
   ·obtain rfl : n2 = j := by omega
    rw [List.take_of_length_le (by rw [HFL.out]; exact Nat.le_refl _)] at hown
    have HO1' := own_below HO3.out hb
    go_wp2
    go_ret3
    exact ⟨hbw, .inl ⟨M, A1, c1, A6, c6, rfl, HOk.out, rfl, HO1', own_mono hown (by have := hb03.size; omega)⟩⟩
 ·have HNo := Lib.hid hno
  clear hno
  go_wp2
  go_ret3
  exact ⟨below_step hb0 hb2, .inr ⟨HNo.out, er, her, rfl⟩⟩
def NoCopy (a f : List Int) (N : Int) : Prop := ¬ AliveF a f ∨ N < 0 ∨ 256 < N ∨ ∃ O, Ordered a (spotsL a) f O ∧ ¬ longsL (spotsL a) O ≤ N
def CopyGives (a f : List Int) (N : Int) (base : Nat) (e : Ending) (w' : World) : Prop :=
 (∃ (M : Nat) (O : List Int), N = M ∧ AliveF a f ∧ CopyRet a f M O base e w') ∨ (NoCopy a f N ∧ ∃ er : Int, (er != 0) = true ∧ e = .returned (.tuple #[.slice none 0 0, .slice none 0 0, .slice none 0 0, .int .i64 er]))
set_option maxRecDepth 100000 in
set_option maxHeartbeats 1000000 in
theorem copy_any (A : Option Addr) (n c : Nat) (a : List Int) (A2 : Option Addr) (n2 c2 : Nat) (f : List Int) (N : Int) (w : World) (hr : Reads w w.heap.size 1 A n (a.map (.int .u64))) (hnc : n ≤ c) (hc : c ≤ maxLen) (ha : ∀ x ∈ a, (Lit.int .u64 x).wf = true)
  (hr2 : Reads w w.heap.size 1 A2 n2 (f.map (.int .i64))) (hn2 : n2 ≤ 1000000000000000000) (hx2 : ∀ x ∈ f, (Lit.int .i64 x).wf = true) :
  Calls Tryz.prog 6 #[.slice A n c, .slice A2 n2 c2, .int .i64 N] w fun e w' => Below w.heap.size w w' ∧ CopyGives a f N w.heap.size e w' := by
 by_cases hE : checkE a = 0
 ·by_cases hF : ∀ x ∈ f, x ∈ begsL (spotsL a)
  ·by_cases hN : 0 ≤ N ∧ N ≤ 256
   ·obtain ⟨M, rfl⟩ := Int.eq_ofNat_of_zero_le hN.1
    refine (copy_good A n c a A2 n2 c2 M f w hr hnc hc ha hr2 hn2 hx2 hE hF (by omega)).mono ?_
    rintro e w' ⟨hb, O, hO, h | ⟨h1, rfl⟩⟩
    ·exact ⟨hb, .inl ⟨M, O, rfl, ⟨hE, hF⟩, h⟩⟩
    ·exact ⟨hb, .inr ⟨.inr (.inr (.inr ⟨O, hO, h1⟩)), 7, by decide, rfl⟩⟩
   ·have hN2 : N < 0 ∨ 256 < N := by omega
    have HNo : Hid (NoCopy a f N) := by
     rcases hN2 with h | h
     ·exact .inr (.inl h)
     ·exact .inr (.inr (.inl h))
    have HO := Lib.hid (fun w hr hr2 => order_ok A n c a A2 n2 c2 f w hr hnc ha hr2 hn2 hx2 hE)
    have HNw := Lib.hid (fun w => wnew_bad N w hN2)
    have HFF := Lib.hid hF
    clear hN hN2 hF hE hx2
    go_enter Tryz.func6, Tryz.ntmps6
    go_wp2_with fail
    refine (HO.out _ hr hr2).mono ?_
    rintro e w1 ⟨hb1, ⟨O, AO, cO, hO, rfl, hownO⟩ | ⟨⟨z, hz, hz2⟩, -⟩⟩
    ·clear hO hownO
     go_wp2_with fail
     refine (HNw.out _).mono ?_
     rintro e w2 ⟨rfl, rfl⟩
     go_wp2
     exact bodyPost_ret (results_tmp4c rfl _ _ _) rfl ⟨hb1, .inr ⟨HNo.out, 4, by decide, rfl⟩⟩
    ·exact absurd (HFF.out z hz) hz2
  ·have HNo : Hid (NoCopy a f N) := .inl (fun h => hF h.2)
   have HFF := Lib.hid hF
   have HO := Lib.hid (fun w hr hr2 => order_ok A n c a A2 n2 c2 f w hr hnc ha hr2 hn2 hx2 hE)
   clear hF hE hx2
   go_enter Tryz.func6, Tryz.ntmps6
   go_wp2_with fail
   refine (HO.out _ hr hr2).mono ?_
   rintro e w1 ⟨hb1, ⟨O, AO, cO, hO, rfl, hownO⟩ | ⟨-, rfl⟩⟩
   ·exact absurd (fun x hx => hO.search.begs x (hO.roots x hx)) HFF.out
   ·go_wp2
    exact bodyPost_ret (results_tmp4c rfl _ _ _) rfl ⟨hb1, .inr ⟨HNo.out, 5, by decide, rfl⟩⟩
 ·have HNo : Hid (NoCopy a f N) := .inl (fun h => hE h.1)
  have HO := Lib.hid (fun w hr => order_bad A n c a A2 n2 c2 w hr hnc ha hE)
  have hE1 : (checkE a != 0) = true := by simpa using hE
  generalize checkE a = E at *
  clear hE hx2
  go_enter Tryz.func6, Tryz.ntmps6
  go_wp2_with fail
  refine (HO.out _ hr).mono ?_
  rintro e w1 ⟨rfl, hb1⟩
  go_wp2
  exact bodyPost_ret (results_tmp4c rfl _ _ _) rfl ⟨hb1, .inr ⟨HNo.out, E, hE1, rfl⟩⟩
theorem copy_clean_forms {a f O Y b L Z c now : List Int} {N : Nat} (hI : CopyIs a f N O Y b) (hJ : CleanIs a f [] L Z c now) {os os' : List Ob} {fr fr' : List Int} (h1 : FormIs b (f.map (posL O Y)) os fr) (h2 : FormIs c now os' fr') : os = os' ∧ fr = fr' := by
 have hF : FormIs a f (O.map (formO a (spotsL a) O)) (f.map (idxL O)) := ⟨O, hI.ordered, rfl, rfl⟩
 obtain ⟨e1, e2⟩ := (copied_of hI).form hI.ordered.roots hF h1
 obtain ⟨e3, e4⟩ := (cleaned_of hJ).form (by rw [List.append_nil]; exact hF) (by rw [List.append_nil]; exact h2)
 exact ⟨e1.symm.trans e3, e2.symm.trans e4⟩
set_option maxRecDepth 100000 in
set_option maxHeartbeats 4000000 in
theorem topPlaces_any (A : Option Addr) (n c : Nat) (a : List Int) (A2 : Option Addr) (n2 c2 : Nat) (f : List Int) (w : World) (hr : Reads w w.heap.size 1 A n (a.map (.int .u64))) (hnc : n ≤ c) (hc : c ≤ maxLen) (ha : ∀ x ∈ a, (Lit.int .u64 x).wf = true)
  (hr2 : Reads w w.heap.size 1 A2 n2 (f.map (.int .i64))) (_ : n2 ≤ c2) (_ : c2 ≤ maxLen) (hx2 : ∀ z ∈ f, (Lit.int .i64 z).wf = true) (hn2 : n2 * 8 ≤ 140737488351232) (hT : DTab w.heap.size w) :
  Calls Tryz.prog 3 #[.slice A n c, .slice A2 n2 c2] w fun e w' => e = .returned (.bool true) ∧ Below w.heap.size w w' := by
 have hfl : f.length = n2 := by have := hr2.1; simpa using this
 have hal : a.length = n := by have := hr.1; simpa using this
 have HF := Lib.hid (fun w hr hr2 => form_any A n c a A2 n2 c2 f w hr hnc ha hr2 (by omega) hx2)
 have HWk := Lib.hid (fun w1 (hb : Below w.heap.size w w1) => works_true w1 (hT.up hb))
 have HC := Lib.hid (fun w hr hr2 => copy_any A n c a A2 n2 c2 f n w hr hnc hc ha hr2 (by omega) hx2)
 have HS := Lib.hid (fun w hr hr2 => clean_any A n c a A2 n2 c2 f none 0 0 [] w hr hnc hc ha hr2 hn2 hx2 Reads.none_ (by decide) (by simp))
 have HA := Lib.hid (fun A1 M c1 (b : List Int) (h1 : M ≤ c1) (hb : ∀ x ∈ b, (Lit.int .u64 x).wf = true) A5 c5 (g : List Int) (hg : ∀ x ∈ g, (Lit.int .i64 x).wf = true) A2 M2 c2 (b2 : List Int) (h2 : M2 ≤ c2) (hb2 : ∀ x ∈ b2, (Lit.int .u64 x).wf = true) A6 c6 (g2 : List Int) (hg2 : ∀ x ∈ g2, (Lit.int .i64 x).wf = true) w hr1 hr2 hr3 hr4 =>
  alike_any A1 M c1 b A5 n2 c5 g A2 M2 c2 b2 A6 n2 c6 g2 w hr1 h1 hb hr2 (by omega) hg hr3 h2 hb2 hr4 (by omega) hg2)
 have HAW := Lib.hid ha
 have HFL := Lib.hid hfl
 have HAL := Lib.hid hal
 obtain ⟨i0, hi, hz0, hz1, hz2⟩ := info_parts info_int
 have hn2b : n2 * 8 ≤ 140737488355328 := by omega
 have hn2c : n2 ≤ 100000000000000 := by omega
 clear ha hx2 hfl hal hT hn2
 go_enter Tryz.func3, Tryz.ntmps3
 go_wp2_with fail
 refine (HF.out _ hr hr2).mono ?_
 rintro e w2 ⟨hb2, ⟨hAl, os, fr, vs, Ao, co, Af, cf, hFI, hol, hfl, rfl, hownO, hObs, hownF⟩ | ⟨hno, er, her, rfl⟩⟩
 ·obtain ⟨O1, hFO⟩ := form_good hAl.1 HAW.out hFI
  obtain ⟨kf, hkf⟩ : ∃ k, k = os.length := ⟨_, rfl⟩
  rw [← hkf] at hownO ⊢
  have hk256 : kf ≤ 256 := by omega
  have hb3 := hb2.alloc hb2.size (.cells #[.slice Ao kf co, .slice Af n2 cf] 26)
  have hb23 := below_new w2 (.cells #[.slice Ao kf co, .slice Af n2 cf] 26)
  have G2 := Blk.new w2 26 #[.slice Ao kf co, .slice Af n2 cf]
  have hLay := form_lays hAl.1 hFO.ord hFO.os_
  rw [HAL.out] at hLay
  have HB := Lib.hid (fun w hr ho hrf => build_any Ao kf co os vs Af n2 cf fr n w hr ho hkf.symm (by omega) hFO.wf (fun M hL => (built_form hAl.1 hFO hL).1.wf HAW.out) hrf hn2b hFO.at_)
  have HBF := Lib.hid (And.intro hLay (built_form hAl.1 hFO hLay))
  have HALv := Lib.hid hAl
  have HrO := Lib.hid (Reads.of_own hownO)
  have HrF := Lib.hid (Reads.of_own hownF)
  have HoR := Lib.hid hObs.reads
  clear hAl hFI hol hfl hownO hObs hownF hFO hkf hLay HF hb2
  go_wp2_with fail
  refine (HWk.out _ hb3).mono ?_
  rintro e w4 ⟨rfl, hb4⟩
  have hb04 := below_step hb3 hb4
  have hb24 := below_step hb23 hb4
  have G4 := G2.below hb4 G2.lt
  clear HWk hb3 hb23 hb4 G2
  go_wp2_with fail
  refine (HC.out _ ((hr.below hb04).more hb04.size) ((hr2.below hb04).more hb04.size)).mono ?_
  rintro e w5 ⟨hb5, ⟨M, O, hMe, -, Y, b, k, A1, c1, AO, cO, AY, cY, hI, hk, rfl, hown1, hownO, hownY⟩ | ⟨hno, -⟩⟩
  ·obtain rfl : n = M := by omega
   have hb05 := below_step hb04 hb5
   have hb25 := below_step hb24 hb5
   have G5 := G4.below hb5 G4.lt
   have hk256' : k ≤ 256 := by rw [hk]; exact (copied_of hI).lenO
   obtain ⟨eO, eY, eb⟩ := hI.unique HBF.out.2.1
   have hnow := HBF.out.2.2.1
   rw [← eO, ← eb] at HBF
   rw [← eO] at eY
   rw [← eO, ← eY] at hnow
   have HBb := Lib.hid eb.symm
   have HBn := Lib.hid hnow
   have hLO := HBF.out.1
   have HI := Lib.hid hI
   have HK := Lib.hid hk
   have hn256 := hI.le
   have hrb := Reads.of_own hown1
   have hrO := Reads.of_own hownO
   have hrY := Reads.of_own hownY
   have hc1 := own_cap hown1
   clear hI hk hown1 hownO hownY hMe eO eY eb hnow HC hb5 G4
   go_wp2_with fail
   refine (HS.out _ ((hr.below hb05).more hb05.size) ((hr2.below hb05).more hb05.size)).mono ?_
   rintro e w6 ⟨hb6, ⟨-, L, Z, d, now, A3, c3, A4, c4, hJ, rfl, hown3, hown4⟩ | ⟨hno, -⟩⟩
   ·have hb06 := below_step hb05 hb6
    have hb26 := below_step hb25 hb6
    have G6 := G5.below hb6 G5.lt
    have HJ := Lib.hid hJ
    have hrd := Reads.of_own hown3
    have hrn4 := Reads.of_own hown4
    have hc3 := own_cap hown3
    have hrb6 := (hrb.below hb6).more hb6.size
    have hrO6 := (hrO.below hb6).more hb6.size
    have hrY6 := (hrY.below hb6).more hb6.size
    have g0 := G6.cell 0
    have g1 := G6.cell 1
    simp only [List.getElem?_toArray, List.getElem?_cons_zero, List.getElem?_cons_succ] at g0 g1
    clear hJ hown3 hown4 HS hb05 hb25 G5 hrb hrO hrY hb6
    go_wp2_with fail
    refine (HB.out _ ((HrO.out.below hb26).more hb26.size) (HoR.out.keep hb26 hb26.size) ((HrF.out.below hb26).more hb26.size)).mono ?_
    rintro e w7 ⟨hb7, ⟨M, A5, c5, A6, c6, hMn, -, rfl, hown5, hown6⟩ | ⟨hno, -⟩⟩
    ·obtain rfl : n = M := by omega
     rw [HBb.out] at hown5
     rw [HBn.out] at hown6
     have hb07 := below_step hb06 hb7
     have hrb7 := (hrb6.below hb7).more hb7.size
     have hrO7 := (hrO6.below hb7).more hb7.size
     have hrY7 := (hrY6.below hb7).more hb7.size
     have hrd7 := (hrd.below hb7).more hb7.size
     have hrn7 := (hrn4.below hb7).more hb7.size
     have hrB7 := Reads.of_own hown5
     have hrN7 := Reads.of_own hown6
     have hc5 := own_cap hown5
     have hJD := cleaned_of HJ.out
     obtain ⟨hdw, hnw⟩ := hJD.wf HJ.out HAW.out
     have hcI := copied_of HI.out
     have hEq := fun os os' fr fr' h1 h2 => copy_clean_forms (os := os) (os' := os') (fr := fr) (fr' := fr') HI.out HJ.out h1 h2
     have hbw := HI.out.wf HAW.out
     have hix := HI.out.ix
     have hfO : ∀ x ∈ f, x ∈ O := HI.out.ordered.roots
     have hnf := HI.out.nowf
     have hA1 : AliveF b (f.map (posL O Y)) := ⟨hcI.laid.check, hcI.alive hfO⟩
     have hA2 : AliveF d now := ⟨hJD.laid.check, fun x hx => hJD.alive x (List.mem_append_left _ hx)⟩
     clear HB HBF HBb HBn HI HJ hcI hJD hLO G6 g0 g1 HrO HrF HoR hb26
     generalize posL O Y = φ at *
     rw [← HK.out] at hix
     have HEq := Lib.hid hEq
     have HAA := Lib.hid (fun A7 c7 => HA.out A1 n c1 b hc1 hbw A7 c7 (f.map φ) hnf A3 n c3 d hc3 hdw A4 c4 now hnw)
     have HAB := Lib.hid (fun w h1 h2 h3 h4 => HA.out A3 n c3 d hc3 hdw A4 c4 now hnw A5 n c5 b hc5 hbw A6 c6 (f.map φ) hnf w h1 h2 h3 h4)
     have HALL := Lib.hid (And.intro hA1 hA2)
     have HIX := Lib.hid hix
     have HFO := Lib.hid hfO
     clear hdw hnw hEq hbw hix hfO hnf hA1 hA2 hown5 hown6 HA hrb6 hrO6 hrY6 hrd hrn4 hc1 hc3 hc5
     go_wp2_with fail
     go_loopw [17, 75] (fun v i wr => ∃ (j : Nat) (A7 : Option Addr) (c7 : Nat), j ≤ n2 ∧ v = .slice A7 j c7 ∧ i = .int .i64 j ∧ wr.ownsRow w7.heap.size 3 1 (.slice A7 j c7) j (((f.take j).map φ).map (.int .i64)) ∧ Below w7.heap.size w7 wr) (fun _ i _ => n2 - (intOf i).toNat)
     case atStart => exact ⟨0, none, 0, Nat.zero_le _, rfl, rfl, World.ownsRow_nil _ _ _ _, Below.refl _ _⟩
     case round =>
      obtain ⟨j, A7, c7, hj, rfl, rfl, hown, hb⟩ := hrel
      have hbw := below_step hb07 hb
      by_cases hlt : j < n2
      ·obtain ⟨ad, x, rfl, had, hx, cx⟩ := (hr2.below hbw).num hlt
       obtain ⟨q, y, q1, q2, q3, q4⟩ := HIX.out x (HFO.out x (List.mem_of_getElem? hx))
       obtain ⟨adY, y', rfl, hadY, hy', cy⟩ := (hrY7.below hb).num q1
       obtain rfl : y = y' := Option.some.inj (q3.symm.trans hy')
       have HX := index_int AO k cO w7.heap.size O x wr (hrO7.below hb) (by omega)
       rw [q2] at HX
       have HX := Lib.hid HX
       have hown2 := hown.alloc (.cells #[.int .i64 y] 3)
       have hb2' := hb.alloc hb.size (.cells #[.int .i64 y] 3)
       have hnew := reads_new wr [.int .i64 y] 3 1 1 rfl
       have HT : Hid ((f.take (j + 1)).map φ = (f.take j).map φ ++ [y]) := by
        show _ = _
        obtain ⟨z1, z2⟩ := List.getElem?_eq_some_iff.1 hx
        rw [List.take_succ_eq_append_getElem z1, z2, List.map_append, ← q4]
        rfl
       have hj1 : j + 1 ≤ n2 := hlt
       have hsz := hb.size
       have g1 : decide (k ≤ q) = false := decide_eq_false (by omega)
       have g2 : decide ((q : Int) < 0) = false := decide_eq_false (by omega)
       have g3 : decide ((k : Int) ≤ (q : Int)) = false := decide_eq_false (by omega)
       clear q2 q3 q4 hx hy' hown hb
       go_wp2_with fail
       refine HX.out.mono ?_
       rintro e w5 ⟨rfl, rfl⟩
       go_wp2_with (at_builtin; refine wpList_append_any _ rfl (.tmp 90) (.tmp 95) 23 rfl w7.heap.size 3 i0 (.int .i64 0) 1 8 Tryz.underlying23 hi hz0 hz1 hz2 rfl (by decide) (.slice A7 j c7) j _ rfl hown2 (wr.heap.size + 1) (some ⟨wr.heap.size, 0, none⟩) 1 1 [.int .i64 y] rfl hnew (by simp [Value.oneCell']) (by unfold maxLen; omega) (by omega) (by simp; omega) ?_; rintro v' w5 hown5 hgr - -; obtain ⟨A7', c7', rfl⟩ := own_slice hown5)
       have hb5 := hb2'.grown hgr hb2'.size (fun g hg => (hown2.lt g hg).1)
       go_roundw
       case rel => exact ⟨j + 1, A7', c7', hj1, rfl, by go_num, by rw [HT.out, List.map_append]; exact hown5, hb5⟩
       case measure => simp [intOf]; omega
      ·obtain rfl : n2 = j := by omega
       rw [List.take_of_length_le (by rw [HFL.out]; exact Nat.le_refl _)] at hown
       have hrn := Reads.of_own hown
       clear hown
       go_wp2_with fail
       refine (HAA.out A7 c7 _ ((hrb7.below hb).more hb.size) hrn ((hrd7.below hb).more hb.size) ((hrn7.below hb).more hb.size)).mono ?_
       rintro e w8 ⟨hb8, ⟨-, -, os1, fr1, os2, fr2, h1, h2, rfl⟩ | ⟨hno, -⟩⟩
       ·obtain ⟨rfl, rfl⟩ := HEq.out _ _ _ _ h1 h2
        have hb08 := below_step hbw hb8
        have hb78 := hb.trans (hb8.mono hb.size)
        clear h1 h2
        simp only [decide_true, Bool.and_self]
        go_wp2_with fail
        refine (HAB.out _ ((hrd7.below hb78).more hb78.size) ((hrn7.below hb78).more hb78.size) ((hrB7.below hb78).more hb78.size) ((hrN7.below hb78).more hb78.size)).mono ?_
        rintro e w9 ⟨hb9, ⟨-, -, os3, fr3, os4, fr4, h1, h2, rfl⟩ | ⟨hno, -⟩⟩
        ·obtain ⟨rfl, rfl⟩ := HEq.out _ _ _ _ h2 h1
         have hb09 := below_step hb08 hb9
         have hb79 := hb78.trans (hb9.mono hb78.size)
         have HE := equal_u64 A1 A5 n c1 n c5 _ _ b b w9 (hrb7.below hb79) (hrB7.below hb79) (by omega) (by omega)
         rw [decide_eq_true rfl] at HE
         have HE := Lib.hid HE
         clear h1 h2
         simp only [decide_true, Bool.and_self]
         go_wp2_with fail
         refine HE.out.mono ?_
         rintro e w10 ⟨rfl, q, rfl⟩
         go_wp2_with fail
         go_ret
         exact ⟨by first | rfl | simp, below_drewN hb09 q⟩
        ·exact absurd ⟨HALL.out.2, HALL.out.1⟩ hno
       ·exact absurd HALL.out hno
    ·exact absurd (HBF.out.1) hno
   ·exact absurd ⟨HALv.out.1, by rw [List.append_nil]; exact HALv.out.2, rfl⟩ hno
  ·exfalso
   have hAv := HALv.out
   have hl := HBF.out.1.hi
   rcases hno with h | h | h | ⟨O, hO, h⟩
   ·exact h hAv
   ·omega
   ·omega
   ·have := ordered_fits hAv.1 hO
    rw [HAL.out] at this
    exact h this
 ·have hb3 := hb2.alloc hb2.size (.cells #[.slice none 0 0, .slice none 0 0] 26)
  have k1 : (er != 0) = true := her
  clear her hno HF HC HS HA hb2
  go_wp2_with fail
  refine (HWk.out _ hb3).mono ?_
  rintro e w4 ⟨rfl, hb4⟩
  have hb04 := below_step hb3 hb4
  go_wp2_with fail
  refine (HWk.out _ hb04).mono ?_
  rintro e w5 ⟨rfl, hb5⟩
  go_wp2_with fail
  go_ret
  exact ⟨by first | rfl | simp, below_step hb04 hb5⟩
open Go.ChangeShapes Go.WideShapes Go.ChangeAt Go.RowKit
end Go.Proofs.YtblkhipbhahmeaaGreatDoor
