/-
  Texts joined: CarryCopy.
-/
import Derived.Deep.RegionHeld3
import Derived.Deep.QuietTactic
import Derived.BigQuiet
import Derived.StillTailTactics
import Derived.Test.YtbmkbnalembbjaaS0
import Derived.Test.YtbmkbnalembbjaaS3
import Derived.Test.YtbmkbnalembbjaaS4
import Derived.Test.YtbmkbnalembbjaaS6
namespace Go.Proofs.Ytbmkbnalembbjaa
open Go.RowKit
def CopyOk (a f : List Int) (N : Int) : Prop := checkE a = 0 ∧ (∀ x ∈ f, x ∈ begsL (spotsL a)) ∧ 0 ≤ N ∧ N ≤ 256 ∧ ∀ O, Ordered a (spotsL a) f O → longsL (spotsL a) O ≤ N
def CopyRet (a f : List Int) (N : Nat) (O : List Int) (base : Nat) (e : Ending) (w' : World) : Prop :=
  ∃ (Y b : List Int) (k : Nat) (A1 : Option Addr) (c1 : Nat) (AO : Option Addr) (cO : Nat) (AY : Option Addr) (cY : Nat), CopyIs a f N O Y b ∧ k = O.length ∧ e = .returned (.tuple #[.slice A1 N c1, .slice AO k cO, .slice AY k cY, .int .i64 0]) ∧
    w'.ownsRow base 37 1 (.slice A1 N c1) N (b.map (.int .u64)) ∧ w'.ownsRow base 3 1 (.slice AO k cO) k (O.map (.int .i64)) ∧ w'.ownsRow base 3 1 (.slice AY k cY) k (Y.map (.int .i64))
set_option maxRecDepth 100000 in
set_option maxHeartbeats 4000000 in
theorem copy_good (A : Option Addr) (n c : Nat) (a : List Int) (A2 : Option Addr) (n2 c2 N : Nat) (f : List Int) (w : World) (hr : Reads w w.heap.size 1 A n (a.map (.int .u64))) (hnc : n ≤ c) (hc : c ≤ maxLen) (ha : ∀ x ∈ a, (Lit.int .u64 x).wf = true)
    (hr2 : Reads w w.heap.size 1 A2 n2 (f.map (.int .i64))) (hn2 : n2 ≤ 1000000000000000000) (hx2 : ∀ x ∈ f, (Lit.int .i64 x).wf = true) (hE : checkE a = 0) (hF : ∀ x ∈ f, x ∈ begsL (spotsL a)) (hN : N ≤ 256) :
    Calls Try.prog 30 #[.slice A n c, .slice A2 n2 c2, .int .i64 N] w fun e w' => Below w.heap.size w w' ∧ ∃ O, Ordered a (spotsL a) f O ∧
      (CopyRet a f N O w.heap.size e w' ∨
       (¬ longsL (spotsL a) O ≤ N ∧ e = .returned (.tuple #[.slice none 0 0, .slice none 0 0, .slice none 0 0, .int .i64 7]))) := by
  have hal : a.length = n := by have := hr.1; simpa using this
  have h0 := (checkE_ok.1 hE).1
  have hn256 : n ≤ 256 := by have := (parse_ok h0).1; omega
  have HO := Lib.hid (fun w hr hr2 => order_ok A n c a A2 n2 c2 f w hr hnc ha hr2 hn2 hx2 hE)
  have HWd := Lib.hid (fun w hr hr2 O (hO : Ordered a (spotsL a) f O) => by
    have := twords_ok A n c a A2 n2 c2 f (sortL O) w hr hnc ha hr2 hn2 hx2 hE (hO.search.done hO.roots)
    rw [longsL_perm (spotsL a) (sortL_perm O)] at this
    exact this)
  have HNw := Lib.hid (fun w => wnew_ok N w hN)
  have HAt := Lib.hid (fun x i s w hr hix his => at_ok A n c a x i s w hr hnc ha hE hix his)
  have HIs := Lib.hid (fun O (hO : Ordered a (spotsL a) f O) (h : longsL (spotsL a) O ≤ N) => (⟨hE, hO, h, hN, rfl, rfl⟩ : CopyIs a f N O (sumsY (spotsL a) 0 O) (chunksW (laidC N 0 (rowsOf a O (sumsY (spotsL a) 0 O))))))
  have HCl := Lib.hid (fun O (hO : Ordered a (spotsL a) f O) => ordered_closed hE hO)
  have HW := Lib.hid (fun (k : Nat) (h1 : 1 ≤ k) (h2 : k ≤ 256) w => hword_ok 0 ((k : Int) - 1) 0 true w (headE_ok.2 ⟨by omega, by omega, by omega, by omega, by omega, by omega, by omega, fun _ => ⟨rfl, rfl⟩⟩))
  have HFa := Lib.hid (fun O (hC : ClosedL a O) φ => copy_facts hE hC φ)
  have HBB := Lib.hid (begsL_bounds h0)
  have HFF := Lib.hid hF
  have HAL := Lib.hid hal
  obtain ⟨i0, hi, hz0, hz1, hz2⟩ := info_parts info_int
  have hmm := @run_makeMap Try.prog
  clear hal h0 hF hE hx2
  go_enter Try.func30, Try.ntmps30
  go_wp2_with fail
  refine (HO.out _ hr hr2).mono ?_
  rintro e w1 ⟨hb1, ⟨O, AO, cO, hO, rfl, hownO⟩ | ⟨⟨z, hz, hz2⟩, -⟩⟩
  · have hC := HCl.out O hO
    have hk256 : O.length ≤ 256 := nodup_bound 256 O hO.search.once (fun x hx => HBB.out x (hC.begs x hx))
    have hWd := HWd.out (w1.alloc (.cells (madeCells #[Value.int .u64 0] N) 37)) ((hr.below (below_step hb1 (below_new w1 _))).more (below_step hb1 (below_new w1 _)).size) ((hr2.below (below_step hb1 (below_new w1 _))).more (below_step hb1 (below_new w1 _)).size) O hO
    have hIs := HIs.out O hO
    have hnn : ∀ x ∈ O, 0 ≤ longW (spotsL a) x := fun x hx => by
      obtain ⟨j, hj⟩ := List.mem_iff_getElem?.1 hx
      obtain ⟨s, i, h⟩ := (HFa.out O hC id).2 j x hj
      unfold longW
      rw [h.spot]
      have := h.ok.r0
      have := h.ok.b0
      simp only [Spot.long]
      omega
    have hE0 := longsL_nn hnn
    obtain ⟨E, hE⟩ := Int.eq_ofNat_of_zero_le hE0
    obtain ⟨k, hk⟩ : ∃ k, k = O.length := ⟨_, rfl⟩
    have HO0 := Lib.hid hO
    have hbn := below_new w1 (.cells (madeCells #[Value.int .u64 0] N) 37)
    rw [hE] at hWd hIs
    rw [← hk] at hownO hk256 ⊢
    have hWd := Lib.hid hWd
    have B0 : Blk (w1.alloc (.cells (madeCells #[Value.int .u64 0] N) 37)) w1.heap.size 37 ((List.replicate N (0 : Int)).map (Value.int .u64)).toArray := by
      rw [List.map_replicate, ← madeCells_one]; exact heap_alloc_new w1 _
    by_cases hfit : (E : Int) ≤ N
    · have hI := hIs hfit
      have hD := copied_of hI
      obtain ⟨hF1, hF2⟩ := HFa.out O hC (posL O (sumsY (spotsL a) 0 O))
      have hyj : ∀ j, j < k → (sumsY (spotsL a) 0 O)[j]? = some ((eJ a O j : Nat) : Int) := fun j hj => by
        rw [sumsY_at _ _ _ _ (by omega), (hF1 j).2.2.1]; congr 1; omega
      have hyl : (sumsY (spotsL a) 0 O).length = k := by rw [hD.len, hk]
      have hEk : eJ a O k = E := by
        have := (hF1 k).2.2.1
        rw [hk, List.take_length, hE] at this
        rw [hk]
        omega
      have hwords := hD.words
      rw [hE, Int.toNat_natCast] at hwords
      have hnd := hD.nodup
      have hOn := hC.nn
      have hEN : E ≤ N := by omega
      have hdN : decide (N < E) = false := decide_eq_false (by omega)
      have hdN2 : decide ((N : Int) < (E : Int)) = false := decide_eq_false (by omega)
      have hxb : ∀ (j : Nat) (X : Nat), O[j]? = some (X : Int) → X ≤ 256 := fun j X hX => by
        have := HBB.out _ (hC.begs _ (List.mem_of_getElem? hX))
        omega
      rw [← hk] at hF1
      rw [hEk] at hF1
      clear hIs hE hE0 hC hD hfit hnn
      obtain ⟨b, hb⟩ : ∃ b, b = chunksW (laidC N 0 (rowsOf a O (sumsY (spotsL a) 0 O))) := ⟨_, rfl⟩
      rw [← hb] at hI hwords
      generalize sumsY (spotsL a) 0 O = Y at *
      have hnow := fun v h => nowM_at (keep := O) (Y := Y) (v := v) h
      have hnows := fun j x y hx hy h => nowM_succ (keep := O) (Y := Y) hnd (j := j) (x := x) (y := y) hx hy h
      have hnow0 := nowM_zero O Y
      have hwords' : b = O.flatMap (newW a (posL O Y)) ++ chunksW (flushC (N - E)) := hwords
      generalize posL O Y = φ at *
      generalize hejd : eJ a O = ej at *
      have HEJD := Lib.hid hejd
      clear hejd
      rw [← hk] at hnow
      have HF1 := Lib.hid hF1
      have HF2 := Lib.hid hF2
      have HYJ := Lib.hid hyj
      have HYL := Lib.hid hyl
      have HEk := Lib.hid hEk
      have HWo := Lib.hid hwords'
      have HI := Lib.hid hI
      have HNow := Lib.hid hnow
      have HNowS := Lib.hid hnows
      have HNow0 := Lib.hid hnow0
      have HXB := Lib.hid hxb
      have HOn := Lib.hid hOn
      have HK := Lib.hid hk
      have hrO := Reads.of_own hownO
      have HOO := Lib.hid hownO
      have HB0 := Lib.hid B0
      clear hI hF1 hF2 hyj hyl hEk hwords hnd hOn hxb hb hnow hnows hnow0 hwords' hk hownO B0
      go_wp2_with fail
      refine (HNw.out _).mono ?_
      rintro e w2 ⟨rfl, rfl⟩
      go_wp2_with fail
      refine hWd.out.mono ?_
      rintro e w3 ⟨hb3, rfl⟩
      have hb13 := below_step hbn hb3
      obtain ⟨w4, hins, hM, hg1⟩ := (MapIs.made w3 Try.prog 37 .u64).store (k := 37) (t := 102) Try.underlying37 Try.underlying102 (by decide) (x := 0) (by decide) (.int .u64 0)
      rw [← HNow0.out] at hM
      have HM := Lib.hid hM
      have hb34 : Below w3.heap.size w3 w4 := (below_new w3 _).grown hg1 (by simp) (by simp)
      have hsz13 : w1.heap.size < w3.heap.size := by have := hb3.size; rw [World.size_alloc] at this; omega
      have HB4 : Hid (Blk w4 w1.heap.size 37 (((O.take 0).flatMap (rawW a) ++ List.replicate (N - ej 0) (0 : Int)).map (Value.int .u64)).toArray) := by
        show Blk _ _ _ _
        have h0 : ej 0 = 0 := by have := (HF1.out 0).1; simpa using this.symm
        have := (HB0.out.below hb3 HB0.out.lt).below hb34 hsz13
        rw [h0, Nat.sub_zero]
        exact this
      have hb14 := below_step hb13 hb34
      have hsz4 : w3.heap.size < w4.heap.size := HM.out.lt
      have hej0 : ej 0 = 0 := by have := (HF1.out 0).1; simpa using this.symm
      have HEJ0 : Hid ((0 : Int) = (ej 0 : Nat)) := by show _ = _; rw [hej0]; rfl
      clear hM hg1 hej0 hWd HNw
      go_wp2
      clear hins
      go_loopw [15, 17, 58] (fun v z i wr => ∃ (j : Nat) (AY : Option Addr) (cY : Nat), j ≤ k ∧ v = .slice AY j cY ∧ z = .int .i64 (ej j : Nat) ∧ i = .int .i64 j ∧ Hid (MapIs wr Try.prog 37 .u64 w3.heap.size (j + 1) (nowM O Y j)) ∧
        Hid (Blk wr w1.heap.size 37 (((O.take j).flatMap (rawW a) ++ List.replicate (N - ej j) (0 : Int)).map (Value.int .u64)).toArray) ∧ wr.ownsRow (w3.heap.size + 1) 3 1 (.slice AY j cY) j ((Y.take j).map (.int .i64)) ∧ Below w1.heap.size w1 wr ∧ w3.heap.size < wr.heap.size) (fun _ _ i _ => k - (intOf i).toNat)
      case atStart => exact ⟨0, none, 0, Nat.zero_le _, rfl, by rw [← HEJ0.out], rfl, HM.out, HB4, World.ownsRow_nil _ _ _ _, hb14, hsz4⟩
      case round =>
        obtain ⟨j, AY, cY, hj, rfl, rfl, rfl, HMj, HBj, hownY, hb, hszr⟩ := hrel
        have hbw := below_step hb1 hb
        by_cases hlt : j < k
        · obtain ⟨ad, x, rfl, had, hx, cx⟩ := (hrO.below hb).num hlt
          obtain ⟨s, i, hA⟩ := HF2.out j x hx
          have x0 := HOn.out x (List.mem_of_getElem? hx)
          obtain ⟨X, rfl⟩ := Int.eq_ofNat_of_zero_le x0
          have hX := HXB.out j X hx
          have hyy := HYJ.out j hlt
          have hle := (HF1.out (j + 1)).2.2.2.1
          have hnx := hA.next
          rw [HEJD.out] at hnx
          have r0 := hA.ok.r0
          have b0 := hA.ok.b0
          have ft := hA.ok.fits
          have hsl := (spotAt_some hA.spot).2.2
          have hsf := (spotAt_some hA.spot).2.1
          have hrl := refsOf_length hA.ok
          have hbl := bodyOf_length hA.ok
          have how := obj_words hA.ok
          have hraw := hA.raw
          have HAx := HAt.out X i s
          have HIX := Lib.hid (And.intro hA.ix hA.get)
          have hcl : ((wordOf s.r s.b s.t s.f :: (refsOf a s ++ bodyOf a s)).length : Int) = s.long := by
            rw [List.length_cons, List.length_append, hrl, hbl]; unfold Spot.long; omega
          clear hA
          generalize refsOf a s = rs at *
          generalize bodyOf a s = bs at *
          generalize wordOf s.r s.b s.t s.f = Wd at *
          generalize refIx (spotsL a) a s = ri at *
          obtain ⟨loc, r, bb, t, fr⟩ := s
          simp only [Spot.long] at hcl how hsf hsl HAx hrl hbl r0 b0 ft hnx
          subst hsf
          subst hsl
          obtain ⟨mr, rfl⟩ := Int.eq_ofNat_of_zero_le r0
          obtain ⟨mb, rfl⟩ := Int.eq_ofNat_of_zero_le b0
          simp only [Int.toNat_natCast] at hrl hbl how HAx
          obtain ⟨LN, hLN⟩ : ∃ LN, LN = 1 + mr + mb := ⟨_, rfl⟩
          rw [show (1 + (mr : Int) + mb).toNat = LN by omega] at how
          have hcln : (Wd :: (rs ++ bs)).length = LN := by omega
          rw [HAL.out] at ft
          have hIL : X + LN ≤ n := by omega
          obtain ⟨eN, heN⟩ : ∃ eN, eN = ej (j + 1) := ⟨_, rfl⟩
          obtain ⟨e0, he0⟩ : ∃ e0, e0 = ej j := ⟨_, rfl⟩
          have hlen0 := (HF1.out j).1
          rw [← heN] at hnx hle
          rw [← he0] at hnx hyy hlen0 HBj ⊢
          have hne : eN = e0 + LN := by omega
          have hEL : e0 + LN ≤ N := by omega
          obtain ⟨ada, rfl, hada, hcella⟩ := hr.2 (by omega)
          have hsrc : ∀ (W : World), Below w.heap.size w W → ∀ (j : Nat) (v : Value), ((Wd :: (rs ++ bs)).map (Value.int .u64))[j]? = some v → W.cell? ((ada.add X).add j) = some v := by
            intro W hW j v hv
            rw [← how, List.getElem?_map, List.getElem?_take] at hv
            by_cases hj : j < LN
            · rw [if_pos hj, List.getElem?_drop] at hv
              rw [add_of_add, hW.cell (by rw [block_of_add]; exact hada)]
              exact hcella _ _ (by rw [List.getElem?_map]; exact hv)
            · rw [if_neg hj] at hv; cases hv
          have wx : IntKind.u64.wrap (X : Int) = X := wrap_u64_of (by omega) (by omega)
          have wy : IntKind.u64.wrap (e0 : Int) = e0 := wrap_u64_of (by omega) (by omega)
          obtain ⟨p, hp⟩ : ∃ p, p = X + 1 := ⟨_, rfl⟩
          obtain ⟨q, hq⟩ : ∃ q, q = e0 + 1 := ⟨_, rfl⟩
          have wp : IntKind.u64.wrap ((X : Int) + 1) = p := by rw [wrap_u64_of (by omega) (by omega)]; omega
          have wq : IntKind.u64.wrap ((e0 : Int) + 1) = q := by rw [wrap_u64_of (by omega) (by omega)]; omega
          obtain ⟨m1, hm1⟩ : ∃ m1, m1 = 1 + mr := ⟨_, rfl⟩
          have w1' : IntKind.i64.wrap (1 + (mr : Int)) = m1 := by rw [IntWalk.i64_in _ (by omega)]; omega
          have w2' : IntKind.i64.wrap ((m1 : Int) + mb) = LN := by rw [IntWalk.i64_in _ (by omega)]; omega
          have w3' : IntKind.i64.wrap ((X : Int) + LN) = (X : Int) + LN := IntWalk.i64_in _ (by omega)
          have w4' : IntKind.i64.wrap ((e0 : Int) + LN) = eN := by rw [IntWalk.i64_in _ (by omega)]; omega
          have e4 : ((X : Int) + LN).toNat = X + LN := by omega
          have e5 : 0 ≤ (X : Int) + LN := by omega
          have e6 : (X : Int) + LN ≤ c := by omega
          have hne1 : ¬ N = e0 := by omega
          have e7 : (e0 : Int) ≤ N := by omega
          have e8 : (0 : Int) ≤ e0 := by omega
          have e9 : e0 ≤ N := by omega
          have e10 : (X : Int) ≤ (X : Int) + LN := by omega
          have e11 : (0 : Int) ≤ X := by omega
          have hne2 : ¬ c = X := by omega
          have hnowN := HNowS.out j _ _ hx hyy x0
          rw [show ((X : Int) + 1) = p by omega, show ((e0 : Int) + 1) = q by omega] at hnowN
          have hYt : Hid (Y.take (j + 1) = Y.take j ++ [(e0 : Int)]) := by
            show _ = _
            obtain ⟨z1, z2⟩ := List.getElem?_eq_some_iff.1 hyy
            rw [List.take_succ_eq_append_getElem z1, z2]
          have HNN := Lib.hid hnowN
          have HSrc := Lib.hid hsrc
          have HAx := Lib.hid HAx
          have HCl := Lib.hid hcln
          have HRw := Lib.hid hraw
          have HLN := Lib.hid hLN
          have HEN := Lib.hid heN
          have HNE := Lib.hid hne
          have HL0 := Lib.hid hlen0
          have hj1 : j + 1 ≤ k := hlt
          have HPw : Hid ((Lit.int .u64 (p : Int)).wf = true) := by
            show _ = _
            simp [Lit.wf, IntKind.min, IntKind.max, IntKind.signed, IntKind.bits]; omega
          have hgY : ∀ g, (Value.slice AY j cY).ownBlock = some g → w3.heap.size < g := fun g hg => (hownY.lt g hg).1
          have HGY := Lib.hid hgY
          have hown2 := hownY.alloc (.cells #[.int .i64 e0] 3)
          have hnew := reads_new wr [.int .i64 e0] 3 1 1 rfl
          have hb2 := hb.alloc hb.size (.cells #[.int .i64 e0] 3)
          have HM2 := Lib.hid (HMj.out.alloc (.cells #[.int .i64 e0] 3))
          have HB2 := Lib.hid (HBj.out.alloc (.cells #[.int .i64 e0] 3))
          have HSZ : Hid (w3.heap.size + 1 ≤ (wr.alloc (.cells #[.int .i64 e0] 3)).heap.size) := by
            show _ ≤ _
            rw [World.size_alloc]; omega
          have hj257 : j ≤ 256 := by omega
          clear how hcella hsrc hcln hraw hrl hbl hcl hLN hx hyy heN hnowN hp hq hm1 hownY hgY hne hlen0 he0 HMj HBj hb ft hnx
          go_wp2_with (at_builtin; refine wpList_append_any _ rfl (.tmp 62) (.tmp 64) 24 rfl (w3.heap.size + 1) 3 i0 (.int .i64 0) 1 8 Try.underlying24 hi hz0 hz1 hz2 rfl (by decide) (.slice AY j cY) j _ rfl hown2 (wr.heap.size + 1) (some ⟨wr.heap.size, 0, none⟩) 1 1 [.int .i64 e0] rfl hnew (by simp [Value.oneCell']) (by unfold maxLen; omega) (by omega) HSZ.out ?_; rintro v' w5 hown5 hgr - -; obtain ⟨A7, c7, rfl⟩ := own_slice hown5; have hb5 := hb2.grown hgr hb2.size (fun g hg => by have := (hown2.lt g hg).1; omega); have HM5 := Lib.hid (HM2.out.kept hgr (fun h => by have := HGY.out _ h.symm; omega)); have HB5 := Lib.hid (HB2.out.grown hgr (fun h => by have := HGY.out _ h.symm; omega)); obtain ⟨w6, hupd, hM6, hg6⟩ := HM5.out.store (k := 37) (t := 102) Try.underlying37 Try.underlying102 (by unfold maxLen; omega) HPw.out (.int .u64 q); have HM6 := Lib.hid hM6; have hown6 := own_grown hown5 hg6 (fun g hg h => by have := (hown5.lt g hg).1; injection h with h; omega); have hb6 := hb5.grown hg6 hb5.size (fun g hg => by injection hg with hg; omega); have HB6 := Lib.hid (HB5.out.grown hg6 (fun h => by injection h with h; omega)); clear hM6 hg6 hgr)
          have hb06 := below_step hb1 hb6
          refine (HAx.out _ ((hr.below hb06).more hb06.size) HIX.out.1 HIX.out.2).mono ?_
          rintro e w7 ⟨hb7, A6, c6, A8, c8, rfl, -, -⟩
          have D7 := Blk.new w7 104 #[.int .i64 t, .slice A6 mr c6, .slice A8 mb c8, .bool false]
          have hbn7 := below_new w7 (.cells #[.int .i64 t, .slice A6 mr c6, .slice A8 mb c8, .bool false] 104)
          have hbx := below_step hb7 hbn7
          have B7 := HB6.out.below hbx HB6.out.lt
          have M7 := HM6.out.below hbx HM6.out.lt
          have O7 := own_below hown6 hbx
          have hb17 := hb6.trans (hbx.mono hb6.size)
          have hb07 := below_step hb1 hb17
          have hsz7 : w3.heap.size < (w7.alloc (.cells #[.int .i64 t, .slice A6 mr c6, .slice A8 mb c8, .bool false] 104)).heap.size := M7.lt
          have d1 := D7.cell 1
          have d2 := D7.cell 2
          simp only [List.getElem?_toArray, List.getElem?_cons_zero, List.getElem?_cons_succ] at d1 d2
          obtain ⟨W1, hrun, HB1, HM1, HO1, hbW1, hszW⟩ : ∃ W1, (Builtin.copy_ #[23, 23] 3 #[.slice (some ⟨w1.heap.size, e0, none⟩) (N - e0) (N - e0), .slice (some (ada.add X)) LN (c - X)]).run Try.prog (w7.alloc (.cells #[.int .i64 t, .slice A6 mr c6, .slice A8 mb c8, .bool false] 104)).drew = .ok (goInt LN) W1 ∧
              Hid (Blk W1 w1.heap.size 37 (((O.take (j + 1)).flatMap (rawW a) ++ List.replicate (N - eN) (0 : Int)).map (Value.int .u64)).toArray) ∧ Hid (MapIs W1 Try.prog 37 .u64 w3.heap.size (j + 1 + 1) (nowM O Y (j + 1))) ∧
              Hid (W1.ownsRow (w3.heap.size + 1) 3 1 (.slice A7 (j + 1) c7) (j + 1) ((Y.take (j + 1)).map (.int .i64))) ∧ Below w1.heap.size w1 W1 ∧ w3.heap.size < W1.heap.size := by
            have hg : (w7.alloc (.cells #[.int .i64 t, .slice A6 mr c6, .slice A8 mb c8, .bool false] 104)).drew.heap[w1.heap.size]? = some (.cells (((O.take j).flatMap (rawW a) ++ List.replicate (N - e0) (0 : Int)).map (Value.int .u64)).toArray 37 (0, 0)) := B7.drew
            have hgs := grownBy_setRow (w := (w7.alloc (.cells #[.int .i64 t, .slice A6 mr c6, .slice A8 mb c8, .bool false] 104)).drew) (g := w1.heap.size) (cs := (splice (((O.take j).flatMap (rawW a) ++ List.replicate (N - e0) (0 : Int)).map (Value.int .u64)) e0 ((Wd :: (rs ++ bs)).map (Value.int .u64))).toArray)
            refine ⟨_, run_copyK _ _ _ _ 37 1 w1.heap.size e0 (N - e0) (N - e0) (ada.add X) LN (c - X) LN (((O.take j).flatMap (rawW a) ++ List.replicate (N - e0) (0 : Int)).map (Value.int .u64)) 37 ((Wd :: (rs ++ bs)).map (Value.int .u64)) Try.underlying23 size_u64 hg (Nat.min_eq_left (by omega)) (by rw [List.length_map, HCl.out]; simp) (fun j v hv => HSrc.out _ hb07.drew j v hv) (by rw [List.length_map, List.length_map, HCl.out, List.length_append, HL0.out, List.length_replicate]; omega) (u64s_one _), ?_, ?_, ?_, ?_, ?_⟩
            · show Blk _ _ _ _
              unfold Blk
              rw [setRow_heap _ _ _ _ _ _ hg, ← splice_map, HRw.out]
              congr 3
              unfold splice
              rw [HCl.out, List.take_append, List.take_of_length_le (by rw [HL0.out]; exact Nat.le_refl _), List.drop_append, List.drop_of_length_le (by rw [HL0.out]; omega), HL0.out, Nat.sub_self, List.take_zero, List.append_nil, List.nil_append, List.drop_replicate, show N - e0 - (e0 + LN - e0) = N - eN by have := HNE.out; omega]
              simp
            · show MapIs _ _ _ _ _ _ _
              rw [HNN.out]
              exact M7.drew.kept hgs (fun h => by injection h with h; omega)
            · show World.ownsRow _ _ _ _ _ _ _
              have e1 := List.map_append (f := Value.int .i64) (l₁ := Y.take j) (l₂ := [(e0 : Int)])
              rw [hYt.out, e1]
              exact own_grown O7.drew hgs (fun g hg h => by have := (O7.lt g hg).1; injection h with h; omega)
            · exact below_setRow hb17.drew (Nat.le_refl _) _
            · have := hgs.size
              exact Nat.lt_of_lt_of_le hsz7 this
          have HRun := Lib.hid hrun
          have HENi : Hid ((eN : Int) = (ej (j + 1) : Nat)) := by show _ = _; rw [HEN.out]
          clear hrun D7 hbn7 hb7 hbx B7 M7 O7 hb17 hb07 hb06 hown6 hb6 hupd hb5 hown5 hb2 hown2
          go_wp2
          go_region_law (refine step_copy_run rfl (.tmp 89) (.tmp 95) 23 23 rfl (.slice (some ⟨w1.heap.size, e0, none⟩) (N - e0) (N - e0)) (.slice (some (ada.add X)) LN (c - X)) (by simp [Act.eval, Act.put]) (by simp [Act.eval, Act.put]) HRun.out ?_)
          all_goals
            try simp only [Act.put, Act.eval, List.getElem_toArray, List.getElem_cons_zero, List.getElem_cons_succ, List.setIfInBounds_toArray, List.set_cons_zero, List.set_cons_succ]
            go_wp2
            go_roundw
            case rel => exact ⟨j + 1, A7, c7, hj1, rfl, by rw [← HENi.out], by go_num, HM1, (by rw [← HEN.out]; exact HB1), HO1.out, hbW1, hszW⟩
            case measure => simp [intOf]; omega
        · obtain rfl : k = j := by omega
          have HB2 : Hid (Blk wr w1.heap.size 37 (((O.take 0).flatMap (newW a φ) ++ ((O.drop 0).flatMap (rawW a) ++ List.replicate (N - E) (0 : Int))).map (Value.int .u64)).toArray) := by
            have h := HBj.out
            rw [HEk.out, List.take_of_length_le (by rw [HK.out]; exact Nat.le_refl _)] at h
            exact h
          have HOY : Hid (wr.ownsRow (w3.heap.size + 1) 3 1 (.slice AY k cY) k (Y.map (.int .i64))) := by
            rw [List.take_of_length_le (by rw [HYL.out]; exact Nat.le_refl _)] at hownY
            exact hownY
          clear HBj hownY
          rw [HEk.out]
          go_wp2
          go_loopw [103] (fun i wr => ∃ j : Nat, j ≤ k ∧ i = .int .i64 j ∧ Hid (Blk wr w1.heap.size 37 (((O.take j).flatMap (newW a φ) ++ ((O.drop j).flatMap (rawW a) ++ List.replicate (N - E) (0 : Int))).map (Value.int .u64)).toArray) ∧ Hid (MapIs wr Try.prog 37 .u64 w3.heap.size (k + 1) (nowM O Y k)) ∧
            Hid (wr.ownsRow (w3.heap.size + 1) 3 1 (.slice AY k cY) k (Y.map (.int .i64))) ∧ Below w1.heap.size w1 wr ∧ w3.heap.size < wr.heap.size) (fun i _ => k - (intOf i).toNat)
          case atStart => exact ⟨0, Nat.zero_le _, rfl, HB2, HMj, HOY, hb, hszr⟩
          case round =>
            clear HMj HB2 HOY hb hszr hbw
            obtain ⟨j, hj, rfl, HBj, HMj, HOYj, hb, hszr⟩ := hrel
            have hbw := below_step hb1 hb
            by_cases hlt : j < k
            · obtain ⟨ad, x, rfl, had, hx, cx⟩ := (hrO.below hb).num hlt
              obtain ⟨adY, y, rfl, hadY, hy, cy⟩ := (Reads.of_own HOYj.out).num hlt
              obtain ⟨s, i, hA⟩ := HF2.out j x hx
              obtain rfl : ((ej j : Nat) : Int) = y := Option.some.inj ((HYJ.out j hlt).symm.trans hy)
              have hle := (HF1.out (j + 1)).2.2.2.1
              have hnx := hA.next
              rw [HEJD.out] at hnx
              have r0 := hA.ok.r0
              have b0 := hA.ok.b0
              have hsl := (spotAt_some hA.spot).2.2
              have hsf := (spotAt_some hA.spot).2.1
              have hrl := refsOf_length hA.ok
              have hbl := bodyOf_length hA.ok
              have hnew := hA.new
              have hrest := hA.rest
              have hlk := hA.links
              have HAx := HAt.out x i s
              have HIX := Lib.hid (And.intro hA.ix hA.get)
              have hrin : ∀ v ∈ refsOf a s, (Lit.int .u64 v).wf = true := fun v hv => ha v (by
                unfold refsOf at hv
                exact List.mem_of_mem_drop (List.mem_of_mem_take hv))
              have hP := (HF1.out j).2.1
              have hx0 := HOn.out x (List.mem_of_getElem? hx)
              clear hA
              generalize refsOf a s = rs at *
              generalize bodyOf a s = bs at *
              generalize wordOf s.r s.b s.t s.f = Wd at *
              generalize refIx (spotsL a) a s = ri at *
              obtain ⟨loc, r, bb, t, fr⟩ := s
              simp only [Spot.long] at hsf hsl HAx hrl hbl r0 b0 hnx
              subst hsf
              subst hsl
              obtain ⟨X, rfl⟩ := Int.eq_ofNat_of_zero_le hx0
              obtain ⟨mr, rfl⟩ := Int.eq_ofNat_of_zero_le r0
              obtain ⟨mb, rfl⟩ := Int.eq_ofNat_of_zero_le b0
              simp only [Int.toNat_natCast] at hrl hbl HAx
              obtain ⟨e0, he0⟩ : ∃ e0, e0 = ej j := ⟨_, rfl⟩
              rw [← he0] at hnx hP cy
              obtain ⟨Pw, hPw⟩ : ∃ Pw, Pw = (O.take j).flatMap (newW a φ) := ⟨_, rfl⟩
              obtain ⟨Qw, hQw⟩ : ∃ Qw, Qw = (O.drop (j + 1)).flatMap (rawW a) ++ List.replicate (N - E) (0 : Int) := ⟨_, rfl⟩
              have hEe : e0 + 1 + mr ≤ E := by omega
              have HB0 : Hid (Blk wr w1.heap.size 37 ((Pw ++ ((Wd :: (((rs.take 0).map (refT φ)) ++ (rs.drop 0 ++ bs))) ++ Qw)).map (Value.int .u64)).toArray) := by
                have h := HBj.out
                rw [hrest, ← hPw] at h
                show Blk _ _ _ _
                rw [hQw]
                simpa using h
              have HBe : Hid ((O.take (j + 1)).flatMap (newW a φ) ++ ((O.drop (j + 1)).flatMap (rawW a) ++ List.replicate (N - E) (0 : Int)) = Pw ++ ((Wd :: (rs.map (refT φ) ++ bs)) ++ Qw)) := by
                show _ = _
                rw [hnew, hPw, hQw, List.append_assoc]
              rw [← hPw] at hP
              have HPl := Lib.hid hP
              have HY0 : Hid (Y[j]? = some (e0 : Int)) := by
                show _ = _
                rw [HYJ.out j hlt, he0]
              have HRl := Lib.hid hrl
              have HLk := Lib.hid hlk
              have HRin := Lib.hid hrin
              have HAx := Lib.hid HAx
              have hj1 : j + 1 ≤ k := hlt
              have cyw := cy
              have hszY : adY.block < wr.heap.size := hadY
              clear HBj hnew hrest hlk hrin hrl hbl hx hy hnx hle hP hPw hQw he0 hx0
              go_wp2_with fail
              refine (HAx.out _ ((hr.below hbw).more hbw.size) HIX.out.1 HIX.out.2).mono ?_
              rintro e w5 ⟨hb5, A6, c6, A8, c8, rfl, -, -⟩
              have D5 := Blk.new w5 104 #[.int .i64 t, .slice A6 mr c6, .slice A8 mb c8, .bool false]
              have hbn5 := below_new w5 (.cells #[.int .i64 t, .slice A6 mr c6, .slice A8 mb c8, .bool false] 104)
              have hbx := below_step hb5 hbn5
              have HB5 := Lib.hid (HB0.out.below hbx HB0.out.lt)
              have HM5 := Lib.hid (HMj.out.below hbx hszr)
              have HO5 := Lib.hid (own_below HOYj.out hbx)
              have hb15 := hb.trans (hbx.mono hb.size)
              have hsz5 : w3.heap.size < (w5.alloc (.cells #[.int .i64 t, .slice A6 mr c6, .slice A8 mb c8, .bool false] 104)).heap.size := HM5.out.lt
              have d1 := D5.cell 1
              simp only [List.getElem?_toArray, List.getElem?_cons_zero, List.getElem?_cons_succ] at d1
              clear D5 hbn5 hb5 hbx cyw
              go_wp2
              clear HB0 HMj HOYj hb hszr hbw
              go_loopw [27, 117] (fun _ i wr => ∃ q : Nat, q ≤ mr ∧ i = .int .i64 q ∧ Hid (Blk wr w1.heap.size 37 ((Pw ++ ((Wd :: (((rs.take q).map (refT φ)) ++ (rs.drop q ++ bs))) ++ Qw)).map (Value.int .u64)).toArray) ∧ Hid (MapIs wr Try.prog 37 .u64 w3.heap.size (k + 1) (nowM O Y k)) ∧
                Hid (wr.ownsRow (w3.heap.size + 1) 3 1 (.slice (some adY) k cY) k (Y.map (.int .i64))) ∧ Below w1.heap.size w1 wr ∧ w3.heap.size < wr.heap.size) (fun _ i _ => mr - (intOf i).toNat)
              case atStart => exact ⟨0, Nat.zero_le _, rfl, HB5, HM5, HO5, hb15, hsz5⟩
              case round =>
                obtain ⟨q, hq, rfl, HBq, HMq, HOq, hbq, hszq⟩ := hrel
                by_cases hltq : q < mr
                · obtain ⟨adY2, y2, e3, hadY2, hy2, cy2⟩ := (Reads.of_own HOq.out).num hlt
                  injection e3 with e3
                  subst e3
                  obtain rfl : (e0 : Int) = y2 := Option.some.inj (HY0.out.symm.trans hy2)
                  have hjr : q < rs.length := by rw [HRl.out]; exact hltq
                  obtain ⟨v, hv⟩ : ∃ v, rs[q]? = some v := ⟨_, List.getElem?_eq_getElem hjr⟩
                  have hvw := HRin.out v (List.mem_of_getElem? hv)
                  have hnow := HNow.out v (fun h0 => HLk.out v (List.mem_of_getElem? hv) h0)
                  obtain ⟨z, hz⟩ : ∃ z, z = refT φ v := ⟨_, rfl⟩
                  rw [← hz] at hnow
                  have hlook := HMq.out.drew.look (k := 37) (t := 102) Try.underlying37 Try.underlying102 (zero_u64 _) hvw
                  rw [hnow] at hlook
                  simp only [Option.getD_some] at hlook
                  obtain ⟨q1, hq1⟩ : ∃ q1, q1 = e0 + 1 := ⟨_, rfl⟩
                  obtain ⟨q2, hq2⟩ : ∃ q2, q2 = q1 + q := ⟨_, rfl⟩
                  have wq1 : IntKind.i64.wrap ((e0 : Int) + 1) = q1 := by rw [IntWalk.i64_in _ (by omega)]; omega
                  have wq2 : IntKind.i64.wrap ((q1 : Int) + q) = q2 := by rw [IntWalk.i64_in _ (by omega)]; omega
                  have hq2N : q2 < N := by omega
                  have hq2i : (q2 : Int) < N := by omega
                  have hq20 : (0 : Int) ≤ q2 := by omega
                  have hji : (j : Int) < k := by omega
                  have hj0 : (0 : Int) ≤ j := by omega
                  have hAl : ((rs.take q).map (refT φ)).length = q := by rw [List.length_map, List.length_take]; omega
                  have hlist : (Pw ++ ((Wd :: (((rs.take q).map (refT φ)) ++ (rs.drop q ++ bs))) ++ Qw))[q2]? = some v := by
                    rw [List.getElem?_append_right (by rw [HPl.out]; omega), HPl.out, List.getElem?_append_left (by simp only [List.length_cons, List.length_append, hAl, List.length_drop]; omega), show q2 - e0 = q + 1 by omega, List.getElem?_cons_succ, List.getElem?_append_right (by omega), hAl, Nat.sub_self, List.drop_eq_getElem_cons hjr]
                    obtain ⟨z1, z2⟩ := List.getElem?_eq_some_iff.1 hv
                    rw [← z2]; rfl
                  have k1 := HBq.out.cell q2
                  rw [List.getElem?_toArray, List.getElem?_map, hlist, Option.map_some] at k1
                  have f1 := HBq.out.frozen q2
                  have HL2 := Lib.hid (And.intro hq1 hq2)
                  have HAl := Lib.hid hAl
                  have HZ := Lib.hid hz
                  have HV := Lib.hid hv
                  have HJR := Lib.hid hjr
                  clear hnow hq1 hq2 hAl hlist hz hv hvw hjr hy2
                  go_wp2
                  go_region
                  have HBn : Hid (Blk (wr.setCell ⟨w1.heap.size, q2, none⟩ (.int .u64 z)).drew w1.heap.size 37 ((Pw ++ ((Wd :: (((rs.take (q + 1)).map (refT φ)) ++ (rs.drop (q + 1) ++ bs))) ++ Qw)).map (Value.int .u64)).toArray) := by
                    show Blk _ _ _ _
                    obtain ⟨l1, l2⟩ := HL2.out
                    have h2 := HBq.out.set_ q2 (.int .u64 z)
                    have hms := mid_set (Wd := Wd) (z := z) (bs := bs) HAl.out HJR.out
                    rw [List.setIfInBounds_toArray, ← List.map_set, List.set_append_right _ _ (by rw [HPl.out]; omega), HPl.out, List.set_append_left _ _ (by have := HAl.out; have := HJR.out; simp only [List.length_cons, List.length_append, List.length_drop]; omega), show q2 - e0 = 1 + q by omega, hms] at h2
                    obtain ⟨z1, z2⟩ := List.getElem?_eq_some_iff.1 HV.out
                    rw [List.take_succ_eq_append_getElem z1, z2, List.map_append (f := refT φ) (l₁ := rs.take q)]
                    rw [HZ.out] at h2 ⊢
                    exact h2.drew
                  have HMn : Hid (MapIs (wr.setCell ⟨w1.heap.size, q2, none⟩ (.int .u64 z)).drew Try.prog 37 .u64 w3.heap.size (k + 1) (nowM O Y k)) := (HMq.out.setCell (a := ⟨w1.heap.size, q2, none⟩) (by dsimp only; omega) _).drew
                  have HOn2 := Lib.hid (own_far HOq.out (p := ⟨w1.heap.size, q2, none⟩) (by dsimp only; omega) (.int .u64 z)).drew
                  have hbn := (hbq.setCell (p := ⟨w1.heap.size, q2, none⟩) (Nat.le_refl _) (.int .u64 z)).drew
                  have hszn : w3.heap.size < (wr.setCell ⟨w1.heap.size, q2, none⟩ (.int .u64 z)).drew.heap.size := by
                    have := HMn.out.lt
                    exact this
                  have hq1 : q + 1 ≤ mr := hltq
                  clear hlook k1 f1 hbq
                  go_wp2
                  go_roundw
                  case rel => exact ⟨q + 1, hq1, by go_num, HBn, HMn, HOn2, hbn, hszn⟩
                  case measure => simp [intOf]; omega
                · obtain rfl : q = mr := by omega
                  have HBx : Hid (Blk wr w1.heap.size 37 (((O.take (j + 1)).flatMap (newW a φ) ++ ((O.drop (j + 1)).flatMap (rawW a) ++ List.replicate (N - E) (0 : Int))).map (Value.int .u64)).toArray) := by
                    show Blk _ _ _ _
                    have h2 := HBq.out
                    rw [List.take_of_length_le (l := rs) (by rw [HRl.out]; exact Nat.le_refl _), List.drop_of_length_le (l := rs) (by rw [HRl.out]; exact Nat.le_refl _), List.nil_append] at h2
                    rw [HBe.out]
                    exact h2
                  go_wp2
                  go_roundw
                  case rel => exact ⟨j + 1, hj1, by go_num, HBx, HMq, HOq, hbq, hszq⟩
                  case measure => simp [intOf]; omega
            · obtain rfl : k = j := by omega
              have HBk : Hid (Blk wr w1.heap.size 37 ((O.flatMap (newW a φ) ++ List.replicate (N - E) (0 : Int)).map (Value.int .u64)).toArray) := by
                show Blk _ _ _ _
                have h2 := HBj.out
                rw [List.take_of_length_le (l := O) (by rw [HK.out]; exact Nat.le_refl _), List.drop_of_length_le (l := O) (by rw [HK.out]; exact Nat.le_refl _), List.flatMap_nil, List.nil_append] at h2
                exact h2
              have hNl : (O.flatMap (newW a φ)).length = E := by
                have := (HF1.out k).2.1
                rw [List.take_of_length_le (by rw [HK.out]; exact Nat.le_refl _), HEk.out] at this
                exact this
              have HNl := Lib.hid hNl
              have HOY2 := Lib.hid (own_mono (base := w.heap.size) HOYj.out (by have := hb1.size; omega))
              have HOO2 := Lib.hid (own_below HOO.out hb)
              have hbl : b.length = N := by
                rw [HWo.out, List.length_append, HNl.out, flushC_length]
                omega
              have HBL := Lib.hid hbl
              have hb1s := hb1.size
              clear HBj HMj HOYj hNl hbl
              have hfin : ∀ W : World, Blk W w1.heap.size 37 (b.map (Value.int .u64)).toArray → W.ownsRow w.heap.size 37 1 (.slice (some ⟨w1.heap.size, 0, none⟩) N N) N (b.map (.int .u64)) := fun W hW => by
                have := own_close (w := W) (base := w.heap.size) (e := 37) (size := 1) (n := N) (c := N) (g := w1.heap.size) (b.map (Value.int .u64)) hb1s hW (Nat.le_refl _) (by unfold maxLen; omega) (by rw [List.length_map, HBL.out, Nat.mul_one])
                rw [Nat.mul_one, List.take_of_length_le (by rw [List.length_map, HBL.out]; exact Nat.le_refl _)] at this
                exact this
              have HFin := Lib.hid hfin
              by_cases hlt2 : E < N
              · obtain ⟨K, hK⟩ : ∃ K, K = N - E := ⟨_, rfl⟩
                have wK : IntKind.i64.wrap ((N : Int) - E) = K := by rw [IntWalk.i64_in _ (by omega)]; omega
                have wK2 : IntKind.i64.wrap ((K : Int) - 1) = (K : Int) - 1 := IntWalk.i64_in _ (by omega)
                have hK1 : 1 ≤ K := by omega
                have HWk := HW.out K hK1 (by omega)
                have hset := flush_set (pre := O.flatMap (newW a φ)) (rest := []) (e := E) (p := K) HNl.out (by omega)
                rw [List.append_nil, List.append_nil] at hset
                obtain ⟨wd, hwd⟩ : ∃ wd, wd = wordOf 0 ((K : Int) - 1) 0 true := ⟨_, rfl⟩
                rw [← hwd] at HWk hset
                have HWk := Lib.hid HWk
                have HBk2 : Hid (Blk wr w1.heap.size 37 ((O.flatMap (newW a φ) ++ List.replicate K (0 : Int)).map (Value.int .u64)).toArray) := by
                  rw [hK]; exact HBk.out
                have HSet : Hid ((O.flatMap (newW a φ) ++ List.replicate K (0 : Int)).set E wd = b) := by
                  show _ = _
                  rw [hset, HWo.out, hK]
                have hgi : (E : Int) < N := by omega
                have hg0 : (0 : Int) ≤ E := by omega
                have hget : (O.flatMap (newW a φ) ++ List.replicate K (0 : Int))[E]? = some 0 := by
                  rw [List.getElem?_append_right (by rw [HNl.out]; exact Nat.le_refl _), HNl.out, Nat.sub_self, List.getElem?_replicate, if_pos (by omega)]
                have HGet := Lib.hid hget
                clear hset hwd hK hget hfin HBk
                go_wp2_with fail
                refine (HWk.out _).mono ?_
                rintro e w5 ⟨rfl, hb5⟩
                have B5 := HBk2.out.below hb5 HBk2.out.lt
                have O5 := own_below HOY2.out hb5
                have P5 := own_below HOO2.out hb5
                have hb15 := hb.trans (hb5.mono hb.size)
                have k1 := B5.cell E
                rw [List.getElem?_toArray, List.getElem?_map, HGet.out, Option.map_some] at k1
                have f1 := B5.frozen E
                have HB5 := Lib.hid B5
                have HO5 := Lib.hid O5
                have HP5 := Lib.hid P5
                clear B5 O5 P5
                go_wp2
                have hB6 : Blk (w5.setCell ⟨w1.heap.size, E, none⟩ (.int .u64 wd)) w1.heap.size 37 (b.map (Value.int .u64)).toArray := by
                  have h2 := HB5.out.set_ E (.int .u64 wd)
                  rw [List.setIfInBounds_toArray, ← List.map_set, HSet.out] at h2
                  exact h2
                refine bodyPost_ret (results_tmp4c rfl _ _ _) rfl ⟨below_step hb1 (hb15.setCell (p := ⟨w1.heap.size, E, none⟩) (Nat.le_refl _) _), O, HO0.out, .inl ⟨Y, b, k, some ⟨w1.heap.size, 0, none⟩, N, _, _, _, _, HI.out, HK.out, rfl, HFin.out _ hB6, ?_, ?_⟩⟩
                · exact own_apart HP5.out (own_blk_ne HP5.out HB5.out (by decide)) _
                · exact own_apart HO5.out (own_blk_ne HO5.out HB5.out (by decide)) _
              · have hEN3 : E = N := by omega
                have hB6 : Blk wr w1.heap.size 37 (b.map (Value.int .u64)).toArray := by
                  have h2 := HBk.out
                  have e1 : N - E = 0 := by omega
                  rw [e1] at h2
                  rw [HWo.out, e1]
                  exact h2
                have HB6 := Lib.hid hB6
                have hd2 : decide (E < N) = false := decide_eq_false hlt2
                clear hB6 hEN3 hfin HBk
                go_wp2
                refine bodyPost_ret (results_tmp4c rfl _ _ _) rfl ⟨below_step hb1 hb, O, HO0.out, .inl ⟨Y, b, k, some ⟨w1.heap.size, 0, none⟩, N, _, _, _, _, HI.out, HK.out, rfl, HFin.out _ HB6.out, ?_, ?_⟩⟩
                · exact HOO2.out
                · exact HOY2.out
    · have HNF : Hid (¬ longsL (spotsL a) O ≤ N) := by
        show ¬ _
        rw [hE]; exact hfit
      have hgt : (N : Int) < E := by omega
      clear hfit hIs hE hE0 hk hownO B0 hnn hC
      go_wp2_with fail
      refine (HNw.out _).mono ?_
      rintro e w2 ⟨rfl, rfl⟩
      go_wp2_with fail
      refine hWd.out.mono ?_
      rintro e w3 ⟨hb3, rfl⟩
      go_wp2
      refine bodyPost_ret (results_tmp4c rfl _ _ _) rfl ⟨below_step hb1 (below_step hbn hb3), O, HO0.out, .inr ⟨HNF.out, rfl⟩⟩
  · exact absurd (HFF.out z hz) hz2
end Go.Proofs.Ytbmkbnalembbjaa
