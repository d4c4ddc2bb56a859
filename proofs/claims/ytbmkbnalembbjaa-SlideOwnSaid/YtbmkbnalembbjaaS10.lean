/-
  Texts joined: SlideCleanT Slices SlicesInt EqualOb EqualObs Alike CarryFns FullG SlideOwnT SlideOwnC.
-/
import Derived.Test.YtbmkbnalembbjaaRows
import Derived.BigQuiet
import Derived.Test.YtbmkbnalembbjaaS0
import Derived.Test.YtbmkbnalembbjaaS2
import Derived.Test.YtbmkbnalembbjaaS3
import Derived.Test.YtbmkbnalembbjaaS5
import Derived.Test.YtbmkbnalembbjaaS7
import Derived.Test.YtbmkbnalembbjaaS8
import Derived.Test.YtbmkbnalembbjaaS9
namespace Go.Proofs.Ytbmkbnalembbjaa
open Go.RowKit
set_option maxRecDepth 100000 in
set_option maxHeartbeats 4000000 in
theorem slideT_ok (A A2 A3 : Option Addr) (n c n2 c2 m c3 : Nat) (a keep pinned : List Int) (w : World) (hr : Reads w w.heap.size 1 A n (a.map (.int .u64))) (hnc : n ≤ c) (_ : c ≤ maxLen) (ha : ∀ x ∈ a, (Lit.int .u64 x).wf = true)
    (hr2 : Reads w w.heap.size 1 A2 n2 (keep.map (.int .i64))) (hr3 : Reads w w.heap.size 1 A3 m (pinned.map (.int .i64))) (hn2 : n2 * 8 ≤ 140737488351232) (hm : m ≤ 1000000000000000000) (hE : longsE a keep pinned = 0) (hC : ClosedL a keep) :
    Calls Try.prog 47 #[.slice A n c, .slice A2 n2 c2, .slice A3 m c3] w fun e w' => Below w.heap.size w w' ∧ ∃ A1 AY cY, e = .returned (.tuple #[.slice A1 n n, .slice AY n2 cY, .int .i64 0]) ∧
      w'.ownsRow w.heap.size 37 1 (.slice A1 n n) n ((slidW a keep pinned).map (.int .u64)) ∧ w'.ownsRow w.heap.size 3 1 (.slice AY n2 cY) n2 ((slidGo pinned 0 keep (longsV a keep pinned)).map (.int .i64)) := by
  have hal : a.length = n := by have := hr.1; simpa using this
  have hk2 : keep.length = n2 := by have := hr2.1; simpa using this
  obtain ⟨hK, hN⟩ := kept_of hE
  have hN2 : n ≤ 256 := by omega
  have hkl := kept_len2 hK (by omega)
  have hP := planned_of hE
  have hC1 := (longsE_ok.1 hE).1
  have hTo := fun w hr hr2 hr3 => planTo_any A A2 A3 n c n2 c2 m c3 a keep pinned w hr hnc ha hr2 hr3 hn2 hm hE
  have hGp := fun w hr hr2 hr3 => planGapsFn_any A A2 A3 n c n2 c2 m c3 a keep pinned w hr hnc ha hr2 hr3 hn2 hm hE (fun j y k hy hk => by
    have hj := (List.getElem?_eq_some_iff.1 hy).1
    rw [hP.len] at hj
    obtain ⟨s, i, -, -, -, e4, e5, e6, e7, -⟩ := hP.at_ j _ y (List.getElem?_eq_getElem hj) hy
    rw [hk] at e6
    obtain rfl := Option.some.inj e6
    have := e4.r0
    have := e4.b0
    unfold Spot.long at *
    omega) (by rw [hP.len, hk2]) (by omega)
  have HAt := Lib.hid (fun x i s w hr hix his => at_ok A n c a x i s w hr hnc ha hC1 hix his)
  have HW := Lib.hid (fun (k : Nat) (h1 : 1 ≤ k) (h2 : k ≤ 256) w => hword_ok 0 ((k : Int) - 1) 0 true w (headE_ok.2 ⟨by omega, by omega, by omega, by omega, by omega, by omega, by omega, fun _ => ⟨rfl, rfl⟩⟩))
  have hfold := fold_gaps n (rowsOf a keep (slidGo pinned 0 keep (longsV a keep pinned))) 0 [] (by rw [← hal]; exact hP.rows) rfl
  rw [hP.ys, hP.lens, List.nil_append, List.nil_append] at hfold
  have hgl := gapsP_laid n (rowsOf a keep (slidGo pinned 0 keep (longsV a keep pinned))) 0 (by rw [← hal]; exact hP.rows)
  rw [hP.ys, hP.lens] at hgl
  have hgm := gapsP_mem (laidC n 0 (rowsOf a keep (slidGo pinned 0 keep (longsV a keep pinned)))) 0 0 (Nat.le_refl _)
  rw [hgl, laidC_length (by rw [← hal]; exact hP.rows)] at hgm
  have hRl : ∀ j, (rawL n 0 ((rowsOf a keep (slidGo pinned 0 keep (longsV a keep pinned))).take j)).length = n := fun j => by
    have h := hP.rows
    rw [hal, ← List.take_append_drop j (rowsOf a keep _)] at h
    rw [rawL_length h.left, Nat.sub_zero]
  have hstep : ∀ (j : Nat) (x y : Int) (s : Spot), keep[j]? = some x → (slidGo pinned 0 keep (longsV a keep pinned))[j]? = some y → spotAt (spotsL a) x = some s →
      rawL n 0 ((rowsOf a keep (slidGo pinned 0 keep (longsV a keep pinned))).take (j + 1)) = splice (rawL n 0 ((rowsOf a keep (slidGo pinned 0 keep (longsV a keep pinned))).take j)) y.toNat
        (wordOf s.r s.b s.t s.f :: ((refsOf a s).map (refT (posL keep (slidGo pinned 0 keep (longsV a keep pinned)))) ++ bodyOf a s)) := by
    intro j x y s hx hy hs
    have h1 := rowsOf_at (a := a) hx hy
    rw [rowAt_some hs] at h1
    obtain ⟨q1, q2⟩ := List.getElem?_eq_some_iff.1 h1
    have h := hP.rows
    rw [hal, ← List.take_append_drop (j + 1) (rowsOf a keep _), List.take_succ_eq_append_getElem q1, q2] at h
    have h3 := rawL_snoc n y.toNat (kC a (posL keep (slidGo pinned 0 keep (longsV a keep pinned))) s) ((rowsOf a keep (slidGo pinned 0 keep (longsV a keep pinned))).take j) 0 [] rfl h.left
    rw [List.nil_append, List.nil_append] at h3
    rw [List.take_succ_eq_append_getElem q1, q2, h3, (spotAt_some hs).2.1]
    rfl
  have hnow := fun v h => nowM_at (keep := keep) (Y := slidGo pinned 0 keep (longsV a keep pinned)) (v := v) h
  have hnows := fun j x y hx hy h => nowM_succ (keep := keep) (Y := slidGo pinned 0 keep (longsV a keep pinned)) hP.nodup (j := j) (x := x) (y := y) hx hy h
  have hlk := fun x (hx : x ∈ keep) s (hs : spotAt (spotsL a) x = some s) => Iso.link_of hC hx hs
  unfold slidW
  rw [hal]
  obtain ⟨hnd, hYl, hLl, hYn, hRows, -, -, -, hkn, hat⟩ := hP
  rw [hal] at hRows hat
  have hraw0 : rawL n 0 ((rowsOf a keep (slidGo pinned 0 keep (longsV a keep pinned))).take 0) = List.replicate n 0 := rfl
  have hrawA : rawL n 0 ((rowsOf a keep (slidGo pinned 0 keep (longsV a keep pinned))).take n2) = rawL n 0 (rowsOf a keep (slidGo pinned 0 keep (longsV a keep pinned))) := by
    rw [List.take_of_length_le (by rw [rowsOf_length hYl, hk2]; exact Nat.le_refl _)]
  have hx256 : ∀ (j : Nat) (x : Nat), keep[j]? = some (x : Int) → x ≤ 256 := fun j x hx => by
    obtain ⟨s, hs⟩ := begsL_iff.1 (hC.begs _ (List.mem_of_getElem? hx))
    have := begsL_bounds (checkE_ok.1 hC1).1 _ (hC.begs _ (List.mem_of_getElem? hx))
    omega
  have hGl : (pgaps n 0 (slidGo pinned 0 keep (longsV a keep pinned)) (longsV a keep pinned)).length ≤ n2 + 1 := by
    have h1 := pgaps_count n pinned keep (longsV a keep pinned) 0
    have h2 := List.length_filter_le (fun x => decide (x ∈ pinned)) keep
    omega
  have hnow0 := nowM_zero keep (slidGo pinned 0 keep (longsV a keep pinned))
  clear hgl hK hE hC
  generalize longsV a keep pinned = L at *
  generalize slidGo pinned 0 keep L = Y at *
  generalize pgaps n 0 Y L = G at *
  generalize rowsOf a keep Y = R at *
  generalize posL keep Y = φ at *
  have hyl : Y.length = n2 := by rw [hYl, hk2]
  have HTo := Lib.hid hTo
  have HGp := Lib.hid hGp
  have HF := Lib.hid hfold
  have HGM := Lib.hid hgm
  have HRL := Lib.hid hRl
  have HStep := Lib.hid hstep
  have HNow := Lib.hid hnow
  have HNowS := Lib.hid hnows
  have HNow0 := Lib.hid hnow0
  have HLk := Lib.hid hlk
  have HRaw0 := Lib.hid hraw0
  have HRawA := Lib.hid hrawA
  have HAtt := Lib.hid hat
  have HKN := Lib.hid hkn
  have HX256 := Lib.hid hx256
  clear hx256
  have HK2 := Lib.hid hk2
  have HAL := Lib.hid hal
  have HYL := Lib.hid hyl
  obtain ⟨i0, hi, hz0, hz1, hz2⟩ := info_parts info_u64
  have hmm := @run_makeMap Try.prog
  have hmk := fun W => run_make_rowN (P := Try.prog) 23 37 i0 (.int .u64 0) Try.underlying23 hi hz0 .i64 .i64 n n (Nat.le_refl _) (by rw [hz2]; omega) (by omega) W
  have hn2' : n2 ≤ 256 := by omega
  clear hal hk2 hN hkl hTo hGp hfold hgm hRl hstep hnow hnows hnow0 hlk hraw0 hrawA hat hkn hyl hYl hLl hYn hnd hRows hn2 hm
  go_enter Try.func47, Try.ntmps47
  go_wp2_with fail
  refine (HTo.out _ hr hr2 hr3).mono ?_
  rintro e w1 ⟨hb1, AY, cY, rfl, hownY⟩
  obtain ⟨w2, hins, hM, hg1⟩ := (MapIs.made w1 Try.prog 37 .u64).store (k := 37) (t := 102) Try.underlying37 Try.underlying102 (by decide) (x := 0) (by decide) (.int .u64 0)
  rw [← HNow0.out] at hM
  have HM := Lib.hid hM
  have hb12 : Below w1.heap.size w1 w2 := (below_new w1 _).grown hg1 (by simp) (by simp)
  have HOY := Lib.hid hownY
  have hrY := Reads.of_own hownY
  have hsz1 := hb1.size
  clear hM hg1 hownY
  go_wp2
  clear hins
  go_loopw [41] (fun i wr => ∃ j : Nat, j ≤ n2 ∧ i = .int .i64 j ∧ Hid (MapIs wr Try.prog 37 .u64 w1.heap.size (j + 1) (nowM keep Y j)) ∧ Below w1.heap.size w1 wr) (fun i _ => n2 - (intOf i).toNat)
  case atStart => exact ⟨0, Nat.zero_le _, rfl, HM.out, hb12⟩
  case round =>
    obtain ⟨j, hj, rfl, HMj, hb⟩ := hrel
    by_cases hlt : j < n2
    · have hbw := below_step hb1 hb
      obtain ⟨ad, x, rfl, had, hx, cx⟩ := (hr2.below hbw).num hlt
      obtain ⟨adY, y, rfl, hadY, hy, cy⟩ := (hrY.below hb).num hlt
      obtain ⟨s, i, -, -, -, g4, g5, -, g7, g8⟩ := HAtt.out j x y hx hy
      have x0 := HKN.out x (List.mem_of_getElem? hx)
      have gr := g4.r0
      have gb := g4.b0
      unfold Spot.long at g5
      obtain ⟨X, rfl⟩ := Int.eq_ofNat_of_zero_le x0
      obtain ⟨Yn, rfl⟩ := Int.eq_ofNat_of_zero_le g7
      have hX : X ≤ 256 := HX256.out _ _ hx
      have hYn : Yn ≤ 256 := by omega
      have wx : IntKind.u64.wrap (X : Int) = X := wrap_u64_of (by omega) (by omega)
      have wy : IntKind.u64.wrap (Yn : Int) = Yn := wrap_u64_of (by omega) (by omega)
      obtain ⟨p, hp⟩ : ∃ p, p = X + 1 := ⟨_, rfl⟩
      obtain ⟨q, hq⟩ : ∃ q, q = Yn + 1 := ⟨_, rfl⟩
      have wp : IntKind.u64.wrap ((X : Int) + 1) = p := by rw [wrap_u64_of (by omega) (by omega)]; omega
      have wq : IntKind.u64.wrap ((Yn : Int) + 1) = q := by rw [wrap_u64_of (by omega) (by omega)]; omega
      obtain ⟨w3, hupd, hM3, hg3⟩ := HMj.out.store (k := 37) (t := 102) Try.underlying37 Try.underlying102 (by unfold maxLen; omega) (x := (p : Int)) (by simp [Lit.wf, IntKind.min, IntKind.max, IntKind.signed, IntKind.bits]; omega) (.int .u64 q)
      have HM3 : Hid (MapIs w3 Try.prog 37 .u64 w1.heap.size (j + 1 + 1) (nowM keep Y (j + 1))) := by
        show MapIs _ _ _ _ _ _ _
        rw [HNowS.out j _ _ hx hy x0, show ((X : Int) + 1) = p by omega, show ((Yn : Int) + 1) = q by omega]
        exact hM3
      have hb3 := hb.grown hg3 hb.size (by simp)
      clear hM3 hg3 hp hq hx hy g4 g5 gr gb x0 g7 g8 hX hYn
      go_wp2
      go_roundw
      case rel => exact ⟨j + 1, hlt, by go_num, HM3, hb3⟩
      case measure => simp [intOf]; omega
    · obtain rfl : n2 = j := by omega
      obtain ⟨wo, hwo⟩ : ∃ x, x = wr := ⟨wr, rfl⟩
      subst hwo
      have hB0 : Blk (wo.alloc (.cells (madeCells #[Value.int .u64 0] n) 37)) wo.heap.size 37 ((rawL n 0 (R.take 0)).map (Value.int .u64)).toArray := by
        rw [HRaw0.out, List.map_replicate, ← madeCells_one]; exact heap_alloc_new wo _
      have HB0 := Lib.hid hB0
      have hb0 := below_new wo (.cells (madeCells #[Value.int .u64 0] n) 37)
      have hb1o := below_step hb1 hb
      have hwsz := hb.size
      have hbow1 : w1.heap.size < wo.heap.size := HMj.out.lt
      clear hB0
      go_wp2
      clear hmk
      go_loopw [62] (fun i wr => ∃ j : Nat, j ≤ n2 ∧ i = .int .i64 j ∧ Hid (Blk wr wo.heap.size 37 ((rawL n 0 (R.take j)).map (Value.int .u64)).toArray) ∧ Below wo.heap.size wo wr) (fun i _ => n2 - (intOf i).toNat)
      case atStart => exact ⟨0, Nat.zero_le _, rfl, HB0, hb0⟩
      case round =>
        obtain ⟨j, hj, rfl, HBj, hbr⟩ := hrel
        by_cases hlt : j < n2
        · have hbw := below_step hb1o hbr
          have hbow : Below w1.heap.size w1 wr := hb.trans (hbr.mono hwsz)
          obtain ⟨ad, x, rfl, had, hx, cx⟩ := (hr2.below hbw).num hlt
          obtain ⟨adY, y, rfl, hadY, hy, cy⟩ := (hrY.below hbow).num hlt
          obtain ⟨s, i, g1, g2, g3, g4, g5, -, g7, -⟩ := HAtt.out j x y hx hy
          have HAx := HAt.out x i s wr ((hr.below hbw).more hbw.size) g2 g3
          have hst := HStep.out j x y s hx hy g1
          have hlk := HLk.out x (List.mem_of_getElem? hx) s g1
          have how := obj_words g4
          have hrl := refsOf_length g4
          have hbl := bodyOf_length g4
          obtain ⟨-, hsf, hsl⟩ := spotAt_some g1
          have r0 := g4.r0
          have b0 := g4.b0
          have hcl : ((wordOf s.r s.b s.t s.f :: (refsOf a s ++ bodyOf a s)).length : Int) = s.long := by
            rw [List.length_cons, List.length_append, hrl, hbl]; unfold Spot.long; omega
          have hrin : ∀ v ∈ refsOf a s, (Lit.int .u64 v).wf = true := fun v hv => ha v (by
            unfold refsOf at hv
            exact List.mem_of_mem_drop (List.mem_of_mem_take hv))
          have l0 := g4.loc0
          generalize refsOf a s = rs at *
          generalize bodyOf a s = bs at *
          generalize wordOf s.r s.b s.t s.f = Wd at *
          generalize refIx (spotsL a) a s = ri at *
          clear g1 g2 g3 g4 hx hy
          obtain ⟨loc, r, bb, t, fr⟩ := s
          simp only [Spot.long] at g5 hcl how hsf hsl HAx hrl hbl r0 b0 l0
          subst hsf
          subst hsl
          obtain ⟨I, rfl⟩ := Int.eq_ofNat_of_zero_le l0
          obtain ⟨mr, rfl⟩ := Int.eq_ofNat_of_zero_le r0
          obtain ⟨mb, rfl⟩ := Int.eq_ofNat_of_zero_le b0
          obtain ⟨Yn, rfl⟩ := Int.eq_ofNat_of_zero_le g7
          simp only [Int.toNat_natCast] at hrl hbl how HAx hst
          obtain ⟨LN, hLN⟩ : ∃ LN, LN = 1 + mr + mb := ⟨_, rfl⟩
          rw [show (1 + (mr : Int) + mb).toNat = LN by omega] at how
          have hcln : (Wd :: (rs ++ bs)).length = LN := by omega
          have hIL : I + LN ≤ n := by
            have h1 := congrArg List.length how
            rw [hcln, List.length_take, List.length_drop, HAL.out] at h1
            omega
          have hYL : Yn + LN ≤ n := by omega
          have hmr256 : mr ≤ 256 := by omega
          obtain ⟨ada, rfl, hada, hcella⟩ := hr.2 (by omega)
          have hsrc : ∀ (W : World), Below w.heap.size w W → ∀ (j : Nat) (v : Value), ((Wd :: (rs ++ bs)).map (Value.int .u64))[j]? = some v → W.cell? ((ada.add I).add j) = some v := by
            intro W hW j v hv
            rw [← how, List.getElem?_map, List.getElem?_take] at hv
            by_cases hj : j < LN
            · rw [if_pos hj, List.getElem?_drop] at hv
              rw [add_of_add, hW.cell (by rw [block_of_add]; exact hada)]
              exact hcella _ _ (by rw [List.getElem?_map]; exact hv)
            · rw [if_neg hj] at hv; cases hv
          have HSrc := Lib.hid hsrc
          have HAx := Lib.hid HAx
          have HCl := Lib.hid hcln
          have HSt := Lib.hid hst
          have HLk2 := Lib.hid hlk
          have HRin := Lib.hid hrin
          have HRl := Lib.hid hrl
          have HLN := Lib.hid hLN
          obtain ⟨y1, hy1⟩ : ∃ y1, y1 = Yn + 1 := ⟨_, rfl⟩
          obtain ⟨y2, hy2⟩ : ∃ y2, y2 = y1 + mr := ⟨_, rfl⟩
          have e1 : IntKind.i64.wrap ((Yn : Int) + 1) = y1 := by rw [IntWalk.i64_in _ (by omega)]; omega
          have e2 : IntKind.i64.wrap ((y1 : Int) + mr) = y2 := by rw [IntWalk.i64_in _ (by omega)]; omega
          have e3 : IntKind.i64.wrap ((y2 : Int) + mb) = (Yn : Int) + LN := by rw [IntWalk.i64_in _ (by omega)]; omega
          have e4 : ((Yn : Int) + LN).toNat = Yn + LN := by omega
          have e5 : 0 ≤ (Yn : Int) + LN := by omega
          have e6 : (Yn : Int) + LN ≤ n := by omega
          have hne1 : ¬ n = Yn := by omega
          have hne2 : ¬ c = I := by omega
          have hIn : (I : Int) ≤ n := by omega
          have hlt2 := hlt
          clear how hcella hsrc hcln hst hlk hrin hrl hbl hcl hLN hy1 hy2 g5 hbow
          go_wp2_with fail
          refine HAx.out.mono ?_
          rintro e w5 ⟨hb5, A6, c6, A7, c7, rfl, -, -⟩
          have D5 := Blk.new w5 104 #[.int .i64 t, .slice A6 mr c6, .slice A7 mb c7, .bool false]
          have hbn5 := below_new w5 (.cells #[.int .i64 t, .slice A6 mr c6, .slice A7 mb c7, .bool false] 104)
          have hbx := below_step hb5 hbn5
          have B5 := HBj.out.below hbx HBj.out.lt
          have HB5 := Lib.hid B5
          have HD5 := Lib.hid D5
          have hbwx := below_step hbw hbx
          have hbox := below_step hbr hbx
          have d1 := D5.cell 1
          have d2 := D5.cell 2
          simp only [List.getElem?_toArray, List.getElem?_cons_zero, List.getElem?_cons_succ] at d1 d2
          have cyx := cy
          have hsz1o : w1.heap.size ≤ wo.heap.size := hwsz
          have cy5 : (w5.alloc (.cells #[.int .i64 t, .slice A6 mr c6, .slice A7 mb c7, .bool false] 104)).cell? (adY.add j) = some (.int .i64 Yn) := by
            rw [hbx.cell (by rw [block_of_add]; have := hbr.size; omega)]
            exact cy
          have HC : Hid (∀ q, ∃ W1, (Builtin.copy_ #[23, 23] 3 #[.slice (some ⟨wo.heap.size, Yn, none⟩) LN (n - Yn), .slice (some (ada.add I)) (n - I) (c - I)]).run Try.prog ((w5.alloc (.cells #[.int .i64 t, .slice A6 mr c6, .slice A7 mb c7, .bool false] 104)).drewN q) = .ok (goInt LN) W1 ∧
              Blk W1 wo.heap.size 37 ((splice (rawL n 0 (R.take j)) Yn (Wd :: (((rs.take 0).map (refT φ)) ++ (rs.drop 0 ++ bs)))).map (Value.int .u64)).toArray ∧ Blk W1 w5.heap.size 104 #[.int .i64 t, .slice A6 mr c6, .slice A7 mb c7, .bool false] ∧ Below wo.heap.size wo W1) := by
            intro q
            have hne : w5.heap.size ≠ wo.heap.size := by have := hb5.size; have := hbr.size; have := HBj.out.lt; omega
            have hg : ((w5.alloc (.cells #[.int .i64 t, .slice A6 mr c6, .slice A7 mb c7, .bool false] 104)).drewN q).heap[wo.heap.size]? = some (.cells ((rawL n 0 (R.take j)).map (Value.int .u64)).toArray 37 (0, 0)) := B5.drewN q
            refine ⟨_, run_copyK _ _ _ _ 37 1 wo.heap.size Yn LN (n - Yn) (ada.add I) (n - I) (c - I) LN ((rawL n 0 (R.take j)).map (Value.int .u64)) 37 ((Wd :: (rs ++ bs)).map (Value.int .u64)) Try.underlying23 size_u64 hg (Nat.min_eq_right (by omega)) (by rw [List.length_map, HCl.out]; simp) (fun j v hv => HSrc.out _ (below_drewN hbwx q) j v hv) (by rw [List.length_map, List.length_map, HCl.out, HRL.out]; exact hYL) (u64s_one _), ?_, ?_, ?_⟩
            · unfold Blk
              rw [setRow_heap _ _ _ _ _ _ hg, splice_map]
              simp
            · unfold Blk
              rw [setRow_other _ _ _ _ hne]
              exact D5
            · exact below_setRow (below_drewN hbox q) (Nat.le_refl _) _
          clear B5 D5 hbn5 hb5 cyx
          go_wp2
          go_quiet (fail)
          obtain ⟨W1, hrun, HB1, HD1, hbo1⟩ := HC.out nq
          have dd1 := HD1.cell 1
          simp only [List.getElem?_toArray, List.getElem?_cons_zero, List.getElem?_cons_succ] at dd1
          have HB1 := Lib.hid HB1
          clear HD1 HC
          go_wp2
          clear hrun dd1
          go_loopw [20, 100] (fun _ i wr => ∃ q : Nat, q ≤ mr ∧ i = .int .i64 q ∧ Hid (Blk wr wo.heap.size 37 ((splice (rawL n 0 (R.take j)) Yn (Wd :: (((rs.take q).map (refT φ)) ++ (rs.drop q ++ bs)))).map (Value.int .u64)).toArray) ∧ Below wo.heap.size wo wr) (fun _ i _ => mr - (intOf i).toNat)
          case atStart => exact ⟨0, Nat.zero_le _, rfl, HB1, hbo1⟩
          case round =>
            obtain ⟨q, hq, rfl, HBq, hbq⟩ := hrel
            by_cases hltq : q < mr
            · have hjr : q < rs.length := by rw [HRl.out]; exact hltq
              obtain ⟨v, hv⟩ : ∃ v, rs[q]? = some v := ⟨_, List.getElem?_eq_getElem hjr⟩
              have hvw := HRin.out v (List.mem_of_getElem? hv)
              have hnow := HNow.out v (fun h0 => HLk2.out v (List.mem_of_getElem? hv) h0)
              rw [HK2.out] at hnow
              obtain ⟨z, hz⟩ : ∃ z, z = refT φ v := ⟨_, rfl⟩
              rw [← hz] at hnow
              have hM2 := HMj.out.below hbq (by have := HBj.out.lt; have := hbow1; omega)
              have hlook := hM2.look_ok (k := 37) (t := 102) Try.underlying37 Try.underlying102 (zero_u64 _) hvw
              rw [hnow] at hlook
              simp only [Option.getD_some, Option.isSome_some] at hlook
              obtain ⟨q1, hq1⟩ : ∃ q1, q1 = 1 + q := ⟨_, rfl⟩
              have wq1 : IntKind.i64.wrap (1 + (q : Int)) = q1 := by rw [IntWalk.i64_in _ (by omega)]; omega
              have hq1L : q1 < LN := by have := HLN.out; omega
              have hAl : ((rs.take q).map (refT φ)).length = q := by rw [List.length_map, List.length_take]; omega
              have hcsl : (Wd :: (((rs.take q).map (refT φ)) ++ (rs.drop q ++ bs))).length = LN := by
                have := HCl.out
                simp only [List.length_cons, List.length_append, List.length_drop, hAl] at this ⊢
                omega
              have hO : Yn ≤ (rawL n 0 (R.take j)).length := by rw [HRL.out]; omega
              have hlist : (splice (rawL n 0 (R.take j)) Yn (Wd :: (((rs.take q).map (refT φ)) ++ (rs.drop q ++ bs))))[Yn + q1]? = some v := by
                rw [splice_at hO (by rw [hcsl]; exact hq1L), hq1, Nat.add_comm 1 q, List.getElem?_cons_succ, List.getElem?_append_right (by omega), hAl, Nat.sub_self, List.drop_eq_getElem_cons hjr]
                obtain ⟨z1, z2⟩ := List.getElem?_eq_some_iff.1 hv
                rw [← z2]; rfl
              have c1 := HBq.out.cell (Yn + q1)
              rw [List.getElem?_toArray, List.getElem?_map, hlist, Option.map_some] at c1
              have f1 := HBq.out.frozen (Yn + q1)
              have HB2 : Hid (Blk (wr.setCell ⟨wo.heap.size, Yn + q1, none⟩ (.int .u64 z)) wo.heap.size 37 ((splice (rawL n 0 (R.take j)) Yn (Wd :: (((rs.take (q + 1)).map (refT φ)) ++ (rs.drop (q + 1) ++ bs)))).map (Value.int .u64)).toArray) := by
                have h2 := HBq.out.set_ (Yn + q1) (.int .u64 z)
                rw [List.setIfInBounds_toArray, ← List.map_set, splice_set _ hO (by rw [hcsl]; exact hq1L), hq1, mid_set hAl hjr] at h2
                show Blk _ _ _ _
                obtain ⟨z1, z2⟩ := List.getElem?_eq_some_iff.1 hv
                rw [List.take_succ_eq_append_getElem z1, z2, List.map_append, hq1]
                rw [hz] at h2 ⊢
                exact h2
              have hbq2 := hbq.setCell (p := ⟨wo.heap.size, Yn + q1, none⟩) (Nat.le_refl _) (.int .u64 z)
              have hq1' : q + 1 ≤ mr := hltq
              clear hnow hM2 hq1 hAl hcsl hO hlist hz hv hvw hjr hbq
              go_wp2
              go_roundw
              case rel => exact ⟨q + 1, hq1', by go_num, HB2, hbq2⟩
              case measure => simp [intOf]; omega
            · obtain rfl : q = mr := by omega
              have HBn : Hid (Blk wr wo.heap.size 37 ((rawL n 0 (R.take (j + 1))).map (Value.int .u64)).toArray) := by
                show Blk _ _ _ _
                have h2 := HBq.out
                rw [List.take_of_length_le (l := rs) (by rw [HRl.out]; exact Nat.le_refl _), List.drop_of_length_le (l := rs) (by rw [HRl.out]; exact Nat.le_refl _), List.nil_append] at h2
                rw [HSt.out]
                exact h2
              go_wp2
              go_roundw
              case rel => exact ⟨j + 1, hlt2, by go_num, HBn, hbq⟩
              case measure => simp [intOf]; omega
        · obtain rfl : n2 = j := by omega
          rw [HRawA.out] at HBj
          have hbw := below_step hb1o hbr
          have hbow : Below w1.heap.size w1 wr := hb.trans (hbr.mono hwsz)
          have HOY2 := Lib.hid (own_below HOY.out hbow)
          have HBo : Hid (Blk wr wo.heap.size 37 (((G.take 0).foldl setG (rawL n 0 R)).map (Value.int .u64)).toArray) := HBj.out
          clear HMj hbow
          go_wp2_with fail
          refine (HGp.out _ ((hr.below hbw).more hbw.size) ((hr2.below hbw).more hbw.size) ((hr3.below hbw).more hbw.size)).mono ?_
          rintro e w5 ⟨hb5, AG, cG, rfl, hownG⟩
          obtain ⟨kG, hkG⟩ : ∃ kG, kG = G.length := ⟨_, rfl⟩
          rw [← hkG] at hownG hGl ⊢
          have hkG2 : kG ≤ 257 := by omega
          have HKG := Lib.hid hkG
          have HOG := Lib.hid hownG
          have HB5 : Hid (Blk w5 wo.heap.size 37 (((G.take 0).foldl setG (rawL n 0 R)).map (Value.int .u64)).toArray) := HBo.out.below hb5 HBo.out.lt
          have HOY5 := Lib.hid (own_below HOY2.out hb5)
          have hgr : wo.heap.size < wr.heap.size := HBo.out.lt
          have hb5o := below_step hbr hb5
          obtain ⟨wp, hwp⟩ : ∃ x, x = wr := ⟨wr, rfl⟩
          subst hwp
          clear hkG hownG hbr hbw hb5
          go_wp2
          go_loopw [131] (fun i wx => ∃ q : Nat, q ≤ kG ∧ i = .int .i64 q ∧ Hid (Blk wx wo.heap.size 37 (((G.take q).foldl setG (rawL n 0 R)).map (Value.int .u64)).toArray) ∧ Hid (wx.ownsRow wp.heap.size 137 2 (.slice AG kG cG) kG (runsC G)) ∧
            Hid (wx.ownsRow w.heap.size 3 1 (.slice AY n2 cY) n2 (Y.map (.int .i64))) ∧ Below wo.heap.size wo wx) (fun i _ => kG - (intOf i).toNat)
          case atStart => exact ⟨0, Nat.zero_le _, rfl, HB5, HOG, HOY5, hb5o⟩
          case round =>
            obtain ⟨q, hq, rfl, HBq, HOGq, HOYq, hbq⟩ := hrel
            by_cases hltq : q < kG
            · obtain ⟨adG, r, rfl, hadG, hrq, cr0, cr1⟩ := (Reads.of_own HOGq.out).run hltq
              obtain ⟨gi, gk, hre, hg1, -, hg2⟩ := HGM.out r (List.mem_of_getElem? hrq)
              subst hre
              dsimp only at cr0 cr1
              rw [Nat.sub_zero, Nat.zero_add] at hg2
              have HWk := HW.out gk hg1 (by omega)
              have HTk : Hid ((G.take (q + 1)).foldl setG (rawL n 0 R) = ((G.take q).foldl setG (rawL n 0 R)).set gi (wordOf 0 ((gk : Int) - 1) 0 true)) := by
                show _ = _
                obtain ⟨z1, z2⟩ := List.getElem?_eq_some_iff.1 hrq
                rw [List.take_succ_eq_append_getElem z1, z2, List.foldl_append]
                simp [setG]
              obtain ⟨wd, hwd⟩ : ∃ wd, wd = wordOf 0 ((gk : Int) - 1) 0 true := ⟨_, rfl⟩
              rw [← hwd] at HWk HTk
              have HWk := Lib.hid HWk
              have wk : IntKind.i64.wrap ((gk : Int) - 1) = (gk : Int) - 1 := IntWalk.i64_in _ (by omega)
              have hFl : ((G.take q).foldl setG (rawL n 0 R)).length = n := by
                have : ∀ (l : List Rn) (o : List Int), (l.foldl setG o).length = o.length := by
                  intro l
                  induction l with
                  | nil => intro o; rfl
                  | cons r l ih => intro o; rw [List.foldl_cons, ih]; unfold setG; rw [List.length_set]
                exact (this _ _).trans (by rw [← HRawA.out]; exact HRL.out _)
              have hbn := below_new wr (.cells #[.int .i64 gi, .int .i64 gk] 137)
              have DB := Blk.new wr 137 #[.int .i64 gi, .int .i64 gk]
              have BB := HBq.out.alloc (.cells #[.int .i64 gi, .int .i64 gk] 137)
              have OG := HOGq.out.alloc (.cells #[.int .i64 gi, .int .i64 gk] 137)
              have OY := HOYq.out.alloc (.cells #[.int .i64 gi, .int .i64 gk] 137)
              have hbq' := hbq.alloc hbq.size (.cells #[.int .i64 gi, .int .i64 gk] 137)
              have d0 := DB.cell 0
              have d1 := DB.cell 1
              simp only [List.getElem?_toArray, List.getElem?_cons_zero, List.getElem?_cons_succ] at d0 d1
              have DB := DB.drew
              have BB := BB.drew
              have OG := OG.drew
              have OY := OY.drew
              have hbq' := hbq'.drew
              have hgin : (gi : Int) < n := by omega
              have hgi0 : (0 : Int) ≤ gi := by omega
              have hg4 : (((G.take q).foldl setG (rawL n 0 R)).map (Value.int .u64))[gi]? = some (.int .u64 (((G.take q).foldl setG (rawL n 0 R))[gi]'(by omega))) := by
                rw [List.getElem?_map, List.getElem?_eq_getElem (by omega)]; rfl
              obtain ⟨old, hold⟩ : ∃ old, old = ((G.take q).foldl setG (rawL n 0 R))[gi]'(by omega) := ⟨_, rfl⟩
              rw [← hold] at hg4
              obtain ⟨cur, hcur⟩ : ∃ cur, cur = (G.take q).foldl setG (rawL n 0 R) := ⟨_, rfl⟩
              rw [← hcur] at hg4 BB HTk
              have HG4 := Lib.hid hg4
              have hq1 : q + 1 ≤ kG := hltq
              have hblt : wo.heap.size < wr.heap.size := HBq.out.lt
              have hbne : ¬ wr.heap.size = wo.heap.size := by omega
              have hbne2 : ¬ wo.heap.size = wr.heap.size := by omega
              clear hrq hwd hFl hold hcur hg4 HBq HOGq HOYq hbq hbn
              go_wp2
              go_region_held3 (fun w' => w'.cell? ⟨wr.heap.size, 0, none⟩ = some (.int .i64 gi) ∧ w'.cell? ⟨wr.heap.size, 1, none⟩ = some (.int .i64 gk)) (go_keep)
                (first
                  | (go_at_call 53; with_reducible refine (HWk.out _).mono ?_; rintro e w4 ⟨rfl, hb4⟩; have DB := DB.below hb4 DB.lt; have BB := BB.below hb4 BB.lt; have OG := own_below OG hb4; have OY := own_below OY hb4; have hbq' := hbq'.trans (hb4.mono hbq'.size); have d0 := DB.cell 0; have d1 := DB.cell 1; simp only [List.getElem?_toArray, List.getElem?_cons_zero, List.getElem?_cons_succ] at d0 d1; have g4 := BB.cell gi; rw [List.getElem?_toArray, HG4.out] at g4; have f4 := BB.frozen gi))
              have HBn : Hid (Blk (w4.setCell ⟨wo.heap.size, gi, none⟩ (.int .u64 wd)) wo.heap.size 37 (((G.take (q + 1)).foldl setG (rawL n 0 R)).map (Value.int .u64)).toArray) := by
                have h2 := BB.set_ gi (.int .u64 wd)
                rw [List.setIfInBounds_toArray, ← List.map_set, ← HTk.out] at h2
                exact h2
              have HOGn := Lib.hid (own_far OG (p := ⟨wo.heap.size, gi, none⟩) hgr (.int .u64 wd))
              have HOYn := Lib.hid (own_apart OY (p := ⟨wo.heap.size, gi, none⟩) (own_blk_ne OY BB (by decide)) (.int .u64 wd))
              have hbn := hbq'.setCell (p := ⟨wo.heap.size, gi, none⟩) (Nat.le_refl _) (.int .u64 wd)
              clear BB OG OY hbq' DB d0 d1 f4 g4
              go_wp2
              go_roundw
              case rel => exact ⟨q + 1, hq1, by go_num, HBn, HOGn, HOYn, hbn⟩
              case measure => simp [intOf]; omega
            · obtain rfl : kG = q := by omega
              have HBn : Hid (Blk wr wo.heap.size 37 ((chunksW (laidC n 0 R)).map (Value.int .u64)).toArray) := by
                have h2 := HBq.out
                rw [List.take_of_length_le (by rw [← HKG.out]; exact Nat.le_refl _), HF.out] at h2
                exact h2
              have hln : (chunksW (laidC n 0 R)).length = n := by
                rw [← HF.out]
                have : ∀ (l : List Rn) (o : List Int), (l.foldl setG o).length = o.length := by
                  intro l
                  induction l with
                  | nil => intro o; rfl
                  | cons r l ih => intro o; rw [List.foldl_cons, ih]; unfold setG; rw [List.length_set]
                exact (this _ _).trans (by rw [← HRawA.out]; exact HRL.out _)
              have HLn := Lib.hid hln
              clear hln
              go_wp2
              go_ret3
              refine ⟨below_step hb1o hbq, some ⟨wo.heap.size, 0, none⟩, AY, cY, rfl, ?_, HOYq.out⟩
              have hcl := own_close (w := wr) (base := w.heap.size) (e := 37) (size := 1) (n := n) (c := n) (g := wo.heap.size) ((chunksW (laidC n 0 R)).map (Value.int .u64)) hb1o.size HBn.out (Nat.le_refl _) (by unfold maxLen; omega) (by rw [List.length_map, HLn.out, Nat.mul_one])
              rw [Nat.mul_one, List.take_of_length_le (by rw [List.length_map, HLn.out]; exact Nat.le_refl _)] at hcl
              exact hcl
set_option maxRecDepth 100000 in
set_option maxHeartbeats 2000000 in
theorem cleanT_any (A : Option Addr) (n c : Nat) (a : List Int) (A2 : Option Addr) (n2 c2 : Nat) (f : List Int) (A3 : Option Addr) (m c3 : Nat) (p : List Int) (w : World) (hr : Reads w w.heap.size 1 A n (a.map (.int .u64))) (hnc : n ≤ c) (hc : c ≤ maxLen) (ha : ∀ x ∈ a, (Lit.int .u64 x).wf = true)
    (hr2 : Reads w w.heap.size 1 A2 n2 (f.map (.int .i64))) (hn2 : n2 * 8 ≤ 140737488351232) (hx2 : ∀ x ∈ f, (Lit.int .i64 x).wf = true) (hr3 : Reads w w.heap.size 1 A3 m (p.map (.int .i64))) (hm : m * 8 ≤ 140737488351232) (hx3 : ∀ x ∈ p, (Lit.int .i64 x).wf = true) :
    Calls Try.prog 29 #[.slice A n c, .slice A2 n2 c2, .slice A3 m c3] w fun e w' => Below w.heap.size w w' ∧
      ((CleanOk a f p ∧ ∃ (L Y b now : List Int) (A1 : Option Addr) (A4 : Option Addr) (c4 : Nat), CleanIs a f p L Y b now ∧ e = .returned (.tuple #[.slice A1 n n, .slice A4 n2 c4, .int .i64 0]) ∧
          w'.ownsRow w.heap.size 37 1 (.slice A1 n n) n (b.map (.int .u64)) ∧ OwnT w' w.heap.size 3 1 isN (.slice A4 n2 c4) n2 (now.map (.int .i64))) ∨
       (¬ CleanOk a f p ∧ ∃ er : Int, (er != 0) = true ∧ e = .returned (.tuple #[.slice none 0 0, .slice none 0 0, .int .i64 er]))) := by
  have hfl : f.length = n2 := by have := hr2.1; simpa using this
  have hpl : p.length = m := by have := hr3.1; simpa using this
  have hv := reads_new w [.slice A2 n2 c2, .slice A3 m c3] 24 2 1 rfl
  have hbn := below_new w (.cells #[.slice A2 n2 c2, .slice A3 m c3] 24)
  have HCo := Lib.hid (concat2_int A2 n2 c2 (f.map (.int .i64)) A3 m c3 (p.map (.int .i64)) (some ⟨w.heap.size, 0, none⟩) 2 _ (hv.more (by simp)) ((hr2.below hbn).more hbn.size) ((hr3.below hbn).more hbn.size) (ints_one f) (ints_one p) (by omega))
  have hxx : ∀ x ∈ f ++ p, (Lit.int .i64 x).wf = true := fun x hx => by
    rcases List.mem_append.1 hx with h | h
    · exact hx2 x h
    · exact hx3 x h
  by_cases hE : checkE a = 0
  · have HR := Lib.hid (fun A4 c4 w hr hr4 => reach_ok A n c a A4 (n2 + m) c4 (f ++ p) w hr hnc ha hr4 (by omega) hxx hE)
    have HSO := Lib.hid (fun A4 c4 L k w hr hr4 hr3 (hk : k = L.length) hkl (h1 : Reached a (spotsL a) (f ++ p) L) (h2 : risesP p = true) => slideT_ok A A4 A3 n c k c4 m c3 a L p w hr hnc hc ha hr4 hr3 hkl (by omega) ((clean_longs hE h1).1 h2) (reached_closed hE h1))
    have HSB := Lib.hid (fun A4 c4 L k w hr hr4 hr3 (hk : k = L.length) hkl (h1 : Reached a (spotsL a) (f ++ p) L) (h2 : risesP p = false) => by
      have := slide_bad A A4 A3 n c k c4 m c3 a L p w hr hnc ha hr4 hr3 hkl (by omega) (by rw [(clean_longs hE h1).2 h2]; decide)
      rw [(clean_longs hE h1).2 h2] at this
      exact this)
    have HPl := Lib.hid (fun L (h1 : Reached a (spotsL a) (f ++ p) L) (h2 : risesP p = true) => planned_of ((clean_longs hE h1).1 h2))
    have HIs := Lib.hid (fun L (h1 : Reached a (spotsL a) (f ++ p) L) (h2 : risesP p = true) => (⟨hE, h2, h1, (clean_longs hE h1).1 h2, rfl, rfl, rfl⟩ : CleanIs a f p L (slidGo p 0 L (longsV a L p)) (slidW a L p) (f.map (posL L (slidGo p 0 L (longsV a L p))))))
    have HNo : Hid (∀ z ∈ f ++ p, z ∉ begsL (spotsL a) → ¬ CleanOk a f p) := fun z hz hz2 h => hz2 (h.2.1 z hz)
    have HNo2 : Hid (risesP p = false → ¬ CleanOk a f p) := fun h1 h => by rw [h.2.2] at h1; cases h1
    have HYes : Hid (∀ L, Reached a (spotsL a) (f ++ p) L → risesP p = true → CleanOk a f p) := fun L h1 h2 => ⟨hE, fun x hx => h1.begs x (h1.roots x hx), h2⟩
    have HBB := Lib.hid (begsL_bounds (checkE_ok.1 hE).1)
    generalize spotsL a = S at *
    have HFL := Lib.hid hfl
    obtain ⟨i0, hi, hz0, hz1, hz2⟩ := info_parts info_int
    have hn2b : n2 ≤ 100000000000000 := by omega
    clear hfl hpl hv hxx hE
    go_enter Try.func29, Try.ntmps29
    go_wp2_with fail
    refine HCo.out.mono ?_
    rintro e w1 ⟨A4, c4, rfl, hown4, hb1⟩
    rw [← List.map_append] at hown4
    have hb01 := below_step hbn hb1
    have hr4 := Reads.of_own hown4
    clear hown4 hbn hb1
    go_wp2_with fail
    refine (HR.out _ _ _ ((hr.below hb01).more hb01.size) hr4).mono ?_
    rintro e w2 ⟨hb2, ⟨L, A5, c5, hL, rfl, hown5⟩ | ⟨⟨z, hz, hz2⟩, rfl⟩⟩
    · have hb02 := below_step hb01 hb2
      have hL256 : L.length ≤ 256 := nodup_bound 256 L hL.once (fun x hx => HBB.out x (hL.begs x hx))
      have hr5 := Reads.of_own hown5
      obtain ⟨k, hk⟩ : ∃ k, k = L.length := ⟨_, rfl⟩
      rw [← hk] at hr5 hL256 ⊢
      cases hp : risesP p
      · have HS := Lib.hid (HSB.out A5 c5 L k w2 ((hr.below hb02).more hb02.size) hr5 ((hr3.below hb02).more hb02.size) hk (by omega) hL hp)
        have HN := Lib.hid (HNo2.out hp)
        clear hp hown5 hL hr5 hk
        go_wp2_with fail
        refine HS.out.mono ?_
        rintro e w3 ⟨rfl, hb3⟩
        go_wp2
        go_ret3
        exact ⟨below_step hb02 hb3, .inr ⟨HN.out, 3, by decide, rfl⟩⟩
      · have HS := Lib.hid (HSO.out A5 c5 L k w2 ((hr.below hb02).more hb02.size) hr5 ((hr3.below hb02).more hb02.size) hk (by omega) hL hp)
        have HI := HIs.out L hL hp
        have HP := HPl.out L hL hp
        have HY := Lib.hid (HYes.out L hL hp)
        have hLf : ∀ x ∈ f, x ∈ L := fun x hx => hL.roots x (List.mem_append_left _ hx)
        have hYl := HP.len
        have hnd := HP.nodup
        rw [← hk] at hYl
        generalize slidGo p 0 L (longsV a L p) = Y at *
        generalize slidW a L p = b at *
        obtain ⟨φ, hφ⟩ : ∃ φ, φ = posL L Y := ⟨_, rfl⟩
        rw [← hφ] at HI
        have hix : ∀ x ∈ L, ∃ (q : Nat) (y : Int), q < k ∧ ixOf (fun z => x == z) L = q ∧ Y[q]? = some y ∧ φ x = y := fun x hx => by
          obtain ⟨q, y, h1, h2, h3⟩ := posL_ex (keep := L) (Y := Y) hnd (by rw [hYl, hk]) hx
          exact ⟨q, y, by rw [hk]; exact (List.getElem?_eq_some_iff.1 h1).1, idxL_at hnd h1, h2, by rw [hφ]; exact h3⟩
        have HIX := Lib.hid hix
        have HI := Lib.hid HI
        have HLf := Lib.hid hLf
        clear hp hL hk HP hLf hYl hnd hφ hix hown5
        go_wp2_with fail
        refine HS.out.mono ?_
        rintro e w3 ⟨hb3, A1, AY, cY, rfl, hown1, hownY⟩
        have hb03 := below_step hb02 hb3
        have HO1 := Lib.hid (own_mono hown1 hb02.size)
        have hrY := Reads.of_own hownY
        have hr53 := (hr5.below hb3).more hb3.size
        clear hown1 hownY hb02 hb2 hb01 hb3 hr5
        go_wp2
        go_loopw [13, 41] (fun v i wr => ∃ (j : Nat) (A6 : Option Addr) (c6 : Nat), j ≤ n2 ∧ v = .slice A6 j c6 ∧ i = .int .i64 j ∧ OwnT wr w3.heap.size 3 1 isN (.slice A6 j c6) j (((f.take j).map φ).map (.int .i64)) ∧ Below w3.heap.size w3 wr) (fun _ i _ => n2 - (intOf i).toNat)
        case atStart => exact ⟨0, none, 0, Nat.zero_le _, rfl, rfl, OwnT.nil _ _ _ _ _, Below.refl _ _⟩
        case round =>
          obtain ⟨j, A6, c6, hj, rfl, rfl, hown, hb⟩ := hrel
          have hbw := below_step hb03 hb
          by_cases hlt : j < n2
          · obtain ⟨ad, x, rfl, had, hx, cx⟩ := (hr2.below hbw).num hlt
            obtain ⟨q, y, q1, q2, q3, q4⟩ := HIX.out x (HLf.out x (List.mem_of_getElem? hx))
            obtain ⟨adY, y', rfl, hadY, hy', cy⟩ := (hrY.below hb).num q1
            obtain rfl : y = y' := Option.some.inj (q3.symm.trans hy')
            have HX := index_int A5 k c5 w3.heap.size L x wr (hr53.below hb) (by omega)
            rw [q2] at HX
            have HX := Lib.hid HX
            have hown2 := hown.alloc (.cells #[.int .i64 y] 3)
            have hb2 := hb.alloc hb.size (.cells #[.int .i64 y] 3)
            have hnew := reads_new wr [.int .i64 y] 3 1 1 rfl
            have HT : Hid ((f.take (j + 1)).map φ = (f.take j).map φ ++ [y]) := by
              show _ = _
              obtain ⟨z1, z2⟩ := List.getElem?_eq_some_iff.1 hx
              rw [List.take_succ_eq_append_getElem z1, z2, List.map_append, ← q4]
              rfl
            have hj1 : j + 1 ≤ n2 := hlt
            have hsz := hb.size
            clear q2 q3 q4 hx hy' hown hb
            go_wp2_with fail
            refine HX.out.mono ?_
            rintro e w5 ⟨rfl, rfl⟩
            go_wp2_with (at_builtin; refine wpList_append_T _ rfl (.tmp 45) (.tmp 52) 24 rfl w3.heap.size 3 i0 (.int .i64 0) 1 8 Try.underlying24 hi hz0 hz1 hz2 rfl (by decide) isN_zero (.slice A6 j c6) j _ rfl hown2 (wr.heap.size + 1) (some ⟨wr.heap.size, 0, none⟩) 1 1 [.int .i64 y] rfl hnew (by simp [Value.oneCell']) (isN_one _) (by unfold maxLen; omega) (by omega) (by simp; omega) ?_; rintro v' w5 hown5 hgr - -; obtain ⟨A7, c7, rfl⟩ := own_sliceT hown5)
            have hb5 := hb2.grown hgr hb2.size (fun g hg => (hown2.lt g hg).1)
            go_roundw
            case rel => exact ⟨j + 1, A7, c7, hj1, rfl, by go_num, by rw [HT.out, List.map_append]; exact hown5, hb5⟩
            case measure => simp [intOf]; omega
          · obtain rfl : n2 = j := by omega
            rw [List.take_of_length_le (by rw [HFL.out]; exact Nat.le_refl _)] at hown
            have HO1' := own_below HO1.out hb
            go_wp2
            go_ret3
            exact ⟨hbw, .inl ⟨HY.out, L, Y, b, f.map φ, A1, A6, c6, HI.out, rfl, HO1', own_monoT hown (by have := hb03.size; omega)⟩⟩
    · have HN := Lib.hid (HNo.out z hz hz2)
      have hb02 := below_step hb01 hb2
      clear hz hz2
      go_wp2
      go_ret3
      exact ⟨hb02, .inr ⟨HN.out, 5, by decide, rfl⟩⟩
  · have HR := Lib.hid (fun A4 c4 w hr => reach_bad A n c a A4 (n2 + m) c4 w hr hnc ha hE)
    have HN : Hid (¬ CleanOk a f p) := fun h => hE h.1
    have hE1 : (checkE a != 0) = true := by simpa using hE
    generalize checkE a = E at *
    clear hE hfl hpl hv hxx
    go_enter Try.func29, Try.ntmps29
    go_wp2_with fail
    refine HCo.out.mono ?_
    rintro e w1 ⟨A4, c4, rfl, hown4, hb1⟩
    have hb01 := below_step hbn hb1
    clear hown4
    go_wp2_with fail
    refine (HR.out _ _ _ ((hr.below hb01).more hb01.size)).mono ?_
    rintro e w2 ⟨rfl, hb2⟩
    go_wp2
    go_ret3
    exact ⟨below_step hb01 hb2, .inr ⟨HN.out, E, hE1, rfl⟩⟩
end Go.Proofs.Ytbmkbnalembbjaa

namespace Go.Proofs.Ytbmkbnalembbjaa
open Go.RowKit
set_option maxHeartbeats 400000 in
theorem equal_u64 (A A2 : Option Addr) (n c m c2 B B2 : Nat) (xs ys : List Int) (w : World) (hr : Reads w B 1 A n (xs.map (.int .u64))) (hr2 : Reads w B2 1 A2 m (ys.map (.int .u64))) (hn : n ≤ 1000000000000000000) (hm : m ≤ 1000000000000000000) :
    Calls Try.prog 27 #[.slice A n c, .slice A2 m c2] w fun e w' => e = .returned (.bool (decide (xs = ys))) ∧ ∃ q, w' = w.drewN q := by
  have hxl : xs.length = n := by have := hr.1; simpa using this
  have hyl : ys.length = m := by have := hr2.1; simpa using this
  have HX := Lib.hid hxl
  have HY := Lib.hid hyl
  clear hxl hyl
  by_cases hnm : n = m
  · subst hnm
    go_enter Try.func27, Try.ntmps27
    go_wp2
    go_loopw [13] (fun i wr => ∃ j : Nat, j ≤ n ∧ i = .int .i64 j ∧ xs.take j = ys.take j ∧ ∃ q, wr = w.drewN q) (fun i _ => n - (intOf i).toNat)
    case atStart => exact ⟨0, Nat.zero_le _, rfl, by simp, 0, rfl⟩
    case round =>
      obtain ⟨j, hj, rfl, ht, q, rfl⟩ := hrel
      have HT := Lib.hid ht
      clear ht
      by_cases hlt : j < n
      · obtain ⟨ad, u, rfl, _, hx, hc⟩ := hr.at_ hlt
        obtain ⟨ad2, u2, rfl, _, hx2, hc2⟩ := hr2.at_ hlt
        have hl : j < xs.length := by rw [HX.out]; exact hlt
        have hl2 : j < ys.length := by rw [HY.out]; exact hlt
        rw [List.getElem?_map, List.getElem?_eq_getElem hl] at hx
        rw [List.getElem?_map, List.getElem?_eq_getElem hl2] at hx2
        obtain rfl : u = .int .u64 xs[j] := by simpa using hx.symm
        obtain rfl : u2 = .int .u64 ys[j] := by simpa using hx2.symm
        clear hx hx2
        have T : Hid (xs.take (j + 1) = ys.take (j + 1) ↔ xs[j] = ys[j]) := by
          show _ ↔ _
          rw [List.take_succ_eq_append_getElem hl, List.take_succ_eq_append_getElem hl2, HT.out]
          constructor
          · intro h
            have := List.append_cancel_left h
            simpa using this
          · intro h; rw [h]
        have hlt' : (j : Int) < n := by omega
        generalize hgx : xs[j] = x at *
        generalize hgy : ys[j] = y at *
        have HGX := Lib.hid hgx
        have HGY := Lib.hid hgy
        clear hgx hgy
        by_cases he : x = y
        · subst he
          go_wp2
          go_quiet (fail)
          go_wp2
          go_roundw
          case rel => exact ⟨j + 1, by omega, by go_num, T.out.2 (by simp), _, rfl⟩
          case measure => simp [intOf]; omega
        · have he2 : (x == y) = false := by simpa using he
          have he3 : (x != y) = true := by simpa using he
          go_wp2
          go_quiet (fail)
          go_wp2
          go_ret
          refine ⟨?_, _, drewN_add _ _ _⟩
          have : ¬ xs = ys := by
            intro h
            apply he
            rw [← HGX.out, ← HGY.out]
            subst h
            rfl
          rw [decide_eq_false this]
          rfl
      · go_wp2
        go_ret
        have hjn : j = n := by omega
        subst hjn
        exact ⟨by rw [decide_eq_true (eq_of_takes _ _ _ HX.out HY.out HT.out)]; rfl, _, rfl⟩
  · have hne : ¬ xs = ys := by
      intro h
      subst h
      exact hnm (HX.out.symm.trans HY.out)
    have e1 : ((n : Int) == (m : Int)) = false := by simp; omega
    have e2 : ((n : Int) != (m : Int)) = true := by simp; omega
    have e3 : (n == m) = false := by simpa using hnm
    have e4 : (n != m) = true := by simpa using hnm
    go_enter Try.func27, Try.ntmps27
    go_wp2
    go_ret
    exact ⟨by rw [decide_eq_false hne]; rfl, 0, rfl⟩
end Go.Proofs.Ytbmkbnalembbjaa

namespace Go.Proofs.Ytbmkbnalembbjaa
open Go.RowKit
set_option maxHeartbeats 400000 in
theorem equal_int (A A2 : Option Addr) (n c m c2 B B2 : Nat) (xs ys : List Int) (w : World) (hr : Reads w B 1 A n (xs.map (.int .i64))) (hr2 : Reads w B2 1 A2 m (ys.map (.int .i64))) (hn : n ≤ 1000000000000000000) (hm : m ≤ 1000000000000000000) :
    Calls Try.prog 28 #[.slice A n c, .slice A2 m c2] w fun e w' => e = .returned (.bool (decide (xs = ys))) ∧ ∃ q, w' = w.drewN q := by
  have hxl : xs.length = n := by have := hr.1; simpa using this
  have hyl : ys.length = m := by have := hr2.1; simpa using this
  have HX := Lib.hid hxl
  have HY := Lib.hid hyl
  clear hxl hyl
  by_cases hnm : n = m
  · subst hnm
    go_enter Try.func28, Try.ntmps28
    go_wp2
    go_loopw [13] (fun i wr => ∃ j : Nat, j ≤ n ∧ i = .int .i64 j ∧ xs.take j = ys.take j ∧ ∃ q, wr = w.drewN q) (fun i _ => n - (intOf i).toNat)
    case atStart => exact ⟨0, Nat.zero_le _, rfl, by simp, 0, rfl⟩
    case round =>
      obtain ⟨j, hj, rfl, ht, q, rfl⟩ := hrel
      have HT := Lib.hid ht
      clear ht
      by_cases hlt : j < n
      · obtain ⟨ad, u, rfl, _, hx, hc⟩ := hr.at_ hlt
        obtain ⟨ad2, u2, rfl, _, hx2, hc2⟩ := hr2.at_ hlt
        have hl : j < xs.length := by rw [HX.out]; exact hlt
        have hl2 : j < ys.length := by rw [HY.out]; exact hlt
        rw [List.getElem?_map, List.getElem?_eq_getElem hl] at hx
        rw [List.getElem?_map, List.getElem?_eq_getElem hl2] at hx2
        obtain rfl : u = .int .i64 xs[j] := by simpa using hx.symm
        obtain rfl : u2 = .int .i64 ys[j] := by simpa using hx2.symm
        clear hx hx2
        have T : Hid (xs.take (j + 1) = ys.take (j + 1) ↔ xs[j] = ys[j]) := by
          show _ ↔ _
          rw [List.take_succ_eq_append_getElem hl, List.take_succ_eq_append_getElem hl2, HT.out]
          constructor
          · intro h
            have := List.append_cancel_left h
            simpa using this
          · intro h; rw [h]
        have hlt' : (j : Int) < n := by omega
        generalize hgx : xs[j] = x at *
        generalize hgy : ys[j] = y at *
        have HGX := Lib.hid hgx
        have HGY := Lib.hid hgy
        clear hgx hgy
        by_cases he : x = y
        · subst he
          go_wp2
          go_quiet (fail)
          go_wp2
          go_roundw
          case rel => exact ⟨j + 1, by omega, by go_num, T.out.2 (by simp), _, rfl⟩
          case measure => simp [intOf]; omega
        · have he2 : (x == y) = false := by simpa using he
          have he3 : (x != y) = true := by simpa using he
          go_wp2
          go_quiet (fail)
          go_wp2
          go_ret
          refine ⟨?_, _, drewN_add _ _ _⟩
          have : ¬ xs = ys := by
            intro h
            apply he
            rw [← HGX.out, ← HGY.out]
            subst h
            rfl
          rw [decide_eq_false this]
          rfl
      · go_wp2
        go_ret
        have hjn : j = n := by omega
        subst hjn
        exact ⟨by rw [decide_eq_true (eq_of_takes _ _ _ HX.out HY.out HT.out)]; rfl, _, rfl⟩
  · have hne : ¬ xs = ys := by
      intro h
      subst h
      exact hnm (HX.out.symm.trans HY.out)
    have e1 : ((n : Int) == (m : Int)) = false := by simp; omega
    have e2 : ((n : Int) != (m : Int)) = true := by simp; omega
    have e3 : (n == m) = false := by simpa using hnm
    have e4 : (n != m) = true := by simpa using hnm
    go_enter Try.func28, Try.ntmps28
    go_wp2
    go_ret
    exact ⟨by rw [decide_eq_false hne]; rfl, 0, rfl⟩
end Go.Proofs.Ytbmkbnalembbjaa

namespace Go.Proofs.Ytbmkbnalembbjaa
open Go.RowKit
end Go.Proofs.Ytbmkbnalembbjaa

namespace Go.Proofs.Ytbmkbnalembbjaa
open Go.RowKit
end Go.Proofs.Ytbmkbnalembbjaa

namespace Go.Proofs.Ytbmkbnalembbjaa
open Go.RowKit
def AliveF (a f : List Int) : Prop := checkE a = 0 ∧ ∀ x ∈ f, x ∈ begsL (spotsL a)
def FormPost (a f : List Int) (n2 : Nat) (w : World) (e : Ending) (w' : World) : Prop := Below w.heap.size w w' ∧
  ((AliveF a f ∧ ∃ (os : List Ob) (fr : List Int) (vs : List ObV) (Ao : Option Addr) (co : Nat) (Af : Option Addr) (cf : Nat), FormIs a f os fr ∧ os.length ≤ 256 ∧ fr.length = n2 ∧ e = .returned (.tuple #[.agg #[.slice Ao os.length co, .slice Af n2 cf], .int .i64 0]) ∧
      w'.ownsRow w.heap.size 104 4 (.slice Ao os.length co) os.length (vs.flatMap obvC) ∧ ObsO w' w.heap.size os vs ∧ w'.ownsRow w.heap.size 3 1 (.slice Af n2 cf) n2 (fr.map (.int .i64))) ∨
   (¬ AliveF a f ∧ ∃ er : Int, (er != 0) = true ∧ e = .returned (.tuple #[.agg #[.slice none 0 0, .slice none 0 0], .int .i64 er])))
end Go.Proofs.Ytbmkbnalembbjaa

namespace Go.Proofs.Ytbmkbnalembbjaa
open Go.RowKit
def NoCopy (a f : List Int) (N : Int) : Prop := ¬ AliveF a f ∨ N < 0 ∨ 256 < N ∨ ∃ O, Ordered a (spotsL a) f O ∧ ¬ longsL (spotsL a) O ≤ N
def CopyGives (a f : List Int) (N : Int) (base : Nat) (e : Ending) (w' : World) : Prop :=
  (∃ (M : Nat) (O : List Int), N = M ∧ AliveF a f ∧ CopyRet a f M O base e w') ∨ (NoCopy a f N ∧ ∃ er : Int, (er != 0) = true ∧ e = .returned (.tuple #[.slice none 0 0, .slice none 0 0, .slice none 0 0, .int .i64 er]))
set_option maxRecDepth 100000 in
set_option maxHeartbeats 1000000 in
theorem copy_any (A : Option Addr) (n c : Nat) (a : List Int) (A2 : Option Addr) (n2 c2 : Nat) (f : List Int) (N : Int) (w : World) (hr : Reads w w.heap.size 1 A n (a.map (.int .u64))) (hnc : n ≤ c) (hc : c ≤ maxLen) (ha : ∀ x ∈ a, (Lit.int .u64 x).wf = true)
    (hr2 : Reads w w.heap.size 1 A2 n2 (f.map (.int .i64))) (hn2 : n2 ≤ 1000000000000000000) (hx2 : ∀ x ∈ f, (Lit.int .i64 x).wf = true) :
    Calls Try.prog 30 #[.slice A n c, .slice A2 n2 c2, .int .i64 N] w fun e w' => Below w.heap.size w w' ∧ CopyGives a f N w.heap.size e w' := by
  by_cases hE : checkE a = 0
  · by_cases hF : ∀ x ∈ f, x ∈ begsL (spotsL a)
    · by_cases hN : 0 ≤ N ∧ N ≤ 256
      · obtain ⟨M, rfl⟩ := Int.eq_ofNat_of_zero_le hN.1
        refine (copy_good A n c a A2 n2 c2 M f w hr hnc hc ha hr2 hn2 hx2 hE hF (by omega)).mono ?_
        rintro e w' ⟨hb, O, hO, h | ⟨h1, rfl⟩⟩
        · exact ⟨hb, .inl ⟨M, O, rfl, ⟨hE, hF⟩, h⟩⟩
        · exact ⟨hb, .inr ⟨.inr (.inr (.inr ⟨O, hO, h1⟩)), 7, by decide, rfl⟩⟩
      · have hN2 : N < 0 ∨ 256 < N := by omega
        have HNo : Hid (NoCopy a f N) := by
          rcases hN2 with h | h
          · exact .inr (.inl h)
          · exact .inr (.inr (.inl h))
        have HO := Lib.hid (fun w hr hr2 => order_ok A n c a A2 n2 c2 f w hr hnc ha hr2 hn2 hx2 hE)
        have HNw := Lib.hid (fun w => wnew_bad N w hN2)
        have HFF := Lib.hid hF
        clear hN hN2 hF hE hx2
        go_enter Try.func30, Try.ntmps30
        go_wp2_with fail
        refine (HO.out _ hr hr2).mono ?_
        rintro e w1 ⟨hb1, ⟨O, AO, cO, hO, rfl, hownO⟩ | ⟨⟨z, hz, hz2⟩, -⟩⟩
        · clear hO hownO
          go_wp2_with fail
          refine (HNw.out _).mono ?_
          rintro e w2 ⟨rfl, rfl⟩
          go_wp2
          exact bodyPost_ret (results_tmp4c rfl _ _ _) rfl ⟨hb1, .inr ⟨HNo.out, 4, by decide, rfl⟩⟩
        · exact absurd (HFF.out z hz) hz2
    · have HNo : Hid (NoCopy a f N) := .inl (fun h => hF h.2)
      have HFF := Lib.hid hF
      have HO := Lib.hid (fun w hr hr2 => order_ok A n c a A2 n2 c2 f w hr hnc ha hr2 hn2 hx2 hE)
      clear hF hE hx2
      go_enter Try.func30, Try.ntmps30
      go_wp2_with fail
      refine (HO.out _ hr hr2).mono ?_
      rintro e w1 ⟨hb1, ⟨O, AO, cO, hO, rfl, hownO⟩ | ⟨-, rfl⟩⟩
      · exact absurd (fun x hx => hO.search.begs x (hO.roots x hx)) HFF.out
      · go_wp2
        exact bodyPost_ret (results_tmp4c rfl _ _ _) rfl ⟨hb1, .inr ⟨HNo.out, 5, by decide, rfl⟩⟩
  · have HNo : Hid (NoCopy a f N) := .inl (fun h => hE h.1)
    have HO := Lib.hid (fun w hr => order_bad A n c a A2 n2 c2 w hr hnc ha hE)
    have hE1 : (checkE a != 0) = true := by simpa using hE
    generalize checkE a = E at *
    clear hE hx2
    go_enter Try.func30, Try.ntmps30
    go_wp2_with fail
    refine (HO.out _ hr).mono ?_
    rintro e w1 ⟨rfl, hb1⟩
    go_wp2
    exact bodyPost_ret (results_tmp4c rfl _ _ _) rfl ⟨hb1, .inr ⟨HNo.out, E, hE1, rfl⟩⟩
end Go.Proofs.Ytbmkbnalembbjaa

namespace Go.Proofs.Ytbmkbnalembbjaa
open Go.RowKit
def FullG (ok : Nat → Value → Prop) (k : Nat) (t : TypeId) (W : World) (base : Nat) (A : Option Addr) (c : Nat) : Prop := ∃ ys, OwnT W base t k ok (.slice A c c) c ys
section
variable {ok ok' : Nat → Value → Prop} {k k' : Nat} {t t' : TypeId} {W W' : World} {base base' c c' : Nat} {A : Option Addr}
theorem FullG.below (h : FullG ok k t W base A c) (hb : Below W.heap.size W W') : FullG ok k t W' base A c := by
  obtain ⟨ys, h⟩ := h
  exact ⟨ys, h.below hb⟩
theorem FullG.of {n : Nat} {xs : List Value} (h : OwnT W base' t k ok (.slice A n c) n xs) (hb : base ≤ base') : FullG ok k t W base A c := by
  rcases h.1.2 with ⟨h1, h2⟩ | ⟨g, cap, cur, h1, -⟩
  · injection h1 with a1 a2 a3
    subst a1 a2 a3
    exact ⟨xs, h.mono hb⟩
  · injection h1 with a1 a2 a3
    subst a1 a3
    obtain ⟨cur, h1, h2, h3, h4, h5, -, h7⟩ := h.open
    exact ⟨_, (OwnT.close cur h1 h2 (Nat.le_refl _) h4 h5 h7).mono hb⟩
theorem FullG.mono (h : FullG ok k t W base' A c) (hb : base ≤ base') : FullG ok k t W base A c := by
  obtain ⟨ys, h⟩ := h
  exact ⟨ys, h.mono hb⟩
theorem FullG.cap (h : FullG ok k t W base A c) : c ≤ 9223372036854775807 := by
  obtain ⟨ys, h⟩ := h
  rcases h.1.2 with ⟨h1, h2⟩ | ⟨g, cap, cur, h1, -, -, -, h3, -⟩
  · omega
  · injection h1 with a1 a2 a3
    unfold maxLen at h3
    omega
theorem FullG.cell {j : Nat} (h : FullG ok k t W base A c) (hj : j < c * k) : ∃ (g : Nat) (v : Value), A = some ⟨g, 0, none⟩ ∧ base ≤ g ∧ W.cell? ⟨g, j, none⟩ = some v ∧ ok (j % k) v ∧ W.frozen? ⟨g, j, none⟩ = false := by
  obtain ⟨ys, h⟩ := h
  have hc : 0 < c := Nat.pos_of_ne_zero (fun h0 => by rw [h0, Nat.zero_mul] at hj; omega)
  obtain ⟨g, rfl, hg⟩ := own_ptr h.1 hc
  obtain ⟨cur, b1, b2, b3, b4, b5, -, b7⟩ := h.open
  have hB : Blk W g t cur.toArray := b2
  have hl : j < cur.length := by rw [b5]; exact hj
  refine ⟨g, cur[j], rfl, hg, ?_, b7 j _ (List.getElem?_eq_getElem hl), hB.frozen j⟩
  rw [hB.cell, List.getElem?_toArray, List.getElem?_eq_getElem hl]
theorem ownT_put {w : World} {base g n c k : Nat} {e : TypeId} {ok : Nat → Value → Prop} {xs : List Value} (h : OwnT w base e k ok (.slice (some ⟨g, 0, none⟩) n c) n xs) (j : Nat) (u : Value) (hu : ok (j % k) u) :
    OwnT (w.setCell ⟨g, j, none⟩ u) base e k ok (.slice (some ⟨g, 0, none⟩) n c) n (xs.set j u) := by
  obtain ⟨cur, hb, hg, hc, hm, hl, ht, hty⟩ := h.open
  have hB : Blk w g e cur.toArray := hg
  have hB2 := hB.set_ j u
  simp only [List.setIfInBounds_toArray] at hB2
  have := OwnT.close (size := k) (n := n) (c := c) (ok := ok) (cur.set j u) hb hB2 hc hm (by rw [List.length_set]; exact hl) (fun i v hv => by
    by_cases hij : j = i
    · subst hij
      by_cases hlt : j < cur.length
      · rw [List.getElem?_set_self hlt] at hv
        injection hv with hv
        rw [← hv]; exact hu
      · rw [List.set_eq_of_length_le (by omega)] at hv
        exact hty j v hv
    · rw [List.getElem?_set_ne hij] at hv
      exact hty i v hv)
  rw [List.take_set, ht] at this
  exact this
theorem FullG.put {g j : Nat} {u : Value} (h : FullG ok k t W base A c) (hu : ok (j % k) u) : FullG ok k t (W.setCell ⟨g, j, none⟩ u) base A c := by
  obtain ⟨ys, h⟩ := h
  by_cases hb : (Value.slice A c c).ownBlock = some g
  · rcases h.1.2 with ⟨h1, h2⟩ | ⟨g2, cap, cur0, h1, -⟩
    · rw [h1] at hb
      simp [Value.ownBlock] at hb
    · injection h1 with a1 a2 a3
      subst a1
      simp only [Value.ownBlock, Option.some.injEq] at hb
      subst hb
      exact ⟨_, ownT_put h j u hu⟩
  · exact ⟨ys, h.apart (p := ⟨g, j, none⟩) hb u⟩
theorem FullG.far {g j : Nat} {u : Value} (h : FullG ok k t W base A c) (h' : FullG ok' k' t' W base' (some ⟨g, 0, none⟩) c') (ht : t' ≠ t) : FullG ok k t (W.setCell ⟨g, j, none⟩ u) base A c := by
  obtain ⟨ys, h⟩ := h
  obtain ⟨zs, h'⟩ := h'
  exact ⟨ys, h.apart (p := ⟨g, j, none⟩) (own_kinds (g := g) h'.1 h.1 ht rfl) u⟩
end
theorem size_ofG {t : TypeId} (h : (Try.prog.info? t).map (·.size) = some 1) (w : World) : (sizeOf t).run Try.prog w = .ok 1 w := by
  obtain ⟨i, hi, h1⟩ := Option.map_eq_some_iff.1 h
  simp [sizeOf, run_typeInfo w hi, h1]
theorem idxG (m : Nat) (t el e : TypeId) (h : Try.prog.underlying t = some (.array m el)) (he : Try.prog.underlying el = some (.slice e)) (hs : ∀ w, (sizeOf el).run Try.prog w = .ok 1 w) (vs : Array Value) (k : Nat) (hk : k < m) (hv : vs.size = m) (w : World) : (Instr.index t (.agg vs) (.int .i64 k)).run Try.prog w = .ok (vs[k]!) w := by
  have h1 : (0 : Int) ≤ k ∧ (k : Int) < m := by omega
  have h2 : k < vs.size := by omega
  simp [Instr.index, asIntOf, run_underlying h, run_underlying he, isAgg, hs, hk, h1, h2, go_sem]
end Go.Proofs.Ytbmkbnalembbjaa

namespace Go.Proofs.Ytbmkbnalembbjaa
open Go.RowKit
def isU (_ : Nat) (u : Value) : Prop := ∃ x, u = .int .u64 x
theorem full_words {w : World} {base base' n : Nat} {A : Option Addr} {b : List Int} (h : w.ownsRow base' 37 1 (.slice A n n) n (b.map (.int .u64))) (hb : base ≤ base') : FullG isU 1 37 w base A n := by
  refine ⟨_, own_mono h hb, fun g cur hg hc i u hu => ?_⟩
  rcases h.2 with ⟨h1, -⟩ | ⟨g2, cap, cur2, h1, -, h3, -, -, h5, h6⟩
  · rw [h1] at hg
    simp [Value.ownBlock] at hg
  · injection h1 with a1 a2 a3
    subst a1 a3
    simp only [Value.ownBlock, Option.some.injEq] at hg
    subst hg
    rw [h3] at hc
    simp only [Option.some.injEq, Obj.cells.injEq, and_true] at hc
    subst hc
    rw [List.take_of_length_le (by simp [h5])] at h6
    have h7 : cur2.toList[i]? = some u := by simpa using hu
    rw [h6, List.getElem?_map] at h7
    obtain ⟨x, -, hx⟩ := Option.map_eq_some_iff.1 h7
    exact ⟨x, hx.symm⟩
theorem full_nilN (w : World) (base : Nat) : FullG isN 1 3 w base none 0 := FullG.of (OwnT.nil w base _ _ _) (Nat.le_refl _)
theorem reach_full (A : Option Addr) (n c : Nat) (a : List Int) (A2 : Option Addr) (n2 c2 : Nat) (f : List Int) (w : World) (hr : Reads w w.heap.size 1 A n (a.map (.int .u64))) (hnc : n ≤ c) (ha : ∀ x ∈ a, (Lit.int .u64 x).wf = true)
    (hr2 : Reads w w.heap.size 1 A2 n2 (f.map (.int .i64))) (hn2 : n2 ≤ 1000000000000000000) (hx2 : ∀ x ∈ f, (Lit.int .i64 x).wf = true) :
    Calls Try.prog 31 #[.slice A n c, .slice A2 n2 c2] w fun e w' => Below w.heap.size w w' ∧ ∃ (X : Option Addr) (m d : Nat) (er : Int), e = .returned (.tuple #[.slice X m d, .int .i64 er]) ∧ FullG isN 1 3 w' w.heap.size X d := by
  by_cases hE : checkE a = 0
  · refine (reachT_ok A n c a A2 n2 c2 f w hr hnc ha hr2 hn2 hx2 hE).mono ?_
    rintro e w' ⟨hb, ⟨L, A', c', -, rfl, ho⟩ | ⟨-, rfl⟩⟩
    · exact ⟨hb, A', _, c', _, rfl, FullG.of ho (Nat.le_refl _)⟩
    · exact ⟨hb, none, 0, 0, _, rfl, full_nilN _ _⟩
  · refine (reach_bad A n c a A2 n2 c2 w hr hnc ha hE).mono ?_
    rintro e w' ⟨rfl, hb⟩
    exact ⟨hb, none, 0, 0, _, rfl, full_nilN _ _⟩
theorem clean_full (A : Option Addr) (n c : Nat) (a : List Int) (A2 : Option Addr) (n2 c2 : Nat) (f : List Int) (A3 : Option Addr) (m c3 : Nat) (p : List Int) (w : World) (hr : Reads w w.heap.size 1 A n (a.map (.int .u64))) (hnc : n ≤ c) (hc : c ≤ maxLen) (ha : ∀ x ∈ a, (Lit.int .u64 x).wf = true)
    (hr2 : Reads w w.heap.size 1 A2 n2 (f.map (.int .i64))) (hn2 : n2 * 8 ≤ 140737488351232) (hx2 : ∀ x ∈ f, (Lit.int .i64 x).wf = true) (hr3 : Reads w w.heap.size 1 A3 m (p.map (.int .i64))) (hm : m * 8 ≤ 140737488351232) (hx3 : ∀ x ∈ p, (Lit.int .i64 x).wf = true) :
    Calls Try.prog 29 #[.slice A n c, .slice A2 n2 c2, .slice A3 m c3] w fun e w' => Below w.heap.size w w' ∧ ∃ (X : Option Addr) (k d : Nat) (Y : Option Addr) (k2 d2 : Nat) (er : Int), e = .returned (.tuple #[.slice X k d, .slice Y k2 d2, .int .i64 er]) ∧ FullG isU 1 37 w' w.heap.size X d ∧ FullG isN 1 3 w' w.heap.size Y d2 := by
  refine (cleanT_any A n c a A2 n2 c2 f A3 m c3 p w hr hnc hc ha hr2 hn2 hx2 hr3 hm hx3).mono ?_
  rintro e w' ⟨hb, ⟨-, L, Y, b, now, A1, A4, c4, -, rfl, h1, h2⟩ | ⟨-, er, -, rfl⟩⟩
  · exact ⟨hb, A1, n, n, A4, n2, c4, _, rfl, full_words h1 (Nat.le_refl _), FullG.of h2 (Nat.le_refl _)⟩
  · exact ⟨hb, none, 0, 0, none, 0, 0, _, rfl, FullG.of (OwnT.nil w' w.heap.size _ _ _) (Nat.le_refl _), full_nilN _ _⟩
theorem copy_full (A : Option Addr) (n c : Nat) (a : List Int) (A2 : Option Addr) (n2 c2 : Nat) (f : List Int) (w : World) (hr : Reads w w.heap.size 1 A n (a.map (.int .u64))) (hnc : n ≤ c) (hc : c ≤ maxLen) (ha : ∀ x ∈ a, (Lit.int .u64 x).wf = true)
    (hr2 : Reads w w.heap.size 1 A2 n2 (f.map (.int .i64))) (hn2 : n2 ≤ 1000000000000000000) (hx2 : ∀ x ∈ f, (Lit.int .i64 x).wf = true) :
    Calls Try.prog 30 #[.slice A n c, .slice A2 n2 c2, .int .i64 n] w fun e w' => Below w.heap.size w w' ∧ ∃ (X : Option Addr) (k d : Nat) (Y : Option Addr) (k2 d2 : Nat) (Z : Option Addr) (k3 d3 : Nat) (er : Int), e = .returned (.tuple #[.slice X k d, .slice Y k2 d2, .slice Z k3 d3, .int .i64 er]) ∧
      FullG isU 1 37 w' w.heap.size X d ∧ FullG isN 1 3 w' w.heap.size Y d2 ∧ FullG isN 1 3 w' w.heap.size Z d3 := by
  by_cases hA : AliveF a f
  · have hal : a.length = n := by have := hr.1; simpa using this
    have hn : n ≤ 256 := by have := (parse_ok (checkE_ok.1 hA.1).1).1; omega
    refine (copy_goodT A n c a A2 n2 c2 n f w hr hnc hc ha hr2 hn2 hx2 hA.1 hA.2 hn).mono ?_
    rintro e w' ⟨hb, O, -, ⟨Y, b, k, A1, AO, cO, AY, cY, -, -, rfl, h1, h2, h3⟩ | ⟨-, rfl⟩⟩
    · exact ⟨hb, A1, n, n, AO, k, cO, AY, k, cY, _, rfl, full_words h1 (Nat.le_refl _), FullG.of h2 (Nat.le_refl _), FullG.of h3 (Nat.le_refl _)⟩
    · exact ⟨hb, none, 0, 0, none, 0, 0, none, 0, 0, _, rfl, FullG.of (OwnT.nil w' w.heap.size _ _ _) (Nat.le_refl _), full_nilN _ _, full_nilN _ _⟩
  · refine (copy_any A n c a A2 n2 c2 f n w hr hnc hc ha hr2 hn2 hx2).mono ?_
    rintro e w' ⟨hb, ⟨M, O, -, h, -⟩ | ⟨-, er, -, rfl⟩⟩
    · exact absurd h hA
    · exact ⟨hb, none, 0, 0, none, 0, 0, none, 0, 0, _, rfl, FullG.of (OwnT.nil w' w.heap.size _ _ _) (Nat.le_refl _), full_nilN _ _, full_nilN _ _⟩
end Go.Proofs.Ytbmkbnalembbjaa

namespace Go.Proofs.Ytbmkbnalembbjaa
open Go.RowKit
set_option maxRecDepth 100000 in
set_option maxHeartbeats 1000000 in
theorem slideOwnC_any (b1 q1 b2 q2 b3 q3 : Nat) (A : Option Addr) (n c : Nat) (a : List Int) (A1 : Option Addr) (d1 : Nat) (G : Option Addr) (gn gc : Nat) (g : List Int) (A2 : Option Addr) (d2 : Nat) (K : Option Addr) (kn kc : Nat) (b : List Int) (A3 : Option Addr) (d3 : Nat) (W : World)
    (B1 : Blk W b1 23 #[.slice A n c]) (C1 : Blk W q1 23 #[.slice A1 n d1]) (B2 : Blk W b2 24 #[.slice G gn gc]) (C2 : Blk W q2 24 #[.slice A2 gn d2]) (B3 : Blk W b3 24 #[.slice K kn kc]) (C3 : Blk W q3 24 #[.slice A3 kn d3])
    (r1 : Reads W W.heap.size 1 A n (a.map (.int .u64))) (s1 : Reads W W.heap.size 1 A1 n (a.map (.int .u64))) (r2 : Reads W W.heap.size 1 G gn (g.map (.int .i64))) (s2 : Reads W W.heap.size 1 A2 gn (g.map (.int .i64))) (r3 : Reads W W.heap.size 1 K kn (b.map (.int .i64))) (s3 : Reads W W.heap.size 1 A3 kn (b.map (.int .i64)))
    (hn : n ≤ 1000000000000000000) (hg : gn ≤ 1000000000000000000) (hk : kn ≤ 1000000000000000000) :
    Calls Try.prog 26 #[.pointer (some ⟨b1, 0, none⟩), .pointer (some ⟨q1, 0, none⟩), .pointer (some ⟨b2, 0, none⟩), .pointer (some ⟨q2, 0, none⟩), .pointer (some ⟨b3, 0, none⟩), .pointer (some ⟨q3, 0, none⟩)] W fun e w' => e = .returned (.bool true) ∧ Below W.heap.size W w' := by
  have E1 := equal_u64 A A1 n c n d1 _ _ a a W r1 s1 hn hn
  have E2 := fun q => equal_int G A2 gn gc gn d2 _ _ g g (W.drewN q) (r2.drewN q) (s2.drewN q) hg hg
  have E3 := fun q => equal_int K A3 kn kc kn d3 _ _ b b (W.drewN q) (r3.drewN q) (s3.drewN q) hk hk
  rw [decide_eq_true rfl] at E1 E2 E3
  have F1 := Lib.hid E1
  have F2 := Lib.hid E2
  have F3 := Lib.hid E3
  have t1 := B1.cell 0
  have t2 := C1.cell 0
  have t3 := B2.cell 0
  have t4 := C2.cell 0
  have t5 := B3.cell 0
  have t6 := C3.cell 0
  simp only [List.getElem?_toArray, List.getElem?_cons_zero] at t1 t2 t3 t4 t5 t6
  clear E1 E2 E3 B1 C1 B2 C2 B3 C3 r1 r2 r3 s1 s2 s3
  go_enter Try.func26, Try.ntmps26
  go_wp2_with (first
    | (go_at_call 27; (with_reducible refine F1.out.mono ?_); rintro e w' ⟨rfl, q, rfl⟩)
    | (go_at_call 28; (first | (with_reducible refine (F2.out _).mono ?_) | (with_reducible refine (F3.out _).mono ?_)); rintro e w' ⟨rfl, q, rfl⟩))
  go_ret
  exact ⟨by first | rfl | simp, below_drewN (Below.refl _ _) _⟩
end Go.Proofs.Ytbmkbnalembbjaa
