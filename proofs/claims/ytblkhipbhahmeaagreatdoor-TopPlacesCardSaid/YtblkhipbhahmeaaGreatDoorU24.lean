/-
  Texts joined: LayFn.
-/
import Derived.Deep.RegionHeld3
import Derived.Test.YtblkhipbhahmeaaGreatDoorU0
import Derived.Test.YtblkhipbhahmeaaGreatDoorU7
import Derived.Test.YtblkhipbhahmeaaGreatDoorU17
import Derived.Test.YtblkhipbhahmeaaGreatDoorU18
import Derived.Test.YtblkhipbhahmeaaGreatDoorU23
namespace Go.Proofs.YtblkhipbhahmeaaGreatDoor
open Go.RowKit
set_option maxHeartbeats 400000 in
theorem headOf_any (v : ObV) (w : World) : Calls Tryz.prog 45 #[.agg #[.int .i64 v.t, .slice v.A1 v.n1 v.c1, .slice v.A2 v.n2 v.c2, .bool v.f]] w fun e w' => e = .returned (.agg #[.int .i64 v.n1, .int .i64 v.n2, .int .i64 v.t, .bool v.f]) ∧ Below w.heap.size w w' := by
 obtain ⟨t, A1, n1, c1, A2, n2, c2, f⟩ := v
 dsimp only
 go_enter Tryz.func45, Tryz.ntmps45
 go_wp2
 refine bodyPost_ret (v := .agg #[.int .i64 n1, .int .i64 n2, .int .i64 t, .bool f]) ?_ rfl ⟨rfl, ?_⟩
 ·simp only [results, Tryz.results45]
  go_simp
 ·exact (below_new w _).alloc (by simp) _
def LayGives (os : List Ob) (N : Int) (base : Nat) (e : Ending) (w' : World) : Prop :=
 (∃ (M : Nat) (A1 : Option Addr) (c1 : Nat), N = M ∧ LayOk os M ∧ e = .returned (.tuple #[.slice A1 M c1, .int .i64 0]) ∧ w'.ownsRow base 40 1 (.slice A1 M c1) M ((layW os M).map (.int .u64))) ∨
 (¬ LayOk os N ∧ ∃ er : Int, (er != 0) = true ∧ e = .returned (.tuple #[.slice none 0 0, .int .i64 er]))
theorem begO_bound {os : List Ob} : ∀ (j : Nat), (∀ o ∈ os.take j, obE o = 0) → begO os j ≤ 256 * j := by
 intro j
 induction j with
 | zero => intro _; simp [begO, totO]
 | succ j ih =>
   intro h
   by_cases hj : j < os.length
   ·have ho : os[j]? = some os[j] := List.getElem?_eq_getElem hj
    rw [begO_succ ho]
    have h1 := ih (fun o ho' => h o (List.mem_of_mem_take (i := j) (by rw [List.take_take, Nat.min_eq_left (by omega)]; exact ho')))
    have h2 := h os[j] (by rw [List.take_succ_eq_append_getElem hj]; exact List.mem_append_right _ (List.mem_singleton.2 rfl))
    have h3 := headE_ok.1 h2
    unfold obLen
    omega
   ·have e : os.take (j + 1) = os.take j := by rw [List.take_of_length_le (by omega), List.take_of_length_le (by omega)]
    have : begO os (j + 1) = begO os j := by unfold begO; rw [e]
    rw [e] at h
    have := ih h
    omega
def begsP (os : List Ob) (n j : Nat) : List Int := ((List.range j).map fun k => (begO os k : Int)) ++ List.replicate (n - j) 0
theorem begsP_set (os : List Ob) (n j : Nat) (h : j < n) : (begsP os n j).set j (begO os j) = begsP os n (j + 1) := by
 unfold begsP
 rw [List.set_append_right _ _ (by simp), List.length_map, List.length_range, Nat.sub_self, show n - j = (n - (j + 1)) + 1 by omega, List.replicate_succ, List.set_cons_zero, List.range_succ, List.map_append]
 simp
theorem begsP_get (os : List Ob) (n j k : Nat) (h : k < j) : (begsP os n j)[k]? = some (begO os k : Int) := by
 unfold begsP
 rw [List.getElem?_append_left (by simpa using h), List.getElem?_map, List.getElem?_range h]
 rfl
theorem begsP_length (os : List Ob) (n j : Nat) (h : j ≤ n) : (begsP os n j).length = n := by
 unfold begsP
 simp
 omega
def outP (os : List Ob) (M j : Nat) : List Int := chunksW ((os.take j).map (obChk os)) ++ List.replicate (M - begO os j) 0
theorem outP_length {os : List Ob} {M j : Nat} (h : begO os j ≤ M) : (outP os M j).length = M := by
 unfold outP
 rw [List.length_append, lay_tot, List.length_replicate]
 unfold begO at *
 omega
theorem outP_step {os : List Ob} {M j : Nat} {o : Ob} (h : os[j]? = some o) (hf : begO os (j + 1) ≤ M) : splice (outP os M j) (begO os j) (chkW (obChk os o)) = outP os M (j + 1) := by
 have hs := begO_succ h
 obtain ⟨z1, z2⟩ := List.getElem?_eq_some_iff.1 h
 have hl : (chunksW ((os.take j).map (obChk os))).length = begO os j := lay_tot os _
 have e : chunksW ((os.take (j + 1)).map (obChk os)) = chunksW ((os.take j).map (obChk os)) ++ chkW (obChk os o) := by
  rw [List.take_succ_eq_append_getElem z1, z2, List.map_append, chunksW_append]
  simp [chunksW]
 unfold outP splice
 rw [e, chkW_length, obChk_len, List.take_append, List.take_of_length_le (by omega), List.drop_append, List.drop_of_length_le (by omega), hl, Nat.sub_self, List.take_zero, List.append_nil, List.nil_append, List.drop_replicate, show M - begO os j - (begO os j + obLen o - begO os j) = M - begO os (j + 1) by omega]
 simp
theorem copy_splice {W : World} {ga e0 M LN base : Nat} {L row : List Int} {AX : Option Addr} {cX : Nat} (hB : Blk W ga 40 (L.map (Value.int .u64)).toArray) (hO : W.ownsRow base 40 1 (.slice AX LN cX) LN (row.map (.int .u64))) (hL : L.length = M) (hpos : 0 < LN) (hfit : e0 + LN ≤ M) :
  (Builtin.copy_ #[22, 22] 3 #[.slice (some ⟨ga, e0, none⟩) (M - e0) (M - e0), .slice AX LN cX]).run Tryz.prog W = .ok (goInt LN) (W.setRow ga ((splice L e0 row).map (Value.int .u64)).toArray) := by
 obtain ⟨ad, rfl, had, hcell⟩ := (Reads.of_own hO).2 hpos
 have hrl : row.length = LN := by have := hO.1; simpa using this
 have := run_copyK (P := Tryz.prog) W 22 22 3 40 1 ga e0 (M - e0) (M - e0) ad LN cX LN (L.map (Value.int .u64)) 40 (row.map (Value.int .u64)) Tryz.underlying22 size_u64 hB (Nat.min_eq_left (by omega)) (by rw [List.length_map, hrl, Nat.mul_one]) hcell (by rw [List.length_map, List.length_map, hrl, hL]; exact hfit) (u64s_one _)
 rw [this, splice_map]
set_option maxRecDepth 100000 in
set_option maxHeartbeats 4000000 in
theorem lay_any (A : Option Addr) (n c : Nat) (os : List Ob) (vs : List ObV) (N : Int) (w : World) (hr : Reads w w.heap.size 4 A n (vs.flatMap obvC)) (ho : ObsR w w.heap.size os vs) (hln : os.length = n) (hn : n ≤ 2199023255552)
  (hwr : ∀ o ∈ os, (∀ x ∈ o.refs, (Lit.int .i64 x).wf = true) ∧ ∀ x ∈ o.body, (Lit.int .u64 x).wf = true) :
  Calls Tryz.prog 22 #[.slice A n c, .int .i64 N] w fun e w' => Below w.heap.size w w' ∧ LayGives os N w.heap.size e w' := by
 by_cases hN : N < 0 ∨ 256 < N
 ·have HNo : Hid (¬ LayOk os N) := fun h => by have := h.lo; have := h.hi; omega
  have HNw := Lib.hid (fun w => wnew_bad N w hN)
  clear hN ho hwr
  go_enter Tryz.func22, Tryz.ntmps22
  go_wp2_with fail
  refine (HNw.out _).mono ?_
  rintro e w2 ⟨rfl, rfl⟩
  go_wp2
  go_ret2
  exact ⟨Below.refl _ _, .inr ⟨HNo.out, 4, by decide, rfl⟩⟩
 ·obtain ⟨M, rfl⟩ := Int.eq_ofNat_of_zero_le (show 0 ≤ N by omega)
  have hM : M ≤ 256 := by omega
  have HNw := Lib.hid (fun w => wnew_ok M w hM)
  obtain ⟨i0, hi, hz0, hz1, hz2⟩ := info_parts info_int
  obtain ⟨j0, hj0, hjz0, hjz1, hjz2⟩ := info_parts info_u64
  have hmk := fun W => run_make_rowN (P := Tryz.prog) 23 3 i0 (.int .i64 0) Tryz.underlying23 hi hz0 .i64 .i64 n n (Nat.le_refl _) (by rw [hz2]; omega) (by omega) W
  rw [hz1, Nat.mul_one] at hmk
  have HLn := Lib.hid hln
  have HOb := Lib.hid ho
  have HWr := Lib.hid hwr
  have hHd : ∀ o v, ObR w w.heap.size o v → obE o = 0 → ∀ w', Calls Tryz.prog 44 #[.agg #[.int .i64 v.n1, .int .i64 v.n2, .int .i64 v.t, .bool v.f]] w' fun e w'' => e = .returned (.tuple #[.int .i64 (obLen o), .int .i64 0]) ∧ Below w'.heap.size w' w'' := fun o v h h0 w' => by
   obtain ⟨h1, h2, -, -, h5, h6, -⟩ := h
   have := hlongc_ok v.n1 v.n2 v.t v.f w' (by rw [h1, h2, h5, h6]; exact h0)
   rw [show (1 + (v.n1 : Int) + v.n2) = (obLen o : Int) by rw [h5, h6]; unfold obLen; omega] at this
   exact this
  have hHb : ∀ o v, ObR w w.heap.size o v → obE o ≠ 0 → ∀ w', Calls Tryz.prog 44 #[.agg #[.int .i64 v.n1, .int .i64 v.n2, .int .i64 v.t, .bool v.f]] w' fun e w'' => e = .returned (.tuple #[.int .i64 0, .int .i64 (obE o)]) ∧ Below w'.heap.size w' w'' := fun o v h h0 w' => by
   obtain ⟨h1, h2, -, -, h5, h6, -⟩ := h
   have e1 : headE (v.n1 : Int) v.n2 v.t v.f = obE o := by rw [h1, h2, h5, h6]; rfl
   have := hlongc_bad v.n1 v.n2 v.t v.f w' (by rw [e1]; exact h0)
   rw [e1] at this
   exact this
  have hHw : ∀ o v, ObR w w.heap.size o v → obE o = 0 → ∀ w', Calls Tryz.prog 18 #[.agg #[.int .i64 v.n1, .int .i64 v.n2, .int .i64 v.t, .bool v.f]] w' fun e w'' => e = .returned (.tuple #[.int .u64 (wordOf o.refs.length o.body.length o.t o.f), .int .i64 0]) ∧ Below w'.heap.size w' w'' := fun o v h h0 w' => by
   obtain ⟨h1, h2, -, -, h5, h6, -⟩ := h
   have := hword_ok v.n1 v.n2 v.t v.f w' (by rw [h1, h2, h5, h6]; exact h0)
   rw [h1, h2, h5, h6] at this ⊢
   exact this
  have HHd := Lib.hid hHd
  have HHb := Lib.hid hHb
  have HHw := Lib.hid hHw
  have HW := Lib.hid (fun (k : Nat) (h1 : 1 ≤ k) (h2 : k ≤ 256) w => hword_ok 0 ((k : Int) - 1) 0 true w (headE_ok.2 ⟨by omega, by omega, by omega, by omega, by omega, by omega, by omega, fun _ => ⟨rfl, rfl⟩⟩))
  have HHo := Lib.hid headOf_any
  clear hN ho hwr hHd hHb hHw hln
  go_enter Tryz.func22, Tryz.ntmps22
  go_wp2_with fail
  refine (HNw.out _).mono ?_
  rintro e w2 ⟨rfl, rfl⟩
  have B0 : Blk ((w.alloc (.cells (madeCells #[Value.int .u64 0] M) 40)).alloc (.cells (madeCells #[Value.int .i64 0] n) 3)) w.heap.size 40 ((List.replicate M (0 : Int)).map (Value.int .u64)).toArray := by
   rw [List.map_replicate, ← madeCells_one]; exact (Blk.new w _ _).alloc _
  have G0 : Blk ((w.alloc (.cells (madeCells #[Value.int .u64 0] M) 40)).alloc (.cells (madeCells #[Value.int .i64 0] n) 3)) (w.heap.size + 1) 3 ((begsP os n 0).map (Value.int .i64)).toArray := by
   have := Blk.new (w.alloc (.cells (madeCells #[Value.int .u64 0] M) 40)) 3 (madeCells #[Value.int .i64 0] n)
   rw [World.size_alloc] at this
   have e : ((begsP os n 0).map (Value.int .i64)).toArray = madeCells #[Value.int .i64 0] n := by
    rw [madeCells_one]
    unfold begsP
    simp
   rw [e]
   exact this
  have hb0 := (below_new w (.cells (madeCells #[Value.int .u64 0] M) 40)).alloc (by simp) (.cells (madeCells #[Value.int .i64 0] n) 3)
  have HB0 := Lib.hid B0
  have HG0 := Lib.hid G0
  clear B0 G0
  go_wp2
  clear hmk
  go_loopw [9, 34] (fun z i wr => ∃ j : Nat, j ≤ n ∧ i = .int .i64 j ∧ z = .int .i64 (begO os j : Nat) ∧ Hid (∀ o ∈ os.take j, obE o = 0) ∧ Hid (Blk wr w.heap.size 40 ((List.replicate M (0 : Int)).map (Value.int .u64)).toArray) ∧ Hid (Blk wr (w.heap.size + 1) 3 ((begsP os n j).map (Value.int .i64)).toArray) ∧ Below w.heap.size w wr) (fun _ i _ => n - (intOf i).toNat)
  case atStart => exact ⟨0, Nat.zero_le _, rfl, rfl, by show ∀ o ∈ os.take 0, _; simp, HB0, HG0, hb0⟩
  case round =>
   obtain ⟨j, hj, rfl, rfl, HAll, HBj, HGj, hb⟩ := hrel
   have hbb := begO_bound j HAll.out
   by_cases hlt : j < n
   ·obtain ⟨ad, v, rfl, had, hv, k0, k1, k2, k3⟩ := (hr.below hb).obv hlt
    have hoj : os[j]? = some (os[j]'(by rw [HLn.out]; exact hlt)) := List.getElem?_eq_getElem _
    generalize os[j]'(by rw [HLn.out]; exact hlt) = o at hoj
    have hov := HOb.out.2 j o v hoj hv
    by_cases hE : obE o = 0
    ·have HL := Lib.hid (HHd.out o v hov hE)
     have HH := Lib.hid (HHo.out v)
     have hnx := begO_succ hoj
     have hob : obLen o ≤ 256 := by
      have := headE_ok.1 hE
      unfold obLen
      omega
     obtain ⟨LN, hLN⟩ : ∃ LN, LN = obLen o := ⟨_, rfl⟩
     rw [← hLN] at HL hnx hob
     obtain ⟨t, A1, n1, c1, A2, n2, c2, f⟩ := v
     dsimp only at k0 k1 k2 k3 HL HH
     have hAll2 : Hid (∀ o ∈ os.take (j + 1), obE o = 0) := by
      show ∀ o ∈ os.take (j + 1), obE o = 0
      obtain ⟨z1, z2⟩ := List.getElem?_eq_some_iff.1 hoj
      rw [List.take_succ_eq_append_getElem z1, z2]
      intro x hx
      rcases List.mem_append.1 hx with h | h
      ·exact HAll.out x h
      ·obtain rfl := List.mem_singleton.1 h; exact hE
     have D1 := Blk.new wr 45 #[.int .i64 t, .slice A1 n1 c1, .slice A2 n2 c2, .bool f]
     have hbn := below_new wr (.cells #[.int .i64 t, .slice A1 n1 c1, .slice A2 n2 c2, .bool f] 45)
     have HB1 := Lib.hid (HBj.out.alloc (.cells #[.int .i64 t, .slice A1 n1 c1, .slice A2 n2 c2, .bool f] 45))
     have HG1 := Lib.hid (HGj.out.alloc (.cells #[.int .i64 t, .slice A1 n1 c1, .slice A2 n2 c2, .bool f] 45))
     have hb1 := hb.alloc hb.size (.cells #[.int .i64 t, .slice A1 n1 c1, .slice A2 n2 c2, .bool f] 45)
     have d0 := D1.cell 0
     have d1 := D1.cell 1
     have d2 := D1.cell 2
     have d3 := D1.cell 3
     simp only [List.getElem?_toArray, List.getElem?_cons_zero, List.getElem?_cons_succ] at d0 d1 d2 d3
     obtain ⟨e1, he1⟩ : ∃ e1, e1 = begO os (j + 1) := ⟨_, rfl⟩
     rw [← he1] at hnx
     have wl : IntKind.i64.wrap ((begO os j : Int) + LN) = e1 := by rw [IntWalk.i64_in _ (by omega)]; omega
     have HE1 : Hid (((begO os (j + 1) : Nat) : Int) = e1) := by show _ = _; rw [he1]
     have HSet := Lib.hid (begsP_set os n j hlt)
     generalize begO os j = e0 at *
     have hj1 : j + 1 ≤ n := hlt
     obtain ⟨old, hold⟩ : ∃ old, (begsP os n j)[j]? = some old := ⟨_, List.getElem?_eq_getElem (by rw [begsP_length _ _ _ hj]; exact hlt)⟩
     have HOld := Lib.hid hold
     clear hold
     clear hLN hnx he1 hoj hv hov hE HBj HGj hb D1 hbn
     go_wp2_with fail
     refine (HH.out _).mono ?_
     rintro e w3 ⟨rfl, hb3⟩
     go_wp2_with fail
     refine (HL.out _).mono ?_
     rintro e w4 ⟨rfl, hb4⟩
     have hb34 := below_step hb3 hb4
     have B4 := HB1.out.below hb34 HB1.out.lt
     have G4 := HG1.out.below hb34 HG1.out.lt
     have hb14 := hb1.trans (hb34.mono hb1.size)
     have c1 := G4.cell j
     rw [List.getElem?_toArray, List.getElem?_map, HOld.out, Option.map_some] at c1
     have f1 := G4.frozen j
     have HB4 := Lib.hid (B4.far (p := ⟨w.heap.size + 1, j, none⟩) (by dsimp only; omega) (.int .i64 e0))
     have HG4 : Hid (Blk (w4.setCell ⟨w.heap.size + 1, j, none⟩ (.int .i64 e0)) (w.heap.size + 1) 3 ((begsP os n (j + 1)).map (Value.int .i64)).toArray) := by
      have h2 := G4.set_ j (.int .i64 e0)
      rw [List.setIfInBounds_toArray, ← List.map_set, HSet.out] at h2
      exact h2
     have hb5 := hb14.setCell (p := ⟨w.heap.size + 1, j, none⟩) (by dsimp only; omega) (.int .i64 e0)
     clear B4 G4 hb14 hb34 hb3 hb4 hb1 d0 d1 d2 d3
     go_wp2
     go_roundw
     case rel => exact ⟨j + 1, hj1, by go_num, by rw [HE1.out], hAll2, HB4, HG4, hb5⟩
     case measure => simp [intOf]; omega
    ·have HL := Lib.hid (HHb.out o v hov hE)
     have HH := Lib.hid (HHo.out v)
     have HNo : Hid (¬ LayOk os (M : Int)) := fun h => hE (h.heads o (List.mem_of_getElem? hoj))
     have hE1 : (obE o != 0) = true := by simpa using hE
     generalize obE o = E at *
     obtain ⟨t, A1, n1, c1, A2, n2, c2, f⟩ := v
     dsimp only at k0 k1 k2 k3 HL HH
     have D1 := Blk.new wr 45 #[.int .i64 t, .slice A1 n1 c1, .slice A2 n2 c2, .bool f]
     have hb1 := hb.alloc hb.size (.cells #[.int .i64 t, .slice A1 n1 c1, .slice A2 n2 c2, .bool f] 45)
     have d0 := D1.cell 0
     have d1 := D1.cell 1
     have d2 := D1.cell 2
     have d3 := D1.cell 3
     simp only [List.getElem?_toArray, List.getElem?_cons_zero, List.getElem?_cons_succ] at d0 d1 d2 d3
     clear hoj hv hov hE HBj HGj hb D1
     go_wp2_with fail
     refine (HH.out _).mono ?_
     rintro e w3 ⟨rfl, hb3⟩
     go_wp2_with fail
     refine (HL.out _).mono ?_
     rintro e w4 ⟨rfl, hb4⟩
     have hb34 := below_step hb3 hb4
     have hb14 := hb1.trans (hb34.mono hb1.size)
     go_wp2
     go_ret2
     exact ⟨hb14, .inr ⟨HNo.out, E, hE1, rfl⟩⟩
   ·obtain rfl : n = j := by omega
    have hT : begO os n = totO os := by unfold begO; rw [List.take_of_length_le (by rw [HLn.out]; exact Nat.le_refl _)]
    have HAl : Hid (∀ o ∈ os, obE o = 0) := by
     have := HAll.out
     rw [List.take_of_length_le (by rw [HLn.out]; exact Nat.le_refl _)] at this
     exact this
    have hnT : n ≤ totO os := by have := totO_len os; rw [HLn.out] at this; exact this
    rw [hT] at hbb ⊢
    obtain ⟨T, hTe⟩ : ∃ T, T = totO os := ⟨_, rfl⟩
    rw [← hTe] at hbb hnT ⊢
    have HT := Lib.hid hTe
    have HTb := Lib.hid hT
    clear hT hTe HAll
    by_cases hfit : M < T
    ·have HNo : Hid (¬ LayOk os (M : Int)) := fun h => by have := h.fit; have := HT.out; omega
     go_wp2
     go_ret2
     exact ⟨hb, .inr ⟨HNo.out, 7, by decide, rfl⟩⟩
    ·have hTM : T ≤ M := by omega
     have hd : decide (M < T) = false := decide_eq_false hfit
     have hn256 : n ≤ 256 := by omega
     clear hbb hfit
     have HB2 : Hid (Blk wr w.heap.size 40 ((outP os M 0).map (Value.int .u64)).toArray) := by
      have e : outP os M 0 = List.replicate M 0 := by simp [outP, begO, totO, chunksW]
      rw [e]
      exact HBj.out
     have hTle : ∀ j, begO os j ≤ M := fun j => by have := begO_le os j; have := HT.out; omega
     have HTle := Lib.hid hTle
     clear hTle HBj
     go_wp2
     go_loopw [61] (fun i wr => ∃ j : Nat, j ≤ n ∧ i = .int .i64 j ∧ Hid (∀ o ∈ os.take j, ∀ k ∈ o.refs, refOkO os k) ∧ Hid (Blk wr w.heap.size 40 ((outP os M j).map (Value.int .u64)).toArray) ∧ Hid (Blk wr (w.heap.size + 1) 3 ((begsP os n n).map (Value.int .i64)).toArray) ∧ Below w.heap.size w wr) (fun i _ => n - (intOf i).toNat)
     case atStart => exact ⟨0, Nat.zero_le _, rfl, by show ∀ o ∈ os.take 0, _; simp, HB2, HGj, hb⟩
     case round =>
      clear HB2 HGj hb
      obtain ⟨j, hj, rfl, HRf, HBj, HGj, hb⟩ := hrel
      by_cases hlt : j < n
      ·obtain ⟨ad, v, rfl, had, hv, k0, k1, k2, k3⟩ := (hr.below hb).obv hlt
       have hoj : os[j]? = some (os[j]'(by rw [HLn.out]; exact hlt)) := List.getElem?_eq_getElem _
       generalize os[j]'(by rw [HLn.out]; exact hlt) = o at hoj
       have hov := HOb.out.2 j o v hoj hv
       have hE := HAl.out o (List.mem_of_getElem? hoj)
       have HWd := Lib.hid (HHw.out o v hov hE)
       have HH := Lib.hid (HHo.out v)
       have hnx := begO_succ hoj
       have hnxM := HTle.out (j + 1)
       have hst := outP_step (M := M) hoj hnxM
       have hWx := HWr.out o (List.mem_of_getElem? hoj)
       have hlen := outP_length (HTle.out j)
       have hchk : chkW (obChk os o) = wordOf o.refs.length o.body.length o.t o.f :: (o.refs.map (refP os) ++ o.body) := rfl
       rw [hchk] at hst
       have hr256 : o.refs.length ≤ 256 ∧ o.body.length ≤ 256 := by
        have := headE_ok.1 hE
        omega
       generalize wordOf o.refs.length o.body.length o.t o.f = Wd at *
       obtain ⟨e1, e2, e3, e4, e5, e6, e7, e8⟩ := hov
       obtain ⟨t, A1, n1, c1, A2, n2, c2, f⟩ := v
       dsimp only at k0 k1 k2 k3 HWd HH e1 e2 e3 e4 e5 e6 e7 e8
       have D1 := Blk.new wr 45 #[.int .i64 t, .slice A1 n1 c1, .slice A2 n2 c2, .bool f]
       have HB1 := Lib.hid (HBj.out.alloc (.cells #[.int .i64 t, .slice A1 n1 c1, .slice A2 n2 c2, .bool f] 45))
       have HG1 := Lib.hid (HGj.out.alloc (.cells #[.int .i64 t, .slice A1 n1 c1, .slice A2 n2 c2, .bool f] 45))
       have hb1 := hb.alloc hb.size (.cells #[.int .i64 t, .slice A1 n1 c1, .slice A2 n2 c2, .bool f] 45)
       have HD1 := Lib.hid D1
       have d0 := D1.cell 0
       have d1 := D1.cell 1
       have d2 := D1.cell 2
       have d3 := D1.cell 3
       simp only [List.getElem?_toArray, List.getElem?_cons_zero, List.getElem?_cons_succ] at d0 d1 d2 d3
       have HR1 := Lib.hid e5
       have HR2 := Lib.hid e6
       have hn1 : n1 ≤ 256 := by omega
       have hn2 : n2 ≤ 256 := by omega
       have HRr := Lib.hid e7
       have HRb := Lib.hid e8
       have HSt := Lib.hid hst
       have HLe := Lib.hid hlen
       have HNx := Lib.hid hnx
       have HWf := Lib.hid hWx
       have HOj := Lib.hid hoj
       have HNxM := Lib.hid hnxM
       have hj1 : j + 1 ≤ n := hlt
       have hgw := HGj.out.lt
       clear hst hlen hnx hWx hoj hv hE hchk e1 e2 e3 e4 e5 e6 e7 e8 hr256 D1 HBj HGj hb hnxM
       go_wp2_with fail
       refine (HH.out _).mono ?_
       rintro e w3 ⟨rfl, hb3⟩
       go_wp2_with fail
       refine (HWd.out _).mono ?_
       rintro e w4 ⟨rfl, hb4⟩
       have hb34 := below_step hb3 hb4
       have HB4 := Lib.hid ((HB1.out.below hb34 HB1.out.lt).alloc (.cells #[.int .u64 Wd] 40))
       have HG4 := Lib.hid ((HG1.out.below hb34 HG1.out.lt).alloc (.cells #[.int .u64 Wd] 40))
       have HD4 := Lib.hid ((HD1.out.below hb34 HD1.out.lt).alloc (.cells #[.int .u64 Wd] 40))
       have hb14 := (hb1.trans (hb34.mono hb1.size))
       have hb15 := hb14.alloc hb14.size (.cells #[.int .u64 Wd] 40)
       have hs34 := hb34.size
       rw [World.size_alloc] at hs34
       have HO4 : Hid ((w4.alloc (.cells #[.int .u64 Wd] 40)).ownsRow (wr.heap.size + 1) 40 1 (.slice (some ⟨w4.heap.size, 0, none⟩) (0 + 1) 1) (0 + 1) ((Wd :: (o.refs.take 0).map (refP os)).map (.int .u64))) := by
        have := own_close (w := w4.alloc (.cells #[.int .u64 Wd] 40)) (base := wr.heap.size + 1) (e := 40) (size := 1) (n := 1) (c := 1) (g := w4.heap.size) [.int .u64 Wd] (by omega) (heap_alloc_new w4 _) (Nat.le_refl _) (by decide) rfl
        exact this
       have hsz4 : wr.heap.size < (w4.alloc (.cells #[.int .u64 Wd] 40)).heap.size := by rw [World.size_alloc]; omega
       have q1 := HD4.out.cell 1
       simp only [List.getElem?_toArray, List.getElem?_cons_zero, List.getElem?_cons_succ] at q1
       obtain ⟨wo, hwo⟩ : ∃ x, x = wr := ⟨wr, rfl⟩
       subst hwo
       clear hb34 hb3 hb4 hb14 hb1 d0 d1 d2 d3
       go_wp2
       go_loopw [18, 20, 77] (fun v _ i wx => ∃ (q : Nat) (AR : Option Addr) (cR : Nat), q ≤ n1 ∧ v = .slice AR (q + 1) cR ∧ i = .int .i64 q ∧ Hid (∀ k ∈ o.refs.take q, refOkO os k) ∧ Hid (wx.ownsRow (wo.heap.size + 1) 40 1 (.slice AR (q + 1) cR) (q + 1) ((Wd :: (o.refs.take q).map (refP os)).map (.int .u64))) ∧
        Hid (Blk wx w.heap.size 40 ((outP os M j).map (Value.int .u64)).toArray) ∧ Hid (Blk wx (w.heap.size + 1) 3 ((begsP os n n).map (Value.int .i64)).toArray) ∧ Hid (Blk wx wo.heap.size 45 #[.int .i64 t, .slice A1 n1 c1, .slice A2 n2 c2, .bool f]) ∧ Below w.heap.size w wx ∧ wo.heap.size < wx.heap.size) (fun _ _ i _ => n1 - (intOf i).toNat)
       case atStart => exact ⟨0, _, _, Nat.zero_le _, rfl, rfl, by show ∀ k ∈ o.refs.take 0, _; simp, HO4, HB4, HG4, HD4, hb15, hsz4⟩
       case round =>
        clear HB4 HG4 HD4 HO4 hb15 hsz4
        obtain ⟨q, AR, cR, hq, rfl, rfl, HRk, HOq, HBq, HGq, HDq, hbq, hszq⟩ := hrel
        by_cases hltq : q < n1
        ·obtain ⟨adr, x, rfl, hadr, hx, cx⟩ := (HRr.out.below hbq).num hltq
         have hxw := HWf.out.1 x (List.mem_of_getElem? hx)
         have hx64 : -9223372036854775808 ≤ x ∧ x ≤ 9223372036854775807 := by
          simp [Lit.wf, IntKind.min, IntKind.max, IntKind.signed, IntKind.bits] at hxw
          omega
         have hT : Hid (o.refs.take (q + 1) = o.refs.take q ++ [x]) := by
          show _ = _
          obtain ⟨z1, z2⟩ := List.getElem?_eq_some_iff.1 hx
          rw [List.take_succ_eq_append_getElem z1, z2]
         have hgo : ∀ g, (Value.slice AR (q + 1) cR).ownBlock = some g → wo.heap.size < g := fun g hg => (HOq.out.lt g hg).1
         have HGo := Lib.hid hgo
         have hq1 : q + 1 ≤ n1 := hltq
         clear hgo
         have hwob : w.heap.size + 1 < wo.heap.size := hgw
         by_cases hm1 : x = -1
         ·subst hm1
          have z1 : ((-1 : Int) == -1) = true := rfl
          have hown2 := HOq.out.alloc (.cells #[.int .u64 0] 40)
          have hnew := reads_new wr [.int .u64 0] 40 1 1 rfl
          have hb2 := hbq.alloc hbq.size (.cells #[.int .u64 0] 40)
          have HB2 := Lib.hid (HBq.out.alloc (.cells #[.int .u64 0] 40))
          have HG2 := Lib.hid (HGq.out.alloc (.cells #[.int .u64 0] 40))
          have HD2 := Lib.hid (HDq.out.alloc (.cells #[.int .u64 0] 40))
          have HRn : Hid (∀ k ∈ o.refs.take (q + 1), refOkO os k) := by
           show ∀ k ∈ o.refs.take (q + 1), refOkO os k
           rw [hT.out]
           intro k hk
           rcases List.mem_append.1 hk with h | h
           ·exact HRk.out k h
           ·obtain rfl := List.mem_singleton.1 h; exact (.inl rfl)
          have HLn2 : Hid ((Wd :: (o.refs.take (q + 1)).map (refP os)).map (Value.int .u64) = (Wd :: (o.refs.take q).map (refP os)).map (.int .u64) ++ [.int .u64 0]) := by
           show _ = _
           rw [hT.out, List.map_append (f := refP os) (l₁ := o.refs.take q), ← List.cons_append, List.map_append]
           simp only [List.map_cons, List.map_nil, show refP os (-1) = 0 from rfl]
          have hsz2 : wo.heap.size + 1 ≤ (wr.alloc (.cells #[.int .u64 0] 40)).heap.size := by rw [World.size_alloc]; omega
          clear HOq HBq HGq HDq hbq hx
          go_wp2_with (at_builtin; refine wpList_append_any _ rfl (.tmp 93) (.tmp 94) 22 rfl (wo.heap.size + 1) 40 j0 (.int .u64 0) 1 8 Tryz.underlying22 hj0 hjz0 hjz1 hjz2 rfl (by decide) (.slice AR (q + 1) cR) (q + 1) _ rfl hown2 (wr.heap.size + 1) (some ⟨wr.heap.size, 0, none⟩) 1 1 [.int .u64 0] rfl hnew (by simp [Value.oneCell']) (by unfold maxLen; omega) (by omega) hsz2 ?_; rintro v' w5 hown5 hgr - -; obtain ⟨A7, c7, rfl⟩ := own_slice hown5)
          have hb5 := hb2.grown hgr hb2.size (fun g hg => by have := HGo.out g hg; omega)
          have HB5 := Lib.hid (HB2.out.grown hgr (fun h => by have := HGo.out _ h.symm; omega))
          have HG5 := Lib.hid (HG2.out.grown hgr (fun h => by have := HGo.out _ h.symm; omega))
          have HD5 := Lib.hid (HD2.out.grown hgr (fun h => by have := HGo.out _ h.symm; omega))
          have hsz5 := HD5.out.lt
          go_roundw
          case rel => exact ⟨q + 1, A7, c7, hq1, rfl, by go_num, HRn, by rw [HLn2.out]; exact hown5, HB5, HG5, HD5, hb5, hsz5⟩
          case measure => simp [intOf]; omega
         ·have z1 : (x == -1) = false := by simpa using hm1
          have hbad : ¬ refOkO os x → ¬ LayOk os (M : Int) := fun h1 h2 => h1 (h2.refs o (List.mem_of_getElem? HOj.out) x (List.mem_of_getElem? hx))
          by_cases hx0 : x < 0
          ·have z2 : decide (x < 0) = true := decide_eq_true hx0
           have HNo := Lib.hid (hbad (fun h => by
            rcases h with h | ⟨h, -⟩
            ·exact hm1 h
            ·omega))
           clear hbad HOq HBq HGq HDq hx
           go_wp2
           go_ret2
           exact ⟨hbq, .inr ⟨HNo.out, 5, by decide, rfl⟩⟩
          ·have z2 : decide (x < 0) = false := decide_eq_false hx0
           obtain ⟨K, rfl⟩ := Int.eq_ofNat_of_zero_le (show 0 ≤ x by omega)
           by_cases hKn : n ≤ K
           ·have z3 : decide (n ≤ K) = true := decide_eq_true hKn
            have HNo := Lib.hid (hbad (fun h => by
             rcases h with h | ⟨-, o', h, -⟩
             ·omega
             ·rw [Int.toNat_natCast] at h
              have := (List.getElem?_eq_some_iff.1 h).1
              have := HLn.out
              omega))
            clear hbad HOq HBq HGq HDq hx
            go_wp2
            go_ret2
            exact ⟨hbq, .inr ⟨HNo.out, 5, by decide, rfl⟩⟩
           ·have z3 : decide (n ≤ K) = false := decide_eq_false hKn
            have hKlt : K < n := by omega
            obtain ⟨ad2, vK, e9, had2, hvK, m0, m1, m2, m3⟩ := (hr.below hbq).obv hKlt
            injection e9 with e9
            subst e9
            have hoK : os[K]? = some (os[K]'(by rw [HLn.out]; exact hKlt)) := List.getElem?_eq_getElem _
            generalize os[K]'(by rw [HLn.out]; exact hKlt) = oK at hoK
            have hfK := (HOb.out.2 K oK vK hoK hvK).2.1
            obtain ⟨tK, AK1, nK1, cK1, AK2, nK2, cK2, fK⟩ := vK
            dsimp only at m0 m1 m2 m3 hfK
            have hKi : (K : Int) < n := by omega
            have hK0 : (0 : Int) ≤ K := by omega
            cases fK
            ·have hok : refOkO os (K : Int) := .inr ⟨by omega, oK, by rw [Int.toNat_natCast]; exact hoK, hfK.symm⟩
             have hrp : refP os (K : Int) = (begO os K : Int) + 1 := by unfold refP; rw [if_neg (by omega), Int.toNat_natCast]
             have hbK := HTle.out K
             obtain ⟨bK, hbKe⟩ : ∃ bK, bK = begO os K := ⟨_, rfl⟩
             obtain ⟨bK1, hbK1⟩ : ∃ bK1, bK1 = bK + 1 := ⟨_, rfl⟩
             have hg1 := HGq.out.cell K
             rw [List.getElem?_toArray, List.getElem?_map, begsP_get _ _ _ _ hKlt, Option.map_some, ← hbKe] at hg1
             rw [← hbKe] at hrp hbK
             have hrp2 : refP os (K : Int) = (bK1 : Int) := by rw [hrp]; omega
             have wu : IntKind.u64.wrap (bK : Int) = bK := wrap_u64_of (by omega) (by omega)
             have wu1 : IntKind.u64.wrap ((bK : Int) + 1) = bK1 := by rw [wrap_u64_of (by omega) (by omega)]; omega
             have HOk := Lib.hid hok
             have HRp := Lib.hid hrp2
             clear hok hrp hbKe hbK1 hoK hvK hfK hbad hrp2
             have hown2 := HOq.out.alloc (.cells #[.int .u64 bK1] 40)
             have hnew := reads_new wr [.int .u64 bK1] 40 1 1 rfl
             have hb2 := hbq.alloc hbq.size (.cells #[.int .u64 bK1] 40)
             have HB2 := Lib.hid (HBq.out.alloc (.cells #[.int .u64 bK1] 40))
             have HG2 := Lib.hid (HGq.out.alloc (.cells #[.int .u64 bK1] 40))
             have HD2 := Lib.hid (HDq.out.alloc (.cells #[.int .u64 bK1] 40))
             have HRn : Hid (∀ k ∈ o.refs.take (q + 1), refOkO os k) := by
              show ∀ k ∈ o.refs.take (q + 1), refOkO os k
              rw [hT.out]
              intro k hk
              rcases List.mem_append.1 hk with h | h
              ·exact HRk.out k h
              ·obtain rfl := List.mem_singleton.1 h; exact HOk.out
             have HLn2 : Hid ((Wd :: (o.refs.take (q + 1)).map (refP os)).map (Value.int .u64) = (Wd :: (o.refs.take q).map (refP os)).map (.int .u64) ++ [.int .u64 bK1]) := by
              show _ = _
              rw [hT.out, List.map_append (f := refP os) (l₁ := o.refs.take q), ← List.cons_append, List.map_append]
              simp only [List.map_cons, List.map_nil, HRp.out]
             have hsz2 : wo.heap.size + 1 ≤ (wr.alloc (.cells #[.int .u64 bK1] 40)).heap.size := by rw [World.size_alloc]; omega
             clear HOq HBq HGq HDq hbq hx
             go_wp2_with (at_builtin; refine wpList_append_any _ rfl (.tmp 81) (.tmp 88) 22 rfl (wo.heap.size + 1) 40 j0 (.int .u64 0) 1 8 Tryz.underlying22 hj0 hjz0 hjz1 hjz2 rfl (by decide) (.slice AR (q + 1) cR) (q + 1) _ rfl hown2 (wr.heap.size + 1) (some ⟨wr.heap.size, 0, none⟩) 1 1 [.int .u64 bK1] rfl hnew (by simp [Value.oneCell']) (by unfold maxLen; omega) (by omega) hsz2 ?_; rintro v' w5 hown5 hgr - -; obtain ⟨A7, c7, rfl⟩ := own_slice hown5)
             have hb5 := hb2.grown hgr hb2.size (fun g hg => by have := HGo.out g hg; omega)
             have HB5 := Lib.hid (HB2.out.grown hgr (fun h => by have := HGo.out _ h.symm; omega))
             have HG5 := Lib.hid (HG2.out.grown hgr (fun h => by have := HGo.out _ h.symm; omega))
             have HD5 := Lib.hid (HD2.out.grown hgr (fun h => by have := HGo.out _ h.symm; omega))
             have hsz5 := HD5.out.lt
             go_roundw
             case rel => exact ⟨q + 1, A7, c7, hq1, rfl, by go_num, HRn, by rw [HLn2.out]; exact hown5, HB5, HG5, HD5, hb5, hsz5⟩
             case measure => simp [intOf]; omega
            ·have HNo := Lib.hid (hbad (fun h => by
              rcases h with h | ⟨-, o', h, h2⟩
              ·omega
              ·rw [Int.toNat_natCast, hoK] at h
               obtain rfl := Option.some.inj h
               rw [h2] at hfK
               cases hfK))
             clear hbad HOq HBq HGq HDq hx hoK hvK hfK
             go_wp2
             go_ret2
             exact ⟨hbq, .inr ⟨HNo.out, 5, by decide, rfl⟩⟩
        ·obtain rfl : q = n1 := by omega
         have hrl := HR1.out
         have hbl := HR2.out
         have htk : o.refs.take q = o.refs := List.take_of_length_le (by omega)
         have HRf2 : Hid (∀ o' ∈ os.take (j + 1), ∀ k ∈ o'.refs, refOkO os k) := by
          show ∀ o' ∈ os.take (j + 1), ∀ k ∈ o'.refs, refOkO os k
          obtain ⟨z1, z2⟩ := List.getElem?_eq_some_iff.1 HOj.out
          rw [List.take_succ_eq_append_getElem z1, z2]
          intro o' ho'
          rcases List.mem_append.1 ho' with h | h
          ·exact HRf.out o' h
          ·obtain rfl := List.mem_singleton.1 h
           have := HRk.out
           rw [htk] at this
           exact this
         have hrow := HOq.out
         rw [htk] at hrow
         obtain ⟨e0, he0⟩ : ∃ e0, e0 = begO os j := ⟨_, rfl⟩
         obtain ⟨LN, hLN⟩ : ∃ LN, LN = q + 1 + n2 := ⟨_, rfl⟩
         have hob : obLen o = LN := by unfold obLen; omega
         have hfit := HNxM.out
         rw [HNx.out, ← he0, hob] at hfit
         have hg1 := HGq.out.cell j
         rw [List.getElem?_toArray, List.getElem?_map, begsP_get _ _ _ _ hlt, Option.map_some, ← he0] at hg1
         have hd2 := HDq.out.cell 2
         simp only [List.getElem?_toArray, List.getElem?_cons_zero, List.getElem?_cons_succ] at hd2
         have hSt := HSt.out
         rw [← he0, ← List.cons_append] at hSt
         have hst2 : ((Wd :: o.refs.map (refP os)) ++ o.body).length = LN := by simp; omega
         obtain ⟨row, hrw⟩ : ∃ row, row = Wd :: o.refs.map (refP os) := ⟨_, rfl⟩
         rw [← hrw] at hSt hst2 hrow
         have hn1 : ¬ M = e0 := by omega
         have hn2 : (e0 : Int) ≤ M := by omega
         have hn3 : (0 : Int) ≤ e0 := by omega
         have hn4 : e0 ≤ M := by omega
         have hji : (j : Int) < n := by omega
         have hj0 : (0 : Int) ≤ j := by omega
         have hv := reads_new wr [.slice AR (q + 1) cR, .slice A2 n2 c2] 22 2 1 rfl
         have hbn := below_new wr (.cells #[.slice AR (q + 1) cR, .slice A2 n2 c2] 22)
         have hbqn := hbq.trans (hbn.mono hbq.size)
         have HCo := Lib.hid (concat2_u64 AR (q + 1) cR (row.map (.int .u64)) A2 n2 c2 (o.body.map (.int .u64)) (some ⟨wr.heap.size, 0, none⟩) 2 (wr.alloc (.cells #[.slice AR (q + 1) cR, .slice A2 n2 c2] 22)).drew (hv.more (by simp)) (((Reads.of_own hrow).below hbn).more hbn.size) ((HRb.out.below hbqn).more hbqn.size) (u64s_one _) (u64s_one _) (by omega))
         rw [← hLN] at HCo
         have BB := (HBq.out.alloc (.cells #[.slice AR (q + 1) cR, .slice A2 n2 c2] 22)).drew
         have GG := (HGq.out.alloc (.cells #[.slice AR (q + 1) cR, .slice A2 n2 c2] 22)).drew
         have DD := (HDq.out.alloc (.cells #[.slice AR (q + 1) cR, .slice A2 n2 c2] 22)).drew
         have hbd := hbqn.drew
         have HStp := Lib.hid hSt
         have HSl := Lib.hid hst2
         have HGi := Lib.hid (begsP_get os n n j hlt)
         have HE0 := Lib.hid he0
         have hLNp : 0 < LN := by omega
         have hLe : (outP os M j).length = M := HLe.out
         have HLe2 := Lib.hid hLe
         have HCp : Hid (∀ (w9 : World) (AX : Option Addr) (cX base : Nat), Blk w9 w.heap.size 40 ((outP os M j).map (Value.int .u64)).toArray → Blk w9 (w.heap.size + 1) 3 ((begsP os n n).map (Value.int .i64)).toArray → Blk w9 wo.heap.size 45 #[.int .i64 t, .slice A1 q c1, .slice A2 n2 c2, .bool f] →
           w9.ownsRow base 40 1 (.slice AX LN cX) LN ((row.map (.int .u64)) ++ (o.body.map (.int .u64))) → Below w.heap.size w w9 →
           ∃ W1, (Builtin.copy_ #[22, 22] 3 #[.slice (some ⟨w.heap.size, e0, none⟩) (M - e0) (M - e0), .slice AX LN cX]).run Tryz.prog w9 = .ok (goInt LN) W1 ∧ Blk W1 w.heap.size 40 ((outP os M (j + 1)).map (Value.int .u64)).toArray ∧ Blk W1 (w.heap.size + 1) 3 ((begsP os n n).map (Value.int .i64)).toArray ∧
             W1.cell? ⟨w.heap.size + 1, j, none⟩ = some (.int .i64 e0) ∧ W1.cell? ⟨wo.heap.size, 2, none⟩ = some (.slice A2 n2 c2) ∧ Below w.heap.size w W1) := by
          intro w9 AX cX base B9 G9 D9 O9 hb9
          rw [← List.map_append] at O9
          have hrun := copy_splice (e0 := e0) B9 O9 hLe hLNp hfit
          have hbe := setRow_heap w9 w.heap.size ((outP os M j).map (Value.int .u64)).toArray ((splice (outP os M j) e0 (row ++ o.body)).map (Value.int .u64)).toArray 40 (0, 0) B9
          have hge := setRow_other w9 w.heap.size (w.heap.size + 1) ((splice (outP os M j) e0 (row ++ o.body)).map (Value.int .u64)).toArray (by omega)
          have hde := setRow_other w9 w.heap.size wo.heap.size ((splice (outP os M j) e0 (row ++ o.body)).map (Value.int .u64)).toArray (by omega)
          have G9' : Blk (w9.setRow w.heap.size ((splice (outP os M j) e0 (row ++ o.body)).map (Value.int .u64)).toArray) (w.heap.size + 1) 3 ((begsP os n n).map (Value.int .i64)).toArray := hge.trans G9
          have D9' : Blk (w9.setRow w.heap.size ((splice (outP os M j) e0 (row ++ o.body)).map (Value.int .u64)).toArray) wo.heap.size 45 #[.int .i64 t, .slice A1 q c1, .slice A2 n2 c2, .bool f] := hde.trans D9
          have gg := G9'.cell j
          rw [List.getElem?_toArray, List.getElem?_map, begsP_get _ _ _ _ hlt, Option.map_some, ← he0] at gg
          have dd := D9'.cell 2
          simp only [List.getElem?_toArray, List.getElem?_cons_zero, List.getElem?_cons_succ] at dd
          refine ⟨_, hrun, ?_, G9', gg, dd, below_setRow hb9 (Nat.le_refl _) _⟩
          unfold Blk
          rw [hbe, hSt]
         clear hrl hbl htk hrow he0 hLN hob hSt hst2 hrw hv hbn hbqn hLe HOq
         go_wp2
         go_region_held3 (fun w' => w'.cell? ⟨w.heap.size + 1, j, none⟩ = some (.int .i64 e0) ∧ w'.cell? ⟨wo.heap.size, 2, none⟩ = some (.slice A2 n2 c2)) (go_keep)
          (first
            | (go_at_call 46; (with_reducible refine HCo.out.mono ?_); rintro e w9 ⟨AX, cX, rfl, hown9, hb9⟩; have BB := BB.below hb9 BB.lt; have GG := GG.below hb9 GG.lt; have DD := DD.below hb9 DD.lt; have hbd := hbd.trans (hb9.mono hbd.size); have gg1 := GG.cell j; rw [List.getElem?_toArray, List.getElem?_map, HGi.out, Option.map_some, ← HE0.out] at gg1; have dd2 := DD.cell 2; simp only [List.getElem?_toArray, List.getElem?_cons_zero, List.getElem?_cons_succ] at dd2; obtain ⟨W1, hrun, HB1, HG1, gg2, dd3, hbW⟩ := HCp.out w9 AX cX _ BB GG DD hown9 hbd; have hHr := Lib.hid hrun; clear hrun)
            | (refine step_copy_run rfl (.tmp 118) (.tmp 123) 22 22 rfl (.slice (some ⟨w.heap.size, e0, none⟩) (M - e0) (M - e0)) (.slice AX LN cX) (by simp [Act.eval, Act.put]) (by simp [Act.eval, Act.put]) hHr.out ?_))
         have HB1' := Lib.hid HB1
         have HG1' := Lib.hid HG1
         clear HB1 HG1 BB GG DD gg1 dd2 gg2 dd3 hbd hown9
         go_wp2
         go_roundw
         case rel => exact ⟨j + 1, hj1, by go_num, HRf2, HB1', HG1', hbW⟩
         case measure => simp [intOf]; omega
      ·obtain rfl : n = j := by omega
       have hok : LayOk os (M : Int) := by
        refine ⟨by omega, by omega, HAl.out, by rw [← HT.out]; omega, ?_⟩
        have := HRf.out
        rw [List.take_of_length_le (by rw [HLn.out]; exact Nat.le_refl _)] at this
        exact this
       have hP : outP os M n = chunksW (os.map (obChk os)) ++ List.replicate (M - T) 0 := by
        unfold outP
        rw [List.take_of_length_le (by rw [HLn.out]; exact Nat.le_refl _), HTb.out, HT.out]
       have hLw : layW os M = chunksW (os.map (obChk os)) ++ chunksW (flushC (M - T)) := by
        unfold layW layCs
        rw [chunksW_append, HT.out]
       have hPl : (chunksW (os.map (obChk os))).length = T := by rw [lay_tot, HT.out]
       have hLl := layW_length hok
       have HOK := Lib.hid hok
       have HPl := Lib.hid hPl
       have HBk : Hid (Blk wr w.heap.size 40 ((chunksW (os.map (obChk os)) ++ List.replicate (M - T) (0 : Int)).map (Value.int .u64)).toArray) := by
        show Blk _ _ _ _
        rw [← hP]
        exact HBj.out
       have hfin : ∀ W : World, Blk W w.heap.size 40 ((layW os M).map (Value.int .u64)).toArray → W.ownsRow w.heap.size 40 1 (.slice (some ⟨w.heap.size, 0, none⟩) M M) M ((layW os M).map (.int .u64)) := fun W hW => by
        have := own_close (w := W) (base := w.heap.size) (e := 40) (size := 1) (n := M) (c := M) (g := w.heap.size) ((layW os M).map (Value.int .u64)) (Nat.le_refl _) hW (Nat.le_refl _) (by unfold maxLen; omega) (by rw [List.length_map, hLl, Nat.mul_one])
        rw [Nat.mul_one, List.take_of_length_le (by rw [List.length_map, hLl]; exact Nat.le_refl _)] at this
        exact this
       have HFin := Lib.hid hfin
       have HLw := Lib.hid hLw
       clear hok hP hLw hPl hLl hfin HBj HRf
       by_cases hlt2 : T < M
       ·obtain ⟨K, hK⟩ : ∃ K, K = M - T := ⟨_, rfl⟩
        have wK : IntKind.i64.wrap ((M : Int) - T) = K := by rw [IntWalk.i64_in _ (by omega)]; omega
        have wK2 : IntKind.i64.wrap ((K : Int) - 1) = (K : Int) - 1 := IntWalk.i64_in _ (by omega)
        have HWk := HW.out K (by omega) (by omega)
        have hset := flush_set (pre := chunksW (os.map (obChk os))) (rest := []) (e := T) (p := K) HPl.out (by omega)
        rw [List.append_nil, List.append_nil] at hset
        obtain ⟨wd, hwd⟩ : ∃ wd, wd = wordOf 0 ((K : Int) - 1) 0 true := ⟨_, rfl⟩
        rw [← hwd] at HWk hset
        have HWk := Lib.hid HWk
        have HBk2 : Hid (Blk wr w.heap.size 40 ((chunksW (os.map (obChk os)) ++ List.replicate K (0 : Int)).map (Value.int .u64)).toArray) := by
         rw [hK]; exact HBk.out
        have HSet : Hid ((chunksW (os.map (obChk os)) ++ List.replicate K (0 : Int)).set T wd = layW os M) := by
         show _ = _
         rw [hset, HLw.out, hK]
        have hgi : (T : Int) < M := by omega
        have hg0 : (0 : Int) ≤ T := by omega
        have hK1 : 1 ≤ K := by omega
        have hget : (chunksW (os.map (obChk os)) ++ List.replicate K (0 : Int))[T]? = some 0 := by
         rw [List.getElem?_append_right (by rw [HPl.out]; exact Nat.le_refl _), HPl.out, Nat.sub_self, List.getElem?_replicate, if_pos (by omega)]
        have HGet := Lib.hid hget
        clear hset hwd hK hget HBk
        go_wp2_with fail
        refine (HWk.out _).mono ?_
        rintro e w5 ⟨rfl, hb5⟩
        have B5 := HBk2.out.below hb5 HBk2.out.lt
        have hb15 := hb.trans (hb5.mono hb.size)
        have k1 := B5.cell T
        rw [List.getElem?_toArray, List.getElem?_map, HGet.out, Option.map_some] at k1
        have f1 := B5.frozen T
        have HB5 := Lib.hid B5
        clear B5
        go_wp2
        have hB6 : Blk (w5.setCell ⟨w.heap.size, T, none⟩ (.int .u64 wd)) w.heap.size 40 ((layW os M).map (Value.int .u64)).toArray := by
         have h2 := HB5.out.set_ T (.int .u64 wd)
         rw [List.setIfInBounds_toArray, ← List.map_set, HSet.out] at h2
         exact h2
        go_ret2
        exact ⟨hb15.setCell (p := ⟨w.heap.size, T, none⟩) (Nat.le_refl _) _, .inl ⟨M, some ⟨w.heap.size, 0, none⟩, M, rfl, HOK.out, rfl, HFin.out _ hB6⟩⟩
       ·have hTM2 : T = M := by omega
        have hB6 : Hid (Blk wr w.heap.size 40 ((layW os M).map (Value.int .u64)).toArray) := by
         show Blk _ _ _ _
         have h2 := HBk.out
         have e1 : M - T = 0 := by omega
         rw [e1] at h2
         rw [HLw.out, e1]
         exact h2
        have hd2 : decide (T < M) = false := decide_eq_false hlt2
        clear hTM2 HBk
        go_wp2
        go_ret2
        exact ⟨hb, .inl ⟨M, some ⟨w.heap.size, 0, none⟩, M, rfl, HOK.out, rfl, HFin.out _ hB6.out⟩⟩
end Go.Proofs.YtblkhipbhahmeaaGreatDoor
