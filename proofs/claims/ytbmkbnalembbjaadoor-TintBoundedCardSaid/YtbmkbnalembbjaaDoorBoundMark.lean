/-
  package tint: the marker's mark.
-/
import Derived.Test.YtbmkbnalembbjaaDoorBoundHas
import Derived.Deep.CutRange
import Derived.Deep.RegionHeld3
namespace Go.Proofs.YtbmkbnalembbjaaDoor
open Go.RowKit

/-- Behind the marking: the marks are set; the rest is as it was. -/
def MarkCut (w0 : World) (gh nm : Nat) (S : List Spot) (room : Nat) (st : Mk) (k : Nat) (As : Option Addr) (cs : Nat) (w : World) : Prop :=
  ∃ (Am : Option Addr) (cm : Nat) (m : List Int),
    Blk w w0.heap.size 49 #[.pointer (some ⟨gh, 0, none⟩), .int .i64 room, .slice As st.stack.length cs, .bool st.over, .slice Am nm cm, .int .i64 st.passes, .int .i64 st.deep] ∧
    w.ownsRow (w0.heap.size + 1) 3 1 (.slice As st.stack.length cs) st.stack.length (st.stack.map (.int .i64)) ∧
    w.ownsRow (w0.heap.size + 1) 41 1 (.slice Am nm cm) nm (m.map (.int .u64)) ∧
    m.length = nm ∧ U64s m ∧ MarksOf S (st.M ++ [(k : Int)]) m ∧ Below w0.heap.size w0 w
theorem MarkCut.of {w0 w : World} {gh nm room k : Nat} {S : List Spot} {st : Mk} {As Am A2 : Option Addr} {cs cm c2 : Nat} {m : List Int}
    (h1 : Blk w w0.heap.size 49 #[.pointer (some ⟨gh, 0, none⟩), .int .i64 room, .slice As st.stack.length cs, .bool st.over, .slice Am nm cm, .int .i64 st.passes, .int .i64 st.deep])
    (h2 : w.ownsRow (w0.heap.size + 1) 3 1 (.slice As st.stack.length cs) st.stack.length (st.stack.map (.int .i64)))
    (h3 : w.ownsRow (w0.heap.size + 1) 41 1 (.slice A2 nm c2) nm (m.map (.int .u64)))
    (h4 : m.length = nm) (h5 : U64s m) (h6 : MarksOf S (st.M ++ [(k : Int)]) m) (h7 : Below w0.heap.size w0 w) : MarkCut w0 gh nm S room st k As cs (w.setCell ⟨w0.heap.size, 4, none⟩ (.slice A2 nm c2)) :=
  ⟨A2, c2, m, by simpa using h1.set_ 4 (.slice A2 nm c2), own_far h2 (by dsimp only; omega) _, own_far h3 (by dsimp only; omega) _, h4, h5, h6, h7.setCell (p := ⟨w0.heap.size, 4, none⟩) (Nat.le_refl _) _⟩

/-- Behind the push: the stack has one more; how deep is not yet told. -/
def PushCut (w0 : World) (gh nm : Nat) (S : List Spot) (room : Nat) (st : Mk) (k : Nat) (w : World) : Prop :=
  ∃ (As : Option Addr) (cs : Nat) (Am : Option Addr) (cm : Nat) (m : List Int),
    Blk w w0.heap.size 49 #[.pointer (some ⟨gh, 0, none⟩), .int .i64 room, .slice As (st.stack.length + 1) cs, .bool st.over, .slice Am nm cm, .int .i64 st.passes, .int .i64 st.deep] ∧
    w.ownsRow (w0.heap.size + 1) 3 1 (.slice As (st.stack.length + 1) cs) (st.stack.length + 1) ((st.stack ++ [(k : Int)]).map (.int .i64)) ∧
    w.ownsRow (w0.heap.size + 1) 41 1 (.slice Am nm cm) nm (m.map (.int .u64)) ∧
    m.length = nm ∧ U64s m ∧ MarksOf S (st.M ++ [(k : Int)]) m ∧ Below w0.heap.size w0 w
set_option maxRecDepth 100000 in
set_option maxHeartbeats 2000000 in
theorem mkMark_any (w0 : World) (gh b : Nat) (A Ah : Option Addr) (n c kh ch : Nat) (a : List Int) (HO : HeapOk w0 gh b A Ah n c kh ch a) (nm room : Nat) (hnm : nm = (n + 63) / 64) (hrm : room ≤ 256) (st : Mk) (w : World) (h : MarkSt w0 gh nm (spotsL a) room st w)
    (hM : ∀ x ∈ st.M, x ∈ begsL (spotsL a)) (hst : st.stack.length ≤ room) (k : Nat) (hk : (k : Int) ∈ begsL (spotsL a)) :
    Calls Tryd.prog 16 #[.pointer (some ⟨w0.heap.size, 0, none⟩), .int .i64 k] w fun e w' => e = .returned (.tuple #[]) ∧ MarkSt w0 gh nm (spotsL a) room (st.mark room k) w' := by
  have HHas := mkHas_any w0 gh b A Ah n c kh ch a HO nm room hnm st w h hM k hk
  by_cases hm : (k : Int) ∈ st.M
  · rw [decide_eq_true hm] at HHas
    have HHas := Lib.hid HHas
    have hmk : st.mark room k = st := by unfold Mk.mark; rw [if_pos hm]
    rw [hmk]
    have HS := Lib.hid h
    clear h hM hk HO hmk
    go_enter Tryd.func16, Tryd.ntmps16
    go_wp2_with fail
    refine HHas.out.mono ?_
    rintro e w1 ⟨rfl, q, rfl⟩
    go_wp2
    refine bodyPost_ret (results_none rfl _ _ _) rfl ?_
    exact ⟨rfl, HS.out.drewN q⟩
  · rw [decide_eq_false hm] at HHas
    have HHas := Lib.hid HHas
    obtain ⟨s, hs⟩ := begsL_iff.1 hk
    obtain ⟨s1, s2, s3⟩ := spotAt_some hs
    have h0 := HO.spots
    have sok := (parse_mem (parse_ok h0).2 s s1).1
    have sp := long_pos sok
    have sf := sok.fits
    have hal := HO.len
    have hn := HO.few
    obtain ⟨N, hN⟩ : ∃ N : Nat, s.long = N := ⟨s.long.toNat, by omega⟩
    have HLg := fun w (hB : Blk w gh 53 #[.slice A n c, .map (some b), .slice Ah kh ch]) hM2 => long_any gh b A Ah n c kh ch a (spotsL a) s w hB hM2 (by rw [s3]; exact hs) sok (by omega)
    rw [s3, hN] at HLg
    have HLg := Lib.hid HLg
    have HLW : Hid ((N : Int) = longW (spotsL a) k) := by show _ = _; rw [longW_of hs, hN]
    obtain ⟨As, cs, Am, cm, m, h1, h2, h3, h4, h5, h6, h7⟩ := h
    have hchk := marks_chk h0 hal hn hnm h4 h5 h6 hM
    have HSet := Lib.hid (fun w hr => mSet_ok Am nm cm m n k N true w hr h5 (mstE_of hchk (by omega)))
    have H6 := Lib.hid h6
    have H4 := Lib.hid h4
    have hB := HO.blk.below h7 HO.blk.lt
    have hMp := HO.map.below h7 HO.map.lt
    have HM0 := Lib.hid hm
    have HGl := Lib.hid HO.blk.lt
    have HHal := Lib.hid hal
    clear hM hk hs s1 s2 s3 sok sp sf hchk hal hn h0 HO h4 h5 h6 hm hN hnm
    go_enter Tryd.func16, Tryd.ntmps16
    go_wp2_with fail
    refine HHas.out.mono ?_
    rintro e w1 ⟨rfl, q, hq⟩
    have hbq0 := below_drewN (Below.refl w.heap.size w) q
    rw [← hq] at hbq0
    have h1 := h1.below hbq0 h1.lt
    have h2 := own_below h2 hbq0
    have h3 := own_below h3 hbq0
    have h7 := below_step h7 hbq0
    have hB := hB.below hbq0 hB.lt
    have hMp := hMp.below hbq0 hMp.lt
    clear hq hbq0
    go_upto_region 1 with fail
    go_cut [] from 7 to 72 (fun wc => MarkCut w0 gh nm (spotsL a) room st k As cs wc)
    case first =>
      have hbq := (Below.refl w1.heap.size w1).drew
      have H1 : Blk w1.drew w0.heap.size 49 #[.pointer (some ⟨gh, 0, none⟩), .int .i64 room, .slice As st.stack.length cs, .bool st.over, .slice Am nm cm, .int .i64 st.passes, .int .i64 st.deep] := h1
      have H2 := own_below h2 hbq
      have H3 := own_below h3 hbq
      have H7 := below_step h7 hbq
      have HBw : Blk w1.drew gh 53 #[.slice A n c, .map (some b), .slice Ah kh ch] := hB
      have HMw := hMp.below hbq hMp.lt
      have k0 := HBw.cell 0
      have m0 := H1.cell 0
      have m4 := H1.cell 4
      simp only [List.getElem?_toArray, List.getElem?_cons_zero, List.getElem?_cons_succ] at k0 m0 m4
      have ne1 : w0.heap.size ≠ gh := by have := HGl.out; omega
      have ne2 : gh ≠ w0.heap.size := fun h => ne1 h.symm
      refine wp_region_held_drew (S := fun w' => w'.cell? ⟨w0.heap.size, 0, none⟩ = some (.pointer (some ⟨gh, 0, none⟩)) ∧ w'.cell? ⟨gh, 0, none⟩ = some (.slice A n c)) (by kernel_rfl) ⟨m0, k0⟩ (fun hHeld => ?_)
      refine wpAnyH_take (i := 0) (v := .pointer (some ⟨w0.heap.size, 0, none⟩)) (List.getElem?_toArray.trans rfl) (by kernel_rfl) (by kernel_rfl) (by kernel_rfl) (fun _ _ _ h => h) (Or.inl ⟨by rfl, fun w _ => by go_simp⟩) hHeld ?_
      try simp only [Act.put, List.setIfInBounds_toArray, List.set_cons_zero, List.set_cons_succ]
      refine wpAnyH_take (i := 1) (v := .pointer (some ⟨w0.heap.size, 0, none⟩)) (List.getElem?_toArray.trans rfl) (by kernel_rfl) (by kernel_rfl) (by kernel_rfl) (fun _ _ _ h => h) (Or.inl ⟨by rfl, fun w _ => by go_simp⟩) hHeld ?_
      try simp only [Act.put, List.setIfInBounds_toArray, List.set_cons_zero, List.set_cons_succ]
      refine wpAnyH_take (i := 2) (v := .pointer (some ⟨w0.heap.size, 0, none⟩)) (List.getElem?_toArray.trans rfl) (by kernel_rfl) (by kernel_rfl) (by kernel_rfl) (fun _ _ _ h => h) (Or.inl ⟨by rfl, fun w _ => by go_simp⟩) hHeld ?_
      try simp only [Act.put, List.setIfInBounds_toArray, List.set_cons_zero, List.set_cons_succ]
      refine wpAnyH_take (i := 3) (v := .pointer (some ⟨w0.heap.size, 4, none⟩)) (List.getElem?_toArray.trans rfl) (by kernel_rfl) (by kernel_rfl) (by kernel_rfl) (fun _ _ _ h => h) (Or.inl ⟨by rfl, fun w _ => by go_simp⟩) hHeld ?_
      try simp only [Act.put, List.setIfInBounds_toArray, List.set_cons_zero, List.set_cons_succ]
      refine wpAnyH_take (i := 4) (v := .pointer (some ⟨w0.heap.size, 4, none⟩)) (List.getElem?_toArray.trans rfl) (by kernel_rfl) (by kernel_rfl) (by kernel_rfl) (fun _ _ _ h => h) (Or.inl ⟨by rfl, fun w _ => by go_simp⟩) hHeld ?_
      try simp only [Act.put, List.setIfInBounds_toArray, List.set_cons_zero, List.set_cons_succ]
      refine wpAnyH_take (i := 6) (v := .pointer (some ⟨w0.heap.size, 0, none⟩)) (List.getElem?_toArray.trans rfl) (by kernel_rfl) (by kernel_rfl) (by kernel_rfl) (fun _ _ _ h => h) (Or.inl ⟨by rfl, fun w _ => by go_simp⟩) hHeld ?_
      try simp only [Act.put, List.setIfInBounds_toArray, List.set_cons_zero, List.set_cons_succ]
      refine wpAnyH_take (i := 7) (v := .pointer (some ⟨w0.heap.size, 0, none⟩)) (List.getElem?_toArray.trans rfl) (by kernel_rfl) (by kernel_rfl) (by kernel_rfl) (fun _ _ _ h => h) (Or.inl ⟨by rfl, fun w _ => by go_simp⟩) hHeld ?_
      try simp only [Act.put, List.setIfInBounds_toArray, List.set_cons_zero, List.set_cons_succ]
      refine wpAnyH_take (i := 8) (v := .pointer (some ⟨w0.heap.size, 0, none⟩)) (List.getElem?_toArray.trans rfl) (by kernel_rfl) (by kernel_rfl) (by kernel_rfl) (fun _ _ _ h => h) (Or.inl ⟨by rfl, fun w _ => by go_simp⟩) hHeld ?_
      try simp only [Act.put, List.setIfInBounds_toArray, List.set_cons_zero, List.set_cons_succ]
      refine wpAnyH_take (i := 9) (v := .pointer (some ⟨gh, 0, none⟩)) (List.getElem?_toArray.trans rfl) (by kernel_rfl) (by kernel_rfl) (by kernel_rfl) (fun _ _ _ h => h) (Or.inl ⟨by rfl, fun w _ => by go_simp⟩) hHeld ?_
      try simp only [Act.put, List.setIfInBounds_toArray, List.set_cons_zero, List.set_cons_succ]
      refine wpAnyH_take (i := 10) (v := .pointer (some ⟨gh, 0, none⟩)) (List.getElem?_toArray.trans rfl) (by kernel_rfl) (by kernel_rfl) (by kernel_rfl) (fun _ _ _ h => h) (Or.inl ⟨by rfl, fun w _ => by go_simp⟩) hHeld ?_
      try simp only [Act.put, List.setIfInBounds_toArray, List.set_cons_zero, List.set_cons_succ]
      refine wpAnyH_take (i := 11) (v := .pointer (some ⟨gh, 0, none⟩)) (List.getElem?_toArray.trans rfl) (by kernel_rfl) (by kernel_rfl) (by kernel_rfl) (fun _ _ _ h => h) (Or.inl ⟨by rfl, fun w _ => by go_simp⟩) hHeld ?_
      try simp only [Act.put, List.setIfInBounds_toArray, List.set_cons_zero, List.set_cons_succ]
      refine wpAnyH_take (i := 12) (v := .slice A n c) (List.getElem?_toArray.trans rfl) (by kernel_rfl) (by kernel_rfl) (by kernel_rfl) (fun _ _ _ h => h) (Or.inl ⟨by rfl, fun w _ => by go_simp⟩) hHeld ?_
      try simp only [Act.put, List.setIfInBounds_toArray, List.set_cons_zero, List.set_cons_succ]
      refine wpAnyH_take (i := 13) (v := .int .i64 n) (List.getElem?_toArray.trans rfl) (by kernel_rfl) (by kernel_rfl) (by kernel_rfl) (fun _ _ _ h => h) (Or.inl ⟨by rfl, fun w _ => by go_simp⟩) hHeld ?_
      try simp only [Act.put, List.setIfInBounds_toArray, List.set_cons_zero, List.set_cons_succ]
      refine wpAnyH_take (i := 14) (v := .int .i64 k) (List.getElem?_toArray.trans rfl) (by kernel_rfl) (by kernel_rfl) (by kernel_rfl) (fun _ _ _ h => h) (Or.inl ⟨by rfl, fun w _ => by go_simp⟩) hHeld ?_
      try simp only [Act.put, List.setIfInBounds_toArray, List.set_cons_zero, List.set_cons_succ]
      refine wpAnyH_take (i := 15) (v := .pointer (some ⟨w0.heap.size, 0, none⟩)) (List.getElem?_toArray.trans rfl) (by kernel_rfl) (by kernel_rfl) (by kernel_rfl) (fun _ _ _ h => h) (Or.inl ⟨by rfl, fun w _ => by go_simp⟩) hHeld ?_
      try simp only [Act.put, List.setIfInBounds_toArray, List.set_cons_zero, List.set_cons_succ]
      refine wpAnyH_take (i := 16) (v := .pointer (some ⟨w0.heap.size, 0, none⟩)) (List.getElem?_toArray.trans rfl) (by kernel_rfl) (by kernel_rfl) (by kernel_rfl) (fun _ _ _ h => h) (Or.inl ⟨by rfl, fun w _ => by go_simp⟩) hHeld ?_
      try simp only [Act.put, List.setIfInBounds_toArray, List.set_cons_zero, List.set_cons_succ]
      refine wpAnyH_take (i := 17) (v := .pointer (some ⟨w0.heap.size, 0, none⟩)) (List.getElem?_toArray.trans rfl) (by kernel_rfl) (by kernel_rfl) (by kernel_rfl) (fun _ _ _ h => h) (Or.inl ⟨by rfl, fun w _ => by go_simp⟩) hHeld ?_
      try simp only [Act.put, List.setIfInBounds_toArray, List.set_cons_zero, List.set_cons_succ]
      refine wpAnyH_take (i := 18) (v := .pointer (some ⟨gh, 0, none⟩)) (List.getElem?_toArray.trans rfl) (by kernel_rfl) (by kernel_rfl) (by kernel_rfl) (fun _ _ _ h => h) (Or.inl ⟨by rfl, fun w _ => by go_simp⟩) hHeld ?_
      try simp only [Act.put, List.setIfInBounds_toArray, List.set_cons_zero, List.set_cons_succ]
      refine wpAnyH_take (i := 19) (v := .int .i64 k) (List.getElem?_toArray.trans rfl) (by kernel_rfl) (by kernel_rfl) (by kernel_rfl) (fun _ _ _ h => h) (Or.inl ⟨by rfl, fun w _ => by go_simp⟩) hHeld ?_
      try simp only [Act.put, List.setIfInBounds_toArray, List.set_cons_zero, List.set_cons_succ]
      refine wpAnyH_ready (rs := [5, 20]) (by kernel_rfl) (by simp) (AllReadyH.cons (List.getElem?_toArray.trans rfl) (fun K hK => ?_) (AllReadyH.cons (List.getElem?_toArray.trans rfl) (fun K hK => ?_) AllReadyH.nil))
      · go_simp
        refine hK.out _ _ (by first | exact ⟨m0, k0⟩ | go_keep) (fun hHeld => ?_)
        clear hK K
        try simp only [Act.put, List.setIfInBounds_toArray, List.set_cons_zero, List.set_cons_succ]
        refine wpAnyH_ready (rs := [20]) (by kernel_rfl) (by simp) (AllReadyH.cons (List.getElem?_toArray.trans rfl) (fun K hK => ?_) AllReadyH.nil)
        go_simp
        go_at_call 22
        with_reducible refine (HLg.out _ HBw HMw).mono ?_
        rintro e wA ⟨rfl, hbA⟩
        have H1 := H1.below hbA H1.lt
        have H2 := own_below H2 hbA
        have H3 := own_below H3 hbA
        have H7 := below_step H7 hbA
        have HBw := HBw.below hbA HBw.lt
        have k0 := HBw.cell 0
        have m0 := H1.cell 0
        have m4 := H1.cell 4
        simp only [List.getElem?_toArray, List.getElem?_cons_zero, List.getElem?_cons_succ] at k0 m0 m4
        refine hK.out _ _ (by first | exact ⟨m0, k0⟩ | go_keep) (fun hHeld => ?_)
        clear hK K
        try simp only [Act.put, List.setIfInBounds_toArray, List.set_cons_zero, List.set_cons_succ]
        refine wpAnyH_ready (rs := [21]) (by kernel_rfl) (by simp) (AllReadyH.cons (List.getElem?_toArray.trans rfl) (fun K hK => ?_) AllReadyH.nil)
        go_simp
        go_at_call 31
        with_reducible refine (HSet.out _ (Reads.of_own H3)).mono ?_
        rintro e wS ⟨hbS, A2, c2, m2, rfl, H3, hl2, hu2, hk2⟩
        have hH1s := Nat.succ_le_of_lt H1.lt
        have H1 := H1.below hbS H1.lt
        have H2 := own_below H2 hbS
        have H3 := own_mono (base := w0.heap.size + 1) H3 hH1s
        have H7 := below_step H7 hbS
        have HBw := HBw.below hbS HBw.lt
        have k0 := HBw.cell 0
        have m0 := H1.cell 0
        have f4 := H1.frozen 4
        have m4 := H1.cell 4
        simp only [List.getElem?_toArray, List.getElem?_cons_zero, List.getElem?_cons_succ] at k0 m0 m4
        refine hK.out _ _ (by first | exact ⟨m0, k0⟩ | go_keep) (fun hHeld => ?_)
        clear hK K
        try simp only [Act.put, List.setIfInBounds_toArray, List.set_cons_zero, List.set_cons_succ]
        refine wpAnyH_take (i := 22) (v := .tuple #[.slice A2 nm c2, .int .i64 0]) (List.getElem?_toArray.trans rfl) (by kernel_rfl) (by kernel_rfl) (by kernel_rfl) (fun _ _ _ h => h) (Or.inl ⟨by rfl, fun w _ => by go_simp⟩) hHeld ?_
        try simp only [Act.put, List.setIfInBounds_toArray, List.set_cons_zero, List.set_cons_succ]
        refine wpAnyH_take (i := 23) (v := .slice A2 nm c2) (List.getElem?_toArray.trans rfl) (by kernel_rfl) (by kernel_rfl) (by kernel_rfl) (fun _ _ _ h => h) (Or.inl ⟨by rfl, fun w _ => by go_simp⟩) hHeld ?_
        try simp only [Act.put, List.setIfInBounds_toArray, List.set_cons_zero, List.set_cons_succ]
        refine wpAnyH_take (i := 24) (v := .int .i64 0) (List.getElem?_toArray.trans rfl) (by kernel_rfl) (by kernel_rfl) (by kernel_rfl) (fun _ _ _ h => h) (Or.inl ⟨by rfl, fun w _ => by go_simp⟩) hHeld ?_
        try simp only [Act.put, List.setIfInBounds_toArray, List.set_cons_zero, List.set_cons_succ]
        refine wpAnyH_take (i := 25) (v := .pointer (some ⟨w0.heap.size, 0, none⟩)) (List.getElem?_toArray.trans rfl) (by kernel_rfl) (by kernel_rfl) (by kernel_rfl) (fun _ _ _ h => h) (Or.inl ⟨by rfl, fun w _ => by go_simp⟩) hHeld ?_
        try simp only [Act.put, List.setIfInBounds_toArray, List.set_cons_zero, List.set_cons_succ]
        refine wpAnyH_take (i := 26) (v := .pointer (some ⟨w0.heap.size, 4, none⟩)) (List.getElem?_toArray.trans rfl) (by kernel_rfl) (by kernel_rfl) (by kernel_rfl) (fun _ _ _ h => h) (Or.inl ⟨by rfl, fun w _ => by go_simp⟩) hHeld ?_
        try simp only [Act.put, List.setIfInBounds_toArray, List.set_cons_zero, List.set_cons_succ]
        refine wpAnyH_take (i := 27) (v := .pointer (some ⟨w0.heap.size, 4, none⟩)) (List.getElem?_toArray.trans rfl) (by kernel_rfl) (by kernel_rfl) (by kernel_rfl) (fun _ _ _ h => h) (Or.inl ⟨by rfl, fun w _ => by go_simp⟩) hHeld ?_
        try simp only [Act.put, List.setIfInBounds_toArray, List.set_cons_zero, List.set_cons_succ]
        refine wpAnyH_ready (rs := [28]) (by kernel_rfl) (by simp) (AllReadyH.cons (List.getElem?_toArray.trans rfl) (fun K hK => ?_) AllReadyH.nil)
        go_simp
        have HF := Lib.hid (MarkCut.of H1 H2 H3 (hl2.trans H4.out) hu2 (H6.out.snoc HLW.out hk2) H7)
        refine hK.out _ _ ⟨by have := (H1.set_ 4 (.slice A2 nm c2)).cell 0; simpa using this, by have := (HBw.far (p := ⟨w0.heap.size, 4, none⟩) ne2 (.slice A2 nm c2)).cell 0; simpa using this⟩ (fun hHeld => ?_)
        clear hK K
        try simp only [Act.put, List.setIfInBounds_toArray, List.set_cons_zero, List.set_cons_succ]
        refine wpAnyH_done (by kernel_rfl) ?_ _
        go_wp2_with fail
        go_meet
        exact HF.out
      · go_simp
        go_at_call 22
        with_reducible refine (HLg.out _ HBw HMw).mono ?_
        rintro e wA ⟨rfl, hbA⟩
        have H1 := H1.below hbA H1.lt
        have H2 := own_below H2 hbA
        have H3 := own_below H3 hbA
        have H7 := below_step H7 hbA
        have HBw := HBw.below hbA HBw.lt
        have k0 := HBw.cell 0
        have m0 := H1.cell 0
        have m4 := H1.cell 4
        simp only [List.getElem?_toArray, List.getElem?_cons_zero, List.getElem?_cons_succ] at k0 m0 m4
        refine hK.out _ _ (by first | exact ⟨m0, k0⟩ | go_keep) (fun hHeld => ?_)
        clear hK K
        try simp only [Act.put, List.setIfInBounds_toArray, List.set_cons_zero, List.set_cons_succ]
        refine wpAnyH_ready (rs := [5]) (by kernel_rfl) (by simp) (AllReadyH.cons (List.getElem?_toArray.trans rfl) (fun K hK => ?_) AllReadyH.nil)
        go_simp
        refine hK.out _ _ (by first | exact ⟨m0, k0⟩ | go_keep) (fun hHeld => ?_)
        clear hK K
        try simp only [Act.put, List.setIfInBounds_toArray, List.set_cons_zero, List.set_cons_succ]
        refine wpAnyH_ready (rs := [21]) (by kernel_rfl) (by simp) (AllReadyH.cons (List.getElem?_toArray.trans rfl) (fun K hK => ?_) AllReadyH.nil)
        go_simp
        go_at_call 31
        with_reducible refine (HSet.out _ (Reads.of_own H3)).mono ?_
        rintro e wS ⟨hbS, A2, c2, m2, rfl, H3, hl2, hu2, hk2⟩
        have hH1s := Nat.succ_le_of_lt H1.lt
        have H1 := H1.below hbS H1.lt
        have H2 := own_below H2 hbS
        have H3 := own_mono (base := w0.heap.size + 1) H3 hH1s
        have H7 := below_step H7 hbS
        have HBw := HBw.below hbS HBw.lt
        have k0 := HBw.cell 0
        have m0 := H1.cell 0
        have f4 := H1.frozen 4
        have m4 := H1.cell 4
        simp only [List.getElem?_toArray, List.getElem?_cons_zero, List.getElem?_cons_succ] at k0 m0 m4
        refine hK.out _ _ (by first | exact ⟨m0, k0⟩ | go_keep) (fun hHeld => ?_)
        clear hK K
        try simp only [Act.put, List.setIfInBounds_toArray, List.set_cons_zero, List.set_cons_succ]
        refine wpAnyH_take (i := 22) (v := .tuple #[.slice A2 nm c2, .int .i64 0]) (List.getElem?_toArray.trans rfl) (by kernel_rfl) (by kernel_rfl) (by kernel_rfl) (fun _ _ _ h => h) (Or.inl ⟨by rfl, fun w _ => by go_simp⟩) hHeld ?_
        try simp only [Act.put, List.setIfInBounds_toArray, List.set_cons_zero, List.set_cons_succ]
        refine wpAnyH_take (i := 23) (v := .slice A2 nm c2) (List.getElem?_toArray.trans rfl) (by kernel_rfl) (by kernel_rfl) (by kernel_rfl) (fun _ _ _ h => h) (Or.inl ⟨by rfl, fun w _ => by go_simp⟩) hHeld ?_
        try simp only [Act.put, List.setIfInBounds_toArray, List.set_cons_zero, List.set_cons_succ]
        refine wpAnyH_take (i := 24) (v := .int .i64 0) (List.getElem?_toArray.trans rfl) (by kernel_rfl) (by kernel_rfl) (by kernel_rfl) (fun _ _ _ h => h) (Or.inl ⟨by rfl, fun w _ => by go_simp⟩) hHeld ?_
        try simp only [Act.put, List.setIfInBounds_toArray, List.set_cons_zero, List.set_cons_succ]
        refine wpAnyH_take (i := 25) (v := .pointer (some ⟨w0.heap.size, 0, none⟩)) (List.getElem?_toArray.trans rfl) (by kernel_rfl) (by kernel_rfl) (by kernel_rfl) (fun _ _ _ h => h) (Or.inl ⟨by rfl, fun w _ => by go_simp⟩) hHeld ?_
        try simp only [Act.put, List.setIfInBounds_toArray, List.set_cons_zero, List.set_cons_succ]
        refine wpAnyH_take (i := 26) (v := .pointer (some ⟨w0.heap.size, 4, none⟩)) (List.getElem?_toArray.trans rfl) (by kernel_rfl) (by kernel_rfl) (by kernel_rfl) (fun _ _ _ h => h) (Or.inl ⟨by rfl, fun w _ => by go_simp⟩) hHeld ?_
        try simp only [Act.put, List.setIfInBounds_toArray, List.set_cons_zero, List.set_cons_succ]
        refine wpAnyH_take (i := 27) (v := .pointer (some ⟨w0.heap.size, 4, none⟩)) (List.getElem?_toArray.trans rfl) (by kernel_rfl) (by kernel_rfl) (by kernel_rfl) (fun _ _ _ h => h) (Or.inl ⟨by rfl, fun w _ => by go_simp⟩) hHeld ?_
        try simp only [Act.put, List.setIfInBounds_toArray, List.set_cons_zero, List.set_cons_succ]
        refine wpAnyH_ready (rs := [28]) (by kernel_rfl) (by simp) (AllReadyH.cons (List.getElem?_toArray.trans rfl) (fun K hK => ?_) AllReadyH.nil)
        go_simp
        have HF := Lib.hid (MarkCut.of H1 H2 H3 (hl2.trans H4.out) hu2 (H6.out.snoc HLW.out hk2) H7)
        refine hK.out _ _ ⟨by have := (H1.set_ 4 (.slice A2 nm c2)).cell 0; simpa using this, by have := (HBw.far (p := ⟨w0.heap.size, 4, none⟩) ne2 (.slice A2 nm c2)).cell 0; simpa using this⟩ (fun hHeld => ?_)
        clear hK K
        try simp only [Act.put, List.setIfInBounds_toArray, List.set_cons_zero, List.set_cons_succ]
        refine wpAnyH_done (by kernel_rfl) ?_ _
        go_wp2_with fail
        go_meet
        exact HF.out
    case rest =>
      obtain ⟨Am2, cm2, m2, g1, g2, g3, g4, g5, g6, g7⟩ := hcut
      obtain ⟨p, hp⟩ : ∃ p, p = st.stack.length := ⟨_, rfl⟩
      obtain ⟨dp, hdp⟩ : ∃ dp, dp = st.deep := ⟨_, rfl⟩
      have hpr : p ≤ room := by rw [hp]; exact hst
      rw [← hp] at g1 g2
      have HP := Lib.hid hp
      have HDp := Lib.hid hdp
      have c1 := g1.cell 1
      have c2 := g1.cell 2
      have f3 := g1.frozen 3
      have c3 := g1.cell 3
      simp only [List.getElem?_toArray, List.getElem?_cons_zero, List.getElem?_cons_succ] at c1 c2 c3
      clear hp hdp hst HHas HLg HSet hB hMp h1 h2 h3 h7 H6
      by_cases hr : p = room
      · have e1 : ((p : Int) == (room : Int)) = true := by
          rw [hr]
          exact beq_self_eq_true _
        have hmk : st.mark room k = ⟨st.stack, true, st.M ++ [(k : Int)], st.passes, st.deep⟩ := by unfold Mk.mark; rw [if_neg HM0.out, if_pos (by rw [← HP.out]; exact hr)]
        have HG : Hid (∀ q, MarkSt w0 gh nm (spotsL a) room (st.mark room k) ((wc.drewN q).setCell ⟨w0.heap.size, 3, none⟩ (.bool true))) := by
          intro q
          rw [hmk]
          have hbq := below_drewN (Below.refl wc.heap.size wc) q
          refine ⟨As, cs, Am2, cm2, m2, ?_, ?_, own_far (own_below g3 hbq) (by dsimp only; omega) _, g4, g5, g6, (below_drewN g7 q).setCell (p := ⟨w0.heap.size, 3, none⟩) (Nat.le_refl _) _⟩
          · show Blk _ _ _ #[_, _, .slice As st.stack.length cs, _, _, _, _]
            rw [← HP.out]
            simpa using (g1.drewN q).set_ 3 (.bool true)
          · show World.ownsRow _ _ _ _ (.slice As st.stack.length cs) st.stack.length _
            rw [← HP.out]
            exact own_far (own_below g2 hbq) (by dsimp only; omega) _
        clear hmk g1 g2 g3 g4 g5 g6 g7 hr
        go_wp2
        go_quiet (fail)
        go_wp2
        refine bodyPost_ret (results_none rfl _ _ _) rfl ?_
        exact ⟨rfl, HG.out _⟩
      · have e1 : ((p : Int) == (room : Int)) = false := by
          rw [beq_eq_false_iff_ne]
          omega
        have hmk := Lib.hid (show st.mark room k = ⟨st.stack ++ [(k : Int)], st.over, st.M ++ [(k : Int)], st.passes, max st.deep (st.stack.length + 1)⟩ by unfold Mk.mark; rw [if_neg HM0.out, if_neg (by rw [← HP.out]; exact hr)])
        have hp1 : p + 1 ≤ 256 := by omega
        obtain ⟨i0, hi, hz0, hz1, hz2⟩ := info_parts info_int
        clear hr
        go_wp2
        go_quiet (fail)
        go_upto_region 4 with fail
        go_cut [] from 48 to 72 (fun wc => PushCut w0 gh nm (spotsL a) room st k wc)
        case first =>
          have hbn := below_drewN (Below.refl wc.heap.size wc) nq
          obtain ⟨wd, hwd⟩ : ∃ x, x = wc.drewN nq := ⟨_, rfl⟩
          have g1 : Blk wd w0.heap.size 49 #[.pointer (some ⟨gh, 0, none⟩), .int .i64 room, .slice As p cs, .bool st.over, .slice Am2 nm cm2, .int .i64 st.passes, .int .i64 st.deep] := by rw [hwd]; exact g1.drewN nq
          have g2 : wd.ownsRow (w0.heap.size + 1) 3 1 (.slice As p cs) p (st.stack.map (.int .i64)) := by rw [hwd]; exact own_below g2 hbn
          have g3 : wd.ownsRow (w0.heap.size + 1) 41 1 (.slice Am2 nm cm2) nm (m2.map (.int .u64)) := by rw [hwd]; exact own_below g3 hbn
          have g7 : Below w0.heap.size w0 wd := by rw [hwd]; exact below_drewN g7 nq
          rw [← hwd]
          clear hwd c1 c2 c3 f3
          have hD2 := g1.alloc (.cells #[.int .i64 k] 3)
          have hO2 := g2.alloc (.cells #[.int .i64 k] 3)
          have hM2 := Lib.hid (g3.alloc (.cells #[.int .i64 k] 3))
          have hb2 := g7.alloc g7.size (.cells #[.int .i64 k] 3)
          have d2 := hD2.cell 2
          have c2 := g1.cell 2
          simp only [List.getElem?_toArray, List.getElem?_cons_zero, List.getElem?_cons_succ] at d2 c2
          have hls := g1.lt
          clear g1 g2 g3
          go_wp2_with (at_builtin; refine wpList_append_any _ rfl (.tmp 52) (.tmp 54) 23 rfl (w0.heap.size + 1) 3 i0 (.int .i64 0) 1 8 Tryd.underlying23 hi hz0 hz1 hz2 rfl (by decide) (.slice As p cs) p _ rfl hO2 (wd.heap.size + 1) (some ⟨wd.heap.size, 0, none⟩) 1 1 [.int .i64 k] rfl (reads_new wd [.int .i64 k] 3 1 1 rfl) (by simp [Value.oneCell']) (by unfold maxLen; omega) (by omega) (by simp; omega) ?_; rintro v' w3 hown3 hgr - -; obtain ⟨A5, c5, rfl⟩ := own_slice hown3; have hD3 := hD2.grown hgr (fun h => own_off hO2 (by omega) h.symm); have p2 := hD3.cell 2; have pf := hD3.frozen 2; simp only [List.getElem?_toArray, List.getElem?_cons_zero, List.getElem?_cons_succ] at p2)
          go_meet
          have hM3 := own_grown hM2.out hgr (fun g hg h => own_kinds hM2.out hO2 (by decide) hg h.symm.symm)
          have hb3 := hb2.grown hgr hb2.size (fun g hg => by have := (hO2.lt g hg).1; omega)
          refine ⟨A5, c5, Am2, cm2, m2, ?_, ?_, own_far hM3 (by dsimp only; omega) _, g4, g5, g6, hb3.setCell (p := ⟨w0.heap.size, 2, none⟩) (Nat.le_refl _) _⟩
          · have := hD3.set_ 2 (.slice A5 (p + 1) c5)
            rw [← HP.out]
            simpa using this
          · rw [← HP.out, List.map_append]
            exact own_far hown3 (by dsimp only; omega) _
        case rest =>
          obtain ⟨A5, c5, Am3, cm3, m3, k1, k2, k3, k4, k5, k6, k7⟩ := hcut
          rw [← HP.out, ← HDp.out] at k1
          rw [← HP.out] at k2
          have c2 := k1.cell 2
          have c6 := k1.cell 6
          have f6 := k1.frozen 6
          simp only [List.getElem?_toArray, List.getElem?_cons_zero, List.getElem?_cons_succ] at c2 c6
          have HG : Hid (MarkSt w0 gh nm (spotsL a) room (st.mark room k) (wc.setCell ⟨w0.heap.size, 6, none⟩ (.int .i64 ((max dp (p + 1) : Nat) : Int)))) := by
            rw [hmk.out]
            refine ⟨A5, c5, Am3, cm3, m3, ?_, ?_, own_far k3 (by dsimp only; omega) _, k4, k5, k6, k7.setCell (p := ⟨w0.heap.size, 6, none⟩) (Nat.le_refl _) _⟩
            · show Blk _ _ _ #[_, _, .slice A5 (st.stack ++ [(k : Int)]).length c5, _, _, _, .int .i64 ((max st.deep (st.stack.length + 1) : Nat) : Int)]
              rw [List.length_append, List.length_singleton, ← HP.out, ← HDp.out]
              simpa using k1.set_ 6 (.int .i64 ((max dp (p + 1) : Nat) : Int))
            · show World.ownsRow _ _ _ _ (.slice A5 (st.stack ++ [(k : Int)]).length c5) (st.stack ++ [(k : Int)]).length _
              rw [List.length_append, List.length_singleton, ← HP.out]
              exact own_far k2 (by dsimp only; omega) _
          clear k1 k2 k3 k4 k5 k6 k7 g1 g2 g3 g4 g5 g6 g7 hi hz0 hz1 hz2
          obtain ⟨P1, hP1⟩ : ∃ P1, P1 = p + 1 := ⟨_, rfl⟩
          rw [← hP1] at c2 HG hp1
          clear hP1 hpr
          obtain ⟨X, hX⟩ : ∃ X, X = max dp P1 := ⟨_, rfl⟩
          rw [← hX] at HG
          have hX2 : max (dp : Int) (P1 : Int) = (X : Int) := by omega
          have HX2 := Lib.hid hX2
          clear hX hX2
          go_wp2
          go_region
          go_wp2
          go_end0
          rw [HX2.out]
          exact ⟨rfl, HG.out.drewN 1⟩
end Go.Proofs.YtbmkbnalembbjaaDoor
