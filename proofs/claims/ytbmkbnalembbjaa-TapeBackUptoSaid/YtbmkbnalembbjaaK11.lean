/-
  Texts joined: TapeReadStore.
-/
import Derived.Test.YtbmkbnalembbjaaK10
namespace Go.Proofs.Ytbmkbnalembbjaa
open Go.RowKit
theorem i64N_wrap (m : Nat) : i64N m = IntKind.i64.wrap (m : Int) := (IntWalk.i64_left _).symm
theorem fR_wrap (m : Nat) : fR [m] = IntKind.i64.wrap (IntKind.i64.wrap (m : Int) - 1) := by
  rw [IntWalk.i64_left, ← i64N_wrap]
  rfl
theorem info_u64t : (Try.prog.info? 37).map (fun i => (i.zero, i.size, i.bytes)) = some (some (.int .u64 0), 1, 8) := by kernel_rfl
theorem info_intt : (Try.prog.info? 3).map (fun i => (i.zero, i.size, i.bytes)) = some (some (.int .i64 0), 1, 8) := by kernel_rfl
theorem info_pint : (Try.prog.info? 47).map (fun i => (i.zero, i.size, i.bytes)) = some (some (.agg #[.int .i64 0, .int .i64 0]), 2, 16) := by kernel_rfl
theorem info_slott : (Try.prog.info? 50).map (fun i => (i.zero, i.size, i.bytes)) = some (some (.agg #[.int .i64 0, .bool false, .int .i64 0]), 3, 24) := by kernel_rfl
set_option maxRecDepth 100000 in
set_option maxHeartbeats 8000000 in
theorem readStore_any (s : ByteArray) (w : World) (hs : s.size ≤ 16777216) :
    Calls Try.prog 11 #[.string s] w fun e w' => Below w.heap.size w w' ∧
      (((readS (bytesN s)).2 = ([], false) ∧ StOk (readS (bytesN s)).1 ∧ ∃ (A : Option Addr) (n c : Nat) (RA : Option Addr) (rn rc : Nat) (PA : Option Addr) (pn pc : Nat) (HA : Option Addr) (hn hc : Nat), e = .returned (.tuple #[.agg #[.slice A n c, .slice RA rn rc, .slice PA pn pc, .slice HA hn hc], .int .i64 0]) ∧ StO w' w.heap.size A n c RA rn rc PA pn pc HA hn hc (readS (bytesN s)).1) ∨
       (¬ ((readS (bytesN s)).2 = ([], false) ∧ StOk (readS (bytesN s)).1) ∧ e = .returned (.tuple #[.agg #[.slice none 0 0, .slice none 0 0, .slice none 0 0, .slice none 0 0], .int .i64 3]))) := by
  obtain ⟨i0, h0i, h00, h01, h02⟩ := info_parts info_u64t
  obtain ⟨i1, h1i, h10, h11, h12⟩ := info_parts info_intt
  obtain ⟨i2, h2i, h20, h21, h22⟩ := info_parts info_pint
  obtain ⟨i3, h3i, h30, h31, h32⟩ := info_parts info_slott
  obtain ⟨T, hT⟩ : ∃ T, T = bytesN s := ⟨_, rfl⟩
  have hTl : T.length ≤ 16777216 := by rw [hT, bytesN_length]; exact hs
  have D0 := (Blk.new w 29 #[.slice none 0 0, .slice none 0 0, .slice none 0 0, .slice none 0 0]).alloc (.cells #[.string s, .bool false] 80)
  have D1 := Blk.new (w.alloc (.cells #[.slice none 0 0, .slice none 0 0, .slice none 0 0, .slice none 0 0] 29)) 80 #[.string s, .bool false]
  rw [World.size_alloc] at D1
  have hb1 := (below_new w (.cells #[.slice none 0 0, .slice none 0 0, .slice none 0 0, .slice none 0 0] 29)).alloc (by simp) (.cells #[.string s, .bool false] 80)
  have hr1 : RdAt ((w.alloc (.cells #[.slice none 0 0, .slice none 0 0, .slice none 0 0, .slice none 0 0] 29)).alloc (.cells #[.string s, .bool false] 80)) (w.heap.size + 1) T false := ⟨s, D1, hT.symm, by omega⟩
  rw [← hT]
  obtain ⟨q1, hq1⟩ : ∃ q, q = cntR T false := ⟨_, rfl⟩
  obtain ⟨x1, L1, b1⟩ := q1
  obtain ⟨q2, hq2⟩ : ∃ q, q = cntR L1 b1 := ⟨_, rfl⟩
  obtain ⟨x2, L2, b2⟩ := q2
  obtain ⟨q3, hq3⟩ : ∃ q, q = cntR L2 b2 := ⟨_, rfl⟩
  obtain ⟨x3, L3, b3⟩ := q3
  obtain ⟨q4, hq4⟩ : ∃ q, q = cntR L3 b3 := ⟨_, rfl⟩
  obtain ⟨x4, M0, e0⟩ := q4
  have HC1 := Lib.hid (fun w hR => count_any (w.heap.size + 1) T false w hR)
  have hx : x1 ≤ 16777216 ∧ x2 ≤ 16777216 ∧ x3 ≤ 16777216 ∧ x4 ≤ 16777216 := by
    have a1 := cntR_le T false
    obtain ⟨P1, s1⟩ := cntR_suffix T false
    have a2 := cntR_le L1 b1
    obtain ⟨P2, s2⟩ := cntR_suffix L1 b1
    have a3 := cntR_le L2 b2
    obtain ⟨P3, s3⟩ := cntR_suffix L2 b2
    have a4 := cntR_le L3 b3
    obtain ⟨P4, s4⟩ := cntR_suffix L3 b3
    rw [← hq1] at a1 s1
    rw [← hq2] at a2 s2
    rw [← hq3] at a3 s3
    rw [← hq4] at a4 s4
    have t1 := congrArg List.length s1
    have t2 := congrArg List.length s2
    have t3 := congrArg List.length s3
    have t4 := congrArg List.length s4
    rw [List.length_append] at t1 t2 t3 t4
    dsimp only at a1 a2 a3 a4 t1 t2 t3 t4
    omega
  obtain ⟨hx1, hx2, hx3, hx4⟩ := hx
  have C1 := Lib.hid (fun w g hR => count_any g T false w hR)
  have C2 := Lib.hid (fun w g hR => count_any g L1 b1 w hR)
  have C3 := Lib.hid (fun w g hR => count_any g L2 b2 w hR)
  have C4 := Lib.hid (fun w g hR => count_any g L3 b3 w hR)
  rw [← hq1] at C1
  rw [← hq2] at C2
  rw [← hq3] at C3
  rw [← hq4] at C4
  have HRS : Hid (readS T = (⟨(recR 1 fA noBad x1 M0 e0).1, (recR 1 fR noBad x2 (recR 1 fA noBad x1 M0 e0).2.1 (recR 1 fA noBad x1 M0 e0).2.2).1, (recR 2 fP noBad x3 (recR 1 fR noBad x2 (recR 1 fA noBad x1 M0 e0).2.1 (recR 1 fA noBad x1 M0 e0).2.2).2.1 (recR 1 fR noBad x2 (recR 1 fA noBad x1 M0 e0).2.1 (recR 1 fA noBad x1 M0 e0).2.2).2.2).1, (recR 3 fH badH x4 (recR 2 fP noBad x3 (recR 1 fR noBad x2 (recR 1 fA noBad x1 M0 e0).2.1 (recR 1 fA noBad x1 M0 e0).2.2).2.1 (recR 1 fR noBad x2 (recR 1 fA noBad x1 M0 e0).2.1 (recR 1 fA noBad x1 M0 e0).2.2).2.2).2.1 (recR 2 fP noBad x3 (recR 1 fR noBad x2 (recR 1 fA noBad x1 M0 e0).2.1 (recR 1 fA noBad x1 M0 e0).2.2).2.1 (recR 1 fR noBad x2 (recR 1 fA noBad x1 M0 e0).2.1 (recR 1 fA noBad x1 M0 e0).2.2).2.2).2.2).1⟩, (recR 3 fH badH x4 (recR 2 fP noBad x3 (recR 1 fR noBad x2 (recR 1 fA noBad x1 M0 e0).2.1 (recR 1 fA noBad x1 M0 e0).2.2).2.1 (recR 1 fR noBad x2 (recR 1 fA noBad x1 M0 e0).2.1 (recR 1 fA noBad x1 M0 e0).2.2).2.2).2.1 (recR 2 fP noBad x3 (recR 1 fR noBad x2 (recR 1 fA noBad x1 M0 e0).2.1 (recR 1 fA noBad x1 M0 e0).2.2).2.1 (recR 1 fR noBad x2 (recR 1 fA noBad x1 M0 e0).2.1 (recR 1 fA noBad x1 M0 e0).2.2).2.2).2.2).2)) := by
    show _ = _
    unfold readS
    rw [← hq1]
    dsimp only
    rw [← hq2]
    dsimp only
    rw [← hq3]
    dsimp only
    rw [← hq4]
  clear hT hq1 hq2 hq3 hq4 D1 HC1 hs
  go_enter Try.func11, Try.ntmps11
  go_wp2_with fail
  refine (C1.out _ _ hr1).mono ?_
  rintro e w1 ⟨rfl, hr2, hg1⟩
  have D0 := D0.grown hg1 (by intro e; injection e with e; omega)
  have hb2 := hb1.grown hg1 hb1.size (fun g h => by injection h with h; omega)
  go_wp2_with fail
  refine (C2.out _ _ hr2).mono ?_
  rintro e w2 ⟨rfl, hr3, hg2⟩
  have D0 := D0.grown hg2 (by intro e; injection e with e; omega)
  have hb3 := hb2.grown hg2 hb2.size (fun g h => by injection h with h; omega)
  go_wp2_with fail
  refine (C3.out _ _ hr3).mono ?_
  rintro e w3 ⟨rfl, hr4, hg3⟩
  have D0 := D0.grown hg3 (by intro e; injection e with e; omega)
  have hb4 := hb3.grown hg3 hb3.size (fun g h => by injection h with h; omega)
  go_wp2_with fail
  refine (C4.out _ _ hr4).mono ?_
  rintro e w4 ⟨rfl, hr5, hg4⟩
  have D0 := D0.grown hg4 (by intro e; injection e with e; omega)
  have hb5 := hb4.grown hg4 hb4.size (fun g h => by injection h with h; omega)
  have hlt4 := hr5.lt
  have hst : RdSt w (w4.alloc (.cells #[.slice none 0 0, .slice none 0 0, .slice none 0 0, .slice none 0 0] 29)) w4.heap.size none 0 0 none 0 0 none 0 0 none 0 0 ⟨[], [], [], []⟩ M0 e0 :=
    ⟨hr5.alloc _, D0.alloc _, Blk.new w4 _ _, by omega, ⟨World.ownsRow_nil _ _ _ _, World.ownsRow_nil _ _ _ _, World.ownsRow_nil _ _ _ _, World.ownsRow_nil _ _ _ _⟩, hb5.alloc hb5.size _⟩
  have HSt := Lib.hid hst
  obtain ⟨gs, hgs⟩ : ∃ g, g = w4.heap.size := ⟨_, rfl⟩
  rw [← hgs] at HSt
  clear C1 C2 C3 C4 hr1 hr2 hr3 hr4 hr5 hg1 hg2 hg3 hg4 hb1 hb2 hb3 hb4 hb5 D0 hst hlt4
  go_wp2_with fail
  rw [← hgs]
  clear hgs
  go_loopw [25] (fun i wr => ∃ (j : Nat) (X0 : Option Addr) (d0 : Nat), j ≤ x1 ∧ i = .int .i64 j ∧ Hid (RdSt w wr gs X0 j d0 none 0 0 none 0 0 none 0 0 ⟨(recR 1 fA noBad j M0 e0).1, [], [], []⟩ (recR 1 fA noBad j M0 e0).2.1 (recR 1 fA noBad j M0 e0).2.2)) (fun i _ => x1 - (intOf i).toNat)
  case atStart => exact ⟨0, none, 0, by omega, rfl, HSt.out⟩
  case round =>
    obtain ⟨j, X0, d0, hj, rfl, HS⟩ := hrel
    by_cases hlt : j < x1
    · have HStep : Hid (recR 1 fA noBad (j + 1) M0 e0 = ((recR 1 fA noBad j M0 e0).1 ++ [fA [(numR (recR 1 fA noBad j M0 e0).2.1 (recR 1 fA noBad j M0 e0).2.2).1]], (numR (recR 1 fA noBad j M0 e0).2.1 (recR 1 fA noBad j M0 e0).2.2).2.1, (numR (recR 1 fA noBad j M0 e0).2.1 (recR 1 fA noBad j M0 e0).2.2).2.2)) := by
        show _ = _
        simp only [recR, numsR, noBad, Bool.or_false, List.nil_append, List.singleton_append, List.cons_append]
      generalize recR 1 fA noBad j M0 e0 = q at *
      have s0 := HS.out.drew
      have HN1 := Lib.hid (num_any (w.heap.size + 1) q.2.1 q.2.2 wr.drew s0.rd)
      generalize numR q.2.1 q.2.2 = r1 at *
      obtain ⟨m, L1', b1'⟩ := r1
      dsimp only at HN1 HStep
      have b0 := s0.box.cell 0
      have fb := s0.box.frozen 0
      simp only [List.getElem?_toArray, List.getElem?_cons_zero, List.getElem?_cons_succ] at b0
      go_wp2_with fail
      refine wp_region_held_drew (S := fun _ => True) (by kernel_rfl) trivial (fun hHeld => ?_)
      refine wpAnyH_take (i := 0) (v := .pointer (some ⟨gs, 0, none⟩)) (List.getElem?_toArray.trans rfl) (by kernel_rfl) (by kernel_rfl) (by kernel_rfl) (fun _ _ _ h => h) (Or.inl ⟨by rfl, fun w _ => by go_simp⟩) hHeld ?_
      try simp only [Act.put, List.setIfInBounds_toArray, List.set_cons_zero, List.set_cons_succ]
      refine wpAnyH_take (i := 2) (v := .pointer (some ⟨w.heap.size + 1, 0, none⟩)) (List.getElem?_toArray.trans rfl) (by kernel_rfl) (by kernel_rfl) (by kernel_rfl) (fun _ _ _ h => h) (Or.inl ⟨by rfl, fun w _ => by go_simp⟩) hHeld ?_
      try simp only [Act.put, List.setIfInBounds_toArray, List.set_cons_zero, List.set_cons_succ]
      refine wpAnyH_ready (rs := [1, 3]) (by kernel_rfl) (by simp) (AllReadyH.cons (List.getElem?_toArray.trans rfl) (fun K hK => ?_) (AllReadyH.cons (List.getElem?_toArray.trans rfl) (fun K hK => ?_) AllReadyH.nil))
      · go_simp
        refine hK.out _ _ trivial (fun hHeld => ?_)
        clear hK K
        try simp only [Act.put, List.setIfInBounds_toArray, List.set_cons_zero, List.set_cons_succ]
        refine wpAnyH_ready (rs := [3]) (by kernel_rfl) (by simp) (AllReadyH.cons (List.getElem?_toArray.trans rfl) (fun K hK => ?_) AllReadyH.nil)
        go_simp
        go_at_call 33
        with_reducible refine HN1.out.mono ?_; rintro e w4 ⟨rfl, hR4, hg4⟩
        have s4 := s0.num hg4 hR4
        have b4 := s4.box.cell 0
        simp only [List.getElem?_toArray, List.getElem?_cons_zero, List.getElem?_cons_succ] at b4
        refine hK.out _ _ trivial (fun hHeld => ?_)
        clear hK K
        try simp only [Act.put, List.setIfInBounds_toArray, List.set_cons_zero, List.set_cons_succ]
        refine wpAnyH_ready (rs := [4]) (by kernel_rfl) (by simp) (AllReadyH.cons (List.getElem?_toArray.trans rfl) (fun K hK => ?_) AllReadyH.nil)
        have s5 := s4.alloc (.cells #[.int .u64 m] 37)
        obtain ⟨v9, w9, hrun, hO9, hg9, -, -⟩ := run_append_any (P := Try.prog) (w4.alloc (.cells #[.int .u64 m] 37)) w.heap.size 23 23 37 i0 (.int .u64 0) 1 8 Try.underlying23 h0i h00 h01 h02 rfl (by decide) (.slice X0 j d0) j _ s5.own.a _ (some ⟨w4.heap.size, 0, none⟩) 1 1 [.int .u64 m] (reads_new w4 [.int .u64 m] 37 1 1 rfl) (by simp [Value.oneCell']) (by unfold maxLen; omega) (by omega) s5.hb.size
        obtain ⟨A9, c9, rfl⟩ := own_slice hO9
        have B9 := s5.box.grown hg9 (fun e => own_blk_ne s5.own.a s5.box (by decide) e.symm)
        have p9 := B9.cell 0
        have f9 := B9.frozen 0
        simp only [List.getElem?_toArray, List.getElem?_cons_zero, List.getElem?_cons_succ] at p9
        have b5 := s5.box.cell 0
        simp only [List.getElem?_toArray, List.getElem?_cons_zero, List.getElem?_cons_succ] at b5
        have s9 := s5.put0 (ys := q.1 ++ [fA [m]]) hg9 (by rw [List.map_append]; exact hO9)
        go_simp
        refine hK.out _ _ trivial (fun hHeld => ?_)
        clear hK K
        try simp only [Act.put, List.setIfInBounds_toArray, List.set_cons_zero, List.set_cons_succ]
        refine wpAnyH_ready (rs := [5]) (by kernel_rfl) (by simp) (AllReadyH.cons (List.getElem?_toArray.trans rfl) (fun K hK => ?_) AllReadyH.nil)
        refine step_append_run rfl (.tmp 28) (.tmp 31) 23 23 rfl (.slice X0 j d0) (.slice (some ⟨w4.heap.size, 0, none⟩) 1 1) (by simp [Act.eval]) (by simp [Act.eval]) hrun ?_
        refine hK.out _ _ trivial (fun hHeld => ?_)
        clear hK K
        try simp only [Act.put, List.setIfInBounds_toArray, List.set_cons_zero, List.set_cons_succ]
        refine wpAnyH_take (i := 6) (v := .pointer (some ⟨gs, 0, none⟩)) (List.getElem?_toArray.trans rfl) (by kernel_rfl) (by kernel_rfl) (by kernel_rfl) (fun _ _ _ h => h) (Or.inl ⟨by rfl, fun w _ => by go_simp⟩) hHeld ?_
        try simp only [Act.put, List.setIfInBounds_toArray, List.set_cons_zero, List.set_cons_succ]
        refine wpAnyH_ready (rs := [7]) (by kernel_rfl) (by simp) (AllReadyH.cons (List.getElem?_toArray.trans rfl) (fun K hK => ?_) AllReadyH.nil)
        go_simp
        refine hK.out _ _ trivial (fun hHeld => ?_)
        clear hK K
        try simp only [Act.put, List.setIfInBounds_toArray, List.set_cons_zero, List.set_cons_succ]
        refine wpAnyH_done (by kernel_rfl) ?_ _
        go_wp2
        go_roundw
        case rel => exact ⟨j + 1, A9, c9, by omega, by go_num, by rw [HStep.out]; exact s9⟩
        case measure => simp [intOf]; omega
      · go_simp
        go_at_call 33
        with_reducible refine HN1.out.mono ?_; rintro e w4 ⟨rfl, hR4, hg4⟩
        have s4 := s0.num hg4 hR4
        have b4 := s4.box.cell 0
        simp only [List.getElem?_toArray, List.getElem?_cons_zero, List.getElem?_cons_succ] at b4
        refine hK.out _ _ trivial (fun hHeld => ?_)
        clear hK K
        try simp only [Act.put, List.setIfInBounds_toArray, List.set_cons_zero, List.set_cons_succ]
        refine wpAnyH_ready (rs := [1, 4]) (by kernel_rfl) (by simp) (AllReadyH.cons (List.getElem?_toArray.trans rfl) (fun K hK => ?_) (AllReadyH.cons (List.getElem?_toArray.trans rfl) (fun K hK => ?_) AllReadyH.nil))
        · go_simp
          refine hK.out _ _ trivial (fun hHeld => ?_)
          clear hK K
          try simp only [Act.put, List.setIfInBounds_toArray, List.set_cons_zero, List.set_cons_succ]
          refine wpAnyH_ready (rs := [4]) (by kernel_rfl) (by simp) (AllReadyH.cons (List.getElem?_toArray.trans rfl) (fun K hK => ?_) AllReadyH.nil)
          have s5 := s4.alloc (.cells #[.int .u64 m] 37)
          obtain ⟨v9, w9, hrun, hO9, hg9, -, -⟩ := run_append_any (P := Try.prog) (w4.alloc (.cells #[.int .u64 m] 37)) w.heap.size 23 23 37 i0 (.int .u64 0) 1 8 Try.underlying23 h0i h00 h01 h02 rfl (by decide) (.slice X0 j d0) j _ s5.own.a _ (some ⟨w4.heap.size, 0, none⟩) 1 1 [.int .u64 m] (reads_new w4 [.int .u64 m] 37 1 1 rfl) (by simp [Value.oneCell']) (by unfold maxLen; omega) (by omega) s5.hb.size
          obtain ⟨A9, c9, rfl⟩ := own_slice hO9
          have B9 := s5.box.grown hg9 (fun e => own_blk_ne s5.own.a s5.box (by decide) e.symm)
          have p9 := B9.cell 0
          have f9 := B9.frozen 0
          simp only [List.getElem?_toArray, List.getElem?_cons_zero, List.getElem?_cons_succ] at p9
          have b5 := s5.box.cell 0
          simp only [List.getElem?_toArray, List.getElem?_cons_zero, List.getElem?_cons_succ] at b5
          have s9 := s5.put0 (ys := q.1 ++ [fA [m]]) hg9 (by rw [List.map_append]; exact hO9)
          go_simp
          refine hK.out _ _ trivial (fun hHeld => ?_)
          clear hK K
          try simp only [Act.put, List.setIfInBounds_toArray, List.set_cons_zero, List.set_cons_succ]
          refine wpAnyH_ready (rs := [5]) (by kernel_rfl) (by simp) (AllReadyH.cons (List.getElem?_toArray.trans rfl) (fun K hK => ?_) AllReadyH.nil)
          refine step_append_run rfl (.tmp 28) (.tmp 31) 23 23 rfl (.slice X0 j d0) (.slice (some ⟨w4.heap.size, 0, none⟩) 1 1) (by simp [Act.eval]) (by simp [Act.eval]) hrun ?_
          refine hK.out _ _ trivial (fun hHeld => ?_)
          clear hK K
          try simp only [Act.put, List.setIfInBounds_toArray, List.set_cons_zero, List.set_cons_succ]
          refine wpAnyH_take (i := 6) (v := .pointer (some ⟨gs, 0, none⟩)) (List.getElem?_toArray.trans rfl) (by kernel_rfl) (by kernel_rfl) (by kernel_rfl) (fun _ _ _ h => h) (Or.inl ⟨by rfl, fun w _ => by go_simp⟩) hHeld ?_
          try simp only [Act.put, List.setIfInBounds_toArray, List.set_cons_zero, List.set_cons_succ]
          refine wpAnyH_ready (rs := [7]) (by kernel_rfl) (by simp) (AllReadyH.cons (List.getElem?_toArray.trans rfl) (fun K hK => ?_) AllReadyH.nil)
          go_simp
          refine hK.out _ _ trivial (fun hHeld => ?_)
          clear hK K
          try simp only [Act.put, List.setIfInBounds_toArray, List.set_cons_zero, List.set_cons_succ]
          refine wpAnyH_done (by kernel_rfl) ?_ _
          go_wp2
          go_roundw
          case rel => exact ⟨j + 1, A9, c9, by omega, by go_num, by rw [HStep.out]; exact s9⟩
          case measure => simp [intOf]; omega
        · have s5 := s4.alloc (.cells #[.int .u64 m] 37)
          obtain ⟨v9, w9, hrun, hO9, hg9, -, -⟩ := run_append_any (P := Try.prog) (w4.alloc (.cells #[.int .u64 m] 37)) w.heap.size 23 23 37 i0 (.int .u64 0) 1 8 Try.underlying23 h0i h00 h01 h02 rfl (by decide) (.slice X0 j d0) j _ s5.own.a _ (some ⟨w4.heap.size, 0, none⟩) 1 1 [.int .u64 m] (reads_new w4 [.int .u64 m] 37 1 1 rfl) (by simp [Value.oneCell']) (by unfold maxLen; omega) (by omega) s5.hb.size
          obtain ⟨A9, c9, rfl⟩ := own_slice hO9
          have B9 := s5.box.grown hg9 (fun e => own_blk_ne s5.own.a s5.box (by decide) e.symm)
          have p9 := B9.cell 0
          have f9 := B9.frozen 0
          simp only [List.getElem?_toArray, List.getElem?_cons_zero, List.getElem?_cons_succ] at p9
          have b5 := s5.box.cell 0
          simp only [List.getElem?_toArray, List.getElem?_cons_zero, List.getElem?_cons_succ] at b5
          have s9 := s5.put0 (ys := q.1 ++ [fA [m]]) hg9 (by rw [List.map_append]; exact hO9)
          go_simp
          refine hK.out _ _ trivial (fun hHeld => ?_)
          clear hK K
          try simp only [Act.put, List.setIfInBounds_toArray, List.set_cons_zero, List.set_cons_succ]
          refine wpAnyH_ready (rs := [1]) (by kernel_rfl) (by simp) (AllReadyH.cons (List.getElem?_toArray.trans rfl) (fun K hK => ?_) AllReadyH.nil)
          go_simp
          refine hK.out _ _ trivial (fun hHeld => ?_)
          clear hK K
          try simp only [Act.put, List.setIfInBounds_toArray, List.set_cons_zero, List.set_cons_succ]
          refine wpAnyH_ready (rs := [5]) (by kernel_rfl) (by simp) (AllReadyH.cons (List.getElem?_toArray.trans rfl) (fun K hK => ?_) AllReadyH.nil)
          refine step_append_run rfl (.tmp 28) (.tmp 31) 23 23 rfl (.slice X0 j d0) (.slice (some ⟨w4.heap.size, 0, none⟩) 1 1) (by simp [Act.eval]) (by simp [Act.eval]) hrun ?_
          refine hK.out _ _ trivial (fun hHeld => ?_)
          clear hK K
          try simp only [Act.put, List.setIfInBounds_toArray, List.set_cons_zero, List.set_cons_succ]
          refine wpAnyH_take (i := 6) (v := .pointer (some ⟨gs, 0, none⟩)) (List.getElem?_toArray.trans rfl) (by kernel_rfl) (by kernel_rfl) (by kernel_rfl) (fun _ _ _ h => h) (Or.inl ⟨by rfl, fun w _ => by go_simp⟩) hHeld ?_
          try simp only [Act.put, List.setIfInBounds_toArray, List.set_cons_zero, List.set_cons_succ]
          refine wpAnyH_ready (rs := [7]) (by kernel_rfl) (by simp) (AllReadyH.cons (List.getElem?_toArray.trans rfl) (fun K hK => ?_) AllReadyH.nil)
          go_simp
          refine hK.out _ _ trivial (fun hHeld => ?_)
          clear hK K
          try simp only [Act.put, List.setIfInBounds_toArray, List.set_cons_zero, List.set_cons_succ]
          refine wpAnyH_done (by kernel_rfl) ?_ _
          go_wp2
          go_roundw
          case rel => exact ⟨j + 1, A9, c9, by omega, by go_num, by rw [HStep.out]; exact s9⟩
          case measure => simp [intOf]; omega
    · obtain rfl : x1 = j := by omega
      have HSt := HS
      generalize recR 1 fA noBad x1 M0 e0 = Q0 at *
      obtain ⟨l0, M1, e1⟩ := Q0
      dsimp only at HSt HRS
      clear HS
      have z0 := HSt.out.box.cell 0
      have z1 := HSt.out.box.cell 1
      have z2 := HSt.out.box.cell 2
      have z3 := HSt.out.box.cell 3
      simp only [List.getElem?_toArray, List.getElem?_cons_zero, List.getElem?_cons_succ] at z0 z1 z2 z3
      go_wp2_with fail
      go_loopw [36] (fun i wr => ∃ (j : Nat) (X1 : Option Addr) (d1 : Nat), j ≤ x2 ∧ i = .int .i64 j ∧ Hid (RdSt w wr gs X0 x1 d0 X1 j d1 none 0 0 none 0 0 ⟨l0, (recR 1 fR noBad j M1 e1).1, [], []⟩ (recR 1 fR noBad j M1 e1).2.1 (recR 1 fR noBad j M1 e1).2.2)) (fun i _ => x2 - (intOf i).toNat)
      case atStart => exact ⟨0, none, 0, by omega, rfl, HSt.out⟩
      case round =>
        obtain ⟨j, X1, d1, hj, rfl, HS⟩ := hrel
        by_cases hlt : j < x2
        · have HStep : Hid (recR 1 fR noBad (j + 1) M1 e1 = ((recR 1 fR noBad j M1 e1).1 ++ [fR [(numR (recR 1 fR noBad j M1 e1).2.1 (recR 1 fR noBad j M1 e1).2.2).1]], (numR (recR 1 fR noBad j M1 e1).2.1 (recR 1 fR noBad j M1 e1).2.2).2.1, (numR (recR 1 fR noBad j M1 e1).2.1 (recR 1 fR noBad j M1 e1).2.2).2.2)) := by
            show _ = _
            simp only [recR, numsR, noBad, Bool.or_false, List.nil_append, List.singleton_append, List.cons_append]
          generalize recR 1 fR noBad j M1 e1 = q at *
          have s0 := HS.out.drew
          have HN1 := Lib.hid (num_any (w.heap.size + 1) q.2.1 q.2.2 wr.drew s0.rd)
          generalize numR q.2.1 q.2.2 = r1 at *
          obtain ⟨m, L1', b1'⟩ := r1
          dsimp only at HN1 HStep
          have b0 := s0.box.cell 1
          have fb := s0.box.frozen 1
          simp only [List.getElem?_toArray, List.getElem?_cons_zero, List.getElem?_cons_succ] at b0
          go_wp2_with fail
          refine wp_region_held_drew (S := fun _ => True) (by kernel_rfl) trivial (fun hHeld => ?_)
          refine wpAnyH_take (i := 0) (v := .pointer (some ⟨gs, 1, none⟩)) (List.getElem?_toArray.trans rfl) (by kernel_rfl) (by kernel_rfl) (by kernel_rfl) (fun _ _ _ h => h) (Or.inl ⟨by rfl, fun w _ => by go_simp⟩) hHeld ?_
          try simp only [Act.put, List.setIfInBounds_toArray, List.set_cons_zero, List.set_cons_succ]
          refine wpAnyH_take (i := 2) (v := .pointer (some ⟨w.heap.size + 1, 0, none⟩)) (List.getElem?_toArray.trans rfl) (by kernel_rfl) (by kernel_rfl) (by kernel_rfl) (fun _ _ _ h => h) (Or.inl ⟨by rfl, fun w _ => by go_simp⟩) hHeld ?_
          try simp only [Act.put, List.setIfInBounds_toArray, List.set_cons_zero, List.set_cons_succ]
          refine wpAnyH_ready (rs := [1, 3]) (by kernel_rfl) (by simp) (AllReadyH.cons (List.getElem?_toArray.trans rfl) (fun K hK => ?_) (AllReadyH.cons (List.getElem?_toArray.trans rfl) (fun K hK => ?_) AllReadyH.nil))
          · go_simp
            refine hK.out _ _ trivial (fun hHeld => ?_)
            clear hK K
            try simp only [Act.put, List.setIfInBounds_toArray, List.set_cons_zero, List.set_cons_succ]
            refine wpAnyH_ready (rs := [3]) (by kernel_rfl) (by simp) (AllReadyH.cons (List.getElem?_toArray.trans rfl) (fun K hK => ?_) AllReadyH.nil)
            go_simp
            go_at_call 33
            with_reducible refine HN1.out.mono ?_; rintro e w4 ⟨rfl, hR4, hg4⟩
            have s4 := s0.num hg4 hR4
            have b4 := s4.box.cell 1
            simp only [List.getElem?_toArray, List.getElem?_cons_zero, List.getElem?_cons_succ] at b4
            refine hK.out _ _ trivial (fun hHeld => ?_)
            clear hK K
            try simp only [Act.put, List.setIfInBounds_toArray, List.set_cons_zero, List.set_cons_succ]
            refine wpAnyH_take (i := 4) (v := .int .i64 (IntKind.i64.wrap m)) (List.getElem?_toArray.trans rfl) (by kernel_rfl) (by kernel_rfl) (by kernel_rfl) (fun _ _ _ h => h) (Or.inl ⟨by rfl, fun w _ => by go_simp⟩) hHeld ?_
            try simp only [Act.put, List.setIfInBounds_toArray, List.set_cons_zero, List.set_cons_succ]
            refine wpAnyH_take (i := 5) (v := .int .i64 (IntKind.i64.wrap (IntKind.i64.wrap m - 1))) (List.getElem?_toArray.trans rfl) (by kernel_rfl) (by kernel_rfl) (by kernel_rfl) (fun _ _ _ h => h) (Or.inl ⟨by rfl, fun w _ => by go_simp⟩) hHeld ?_
            try simp only [Act.put, List.setIfInBounds_toArray, List.set_cons_zero, List.set_cons_succ]
            refine wpAnyH_ready (rs := [6]) (by kernel_rfl) (by simp) (AllReadyH.cons (List.getElem?_toArray.trans rfl) (fun K hK => ?_) AllReadyH.nil)
            have s5 := s4.alloc (.cells #[.int .i64 (IntKind.i64.wrap (IntKind.i64.wrap m - 1))] 3)
            obtain ⟨v9, w9, hrun, hO9, hg9, -, -⟩ := run_append_any (P := Try.prog) (w4.alloc (.cells #[.int .i64 (IntKind.i64.wrap (IntKind.i64.wrap m - 1))] 3)) w.heap.size 24 24 3 i1 (.int .i64 0) 1 8 Try.underlying24 h1i h10 h11 h12 rfl (by decide) (.slice X1 j d1) j _ s5.own.r _ (some ⟨w4.heap.size, 0, none⟩) 1 1 [.int .i64 (IntKind.i64.wrap (IntKind.i64.wrap m - 1))] (reads_new w4 [.int .i64 (IntKind.i64.wrap (IntKind.i64.wrap m - 1))] 3 1 1 rfl) (by simp [Value.oneCell']) (by unfold maxLen; omega) (by omega) s5.hb.size
            obtain ⟨A9, c9, rfl⟩ := own_slice hO9
            have B9 := s5.box.grown hg9 (fun e => own_blk_ne s5.own.r s5.box (by decide) e.symm)
            have p9 := B9.cell 1
            have f9 := B9.frozen 1
            simp only [List.getElem?_toArray, List.getElem?_cons_zero, List.getElem?_cons_succ] at p9
            have b5 := s5.box.cell 1
            simp only [List.getElem?_toArray, List.getElem?_cons_zero, List.getElem?_cons_succ] at b5
            have s9 := s5.put1 (ys := q.1 ++ [fR [m]]) hg9 (by rw [List.map_append, show fR [m] = IntKind.i64.wrap (IntKind.i64.wrap (m : Int) - 1) from fR_wrap m]; exact hO9)
            go_simp
            refine hK.out _ _ trivial (fun hHeld => ?_)
            clear hK K
            try simp only [Act.put, List.setIfInBounds_toArray, List.set_cons_zero, List.set_cons_succ]
            refine wpAnyH_ready (rs := [7]) (by kernel_rfl) (by simp) (AllReadyH.cons (List.getElem?_toArray.trans rfl) (fun K hK => ?_) AllReadyH.nil)
            refine step_append_run rfl (.tmp 39) (.tmp 44) 24 24 rfl (.slice X1 j d1) (.slice (some ⟨w4.heap.size, 0, none⟩) 1 1) (by simp [Act.eval]) (by simp [Act.eval]) hrun ?_
            refine hK.out _ _ trivial (fun hHeld => ?_)
            clear hK K
            try simp only [Act.put, List.setIfInBounds_toArray, List.set_cons_zero, List.set_cons_succ]
            refine wpAnyH_take (i := 8) (v := .pointer (some ⟨gs, 1, none⟩)) (List.getElem?_toArray.trans rfl) (by kernel_rfl) (by kernel_rfl) (by kernel_rfl) (fun _ _ _ h => h) (Or.inl ⟨by rfl, fun w _ => by go_simp⟩) hHeld ?_
            try simp only [Act.put, List.setIfInBounds_toArray, List.set_cons_zero, List.set_cons_succ]
            refine wpAnyH_ready (rs := [9]) (by kernel_rfl) (by simp) (AllReadyH.cons (List.getElem?_toArray.trans rfl) (fun K hK => ?_) AllReadyH.nil)
            go_simp
            refine hK.out _ _ trivial (fun hHeld => ?_)
            clear hK K
            try simp only [Act.put, List.setIfInBounds_toArray, List.set_cons_zero, List.set_cons_succ]
            refine wpAnyH_done (by kernel_rfl) ?_ _
            go_wp2
            go_roundw
            case rel => exact ⟨j + 1, A9, c9, by omega, by go_num, by rw [HStep.out]; exact s9⟩
            case measure => simp [intOf]; omega
          · go_simp
            go_at_call 33
            with_reducible refine HN1.out.mono ?_; rintro e w4 ⟨rfl, hR4, hg4⟩
            have s4 := s0.num hg4 hR4
            have b4 := s4.box.cell 1
            simp only [List.getElem?_toArray, List.getElem?_cons_zero, List.getElem?_cons_succ] at b4
            refine hK.out _ _ trivial (fun hHeld => ?_)
            clear hK K
            try simp only [Act.put, List.setIfInBounds_toArray, List.set_cons_zero, List.set_cons_succ]
            refine wpAnyH_take (i := 4) (v := .int .i64 (IntKind.i64.wrap m)) (List.getElem?_toArray.trans rfl) (by kernel_rfl) (by kernel_rfl) (by kernel_rfl) (fun _ _ _ h => h) (Or.inl ⟨by rfl, fun w _ => by go_simp⟩) hHeld ?_
            try simp only [Act.put, List.setIfInBounds_toArray, List.set_cons_zero, List.set_cons_succ]
            refine wpAnyH_take (i := 5) (v := .int .i64 (IntKind.i64.wrap (IntKind.i64.wrap m - 1))) (List.getElem?_toArray.trans rfl) (by kernel_rfl) (by kernel_rfl) (by kernel_rfl) (fun _ _ _ h => h) (Or.inl ⟨by rfl, fun w _ => by go_simp⟩) hHeld ?_
            try simp only [Act.put, List.setIfInBounds_toArray, List.set_cons_zero, List.set_cons_succ]
            refine wpAnyH_ready (rs := [1, 6]) (by kernel_rfl) (by simp) (AllReadyH.cons (List.getElem?_toArray.trans rfl) (fun K hK => ?_) (AllReadyH.cons (List.getElem?_toArray.trans rfl) (fun K hK => ?_) AllReadyH.nil))
            · go_simp
              refine hK.out _ _ trivial (fun hHeld => ?_)
              clear hK K
              try simp only [Act.put, List.setIfInBounds_toArray, List.set_cons_zero, List.set_cons_succ]
              refine wpAnyH_ready (rs := [6]) (by kernel_rfl) (by simp) (AllReadyH.cons (List.getElem?_toArray.trans rfl) (fun K hK => ?_) AllReadyH.nil)
              have s5 := s4.alloc (.cells #[.int .i64 (IntKind.i64.wrap (IntKind.i64.wrap m - 1))] 3)
              obtain ⟨v9, w9, hrun, hO9, hg9, -, -⟩ := run_append_any (P := Try.prog) (w4.alloc (.cells #[.int .i64 (IntKind.i64.wrap (IntKind.i64.wrap m - 1))] 3)) w.heap.size 24 24 3 i1 (.int .i64 0) 1 8 Try.underlying24 h1i h10 h11 h12 rfl (by decide) (.slice X1 j d1) j _ s5.own.r _ (some ⟨w4.heap.size, 0, none⟩) 1 1 [.int .i64 (IntKind.i64.wrap (IntKind.i64.wrap m - 1))] (reads_new w4 [.int .i64 (IntKind.i64.wrap (IntKind.i64.wrap m - 1))] 3 1 1 rfl) (by simp [Value.oneCell']) (by unfold maxLen; omega) (by omega) s5.hb.size
              obtain ⟨A9, c9, rfl⟩ := own_slice hO9
              have B9 := s5.box.grown hg9 (fun e => own_blk_ne s5.own.r s5.box (by decide) e.symm)
              have p9 := B9.cell 1
              have f9 := B9.frozen 1
              simp only [List.getElem?_toArray, List.getElem?_cons_zero, List.getElem?_cons_succ] at p9
              have b5 := s5.box.cell 1
              simp only [List.getElem?_toArray, List.getElem?_cons_zero, List.getElem?_cons_succ] at b5
              have s9 := s5.put1 (ys := q.1 ++ [fR [m]]) hg9 (by rw [List.map_append, show fR [m] = IntKind.i64.wrap (IntKind.i64.wrap (m : Int) - 1) from fR_wrap m]; exact hO9)
              go_simp
              refine hK.out _ _ trivial (fun hHeld => ?_)
              clear hK K
              try simp only [Act.put, List.setIfInBounds_toArray, List.set_cons_zero, List.set_cons_succ]
              refine wpAnyH_ready (rs := [7]) (by kernel_rfl) (by simp) (AllReadyH.cons (List.getElem?_toArray.trans rfl) (fun K hK => ?_) AllReadyH.nil)
              refine step_append_run rfl (.tmp 39) (.tmp 44) 24 24 rfl (.slice X1 j d1) (.slice (some ⟨w4.heap.size, 0, none⟩) 1 1) (by simp [Act.eval]) (by simp [Act.eval]) hrun ?_
              refine hK.out _ _ trivial (fun hHeld => ?_)
              clear hK K
              try simp only [Act.put, List.setIfInBounds_toArray, List.set_cons_zero, List.set_cons_succ]
              refine wpAnyH_take (i := 8) (v := .pointer (some ⟨gs, 1, none⟩)) (List.getElem?_toArray.trans rfl) (by kernel_rfl) (by kernel_rfl) (by kernel_rfl) (fun _ _ _ h => h) (Or.inl ⟨by rfl, fun w _ => by go_simp⟩) hHeld ?_
              try simp only [Act.put, List.setIfInBounds_toArray, List.set_cons_zero, List.set_cons_succ]
              refine wpAnyH_ready (rs := [9]) (by kernel_rfl) (by simp) (AllReadyH.cons (List.getElem?_toArray.trans rfl) (fun K hK => ?_) AllReadyH.nil)
              go_simp
              refine hK.out _ _ trivial (fun hHeld => ?_)
              clear hK K
              try simp only [Act.put, List.setIfInBounds_toArray, List.set_cons_zero, List.set_cons_succ]
              refine wpAnyH_done (by kernel_rfl) ?_ _
              go_wp2
              go_roundw
              case rel => exact ⟨j + 1, A9, c9, by omega, by go_num, by rw [HStep.out]; exact s9⟩
              case measure => simp [intOf]; omega
            · have s5 := s4.alloc (.cells #[.int .i64 (IntKind.i64.wrap (IntKind.i64.wrap m - 1))] 3)
              obtain ⟨v9, w9, hrun, hO9, hg9, -, -⟩ := run_append_any (P := Try.prog) (w4.alloc (.cells #[.int .i64 (IntKind.i64.wrap (IntKind.i64.wrap m - 1))] 3)) w.heap.size 24 24 3 i1 (.int .i64 0) 1 8 Try.underlying24 h1i h10 h11 h12 rfl (by decide) (.slice X1 j d1) j _ s5.own.r _ (some ⟨w4.heap.size, 0, none⟩) 1 1 [.int .i64 (IntKind.i64.wrap (IntKind.i64.wrap m - 1))] (reads_new w4 [.int .i64 (IntKind.i64.wrap (IntKind.i64.wrap m - 1))] 3 1 1 rfl) (by simp [Value.oneCell']) (by unfold maxLen; omega) (by omega) s5.hb.size
              obtain ⟨A9, c9, rfl⟩ := own_slice hO9
              have B9 := s5.box.grown hg9 (fun e => own_blk_ne s5.own.r s5.box (by decide) e.symm)
              have p9 := B9.cell 1
              have f9 := B9.frozen 1
              simp only [List.getElem?_toArray, List.getElem?_cons_zero, List.getElem?_cons_succ] at p9
              have b5 := s5.box.cell 1
              simp only [List.getElem?_toArray, List.getElem?_cons_zero, List.getElem?_cons_succ] at b5
              have s9 := s5.put1 (ys := q.1 ++ [fR [m]]) hg9 (by rw [List.map_append, show fR [m] = IntKind.i64.wrap (IntKind.i64.wrap (m : Int) - 1) from fR_wrap m]; exact hO9)
              go_simp
              refine hK.out _ _ trivial (fun hHeld => ?_)
              clear hK K
              try simp only [Act.put, List.setIfInBounds_toArray, List.set_cons_zero, List.set_cons_succ]
              refine wpAnyH_ready (rs := [1]) (by kernel_rfl) (by simp) (AllReadyH.cons (List.getElem?_toArray.trans rfl) (fun K hK => ?_) AllReadyH.nil)
              go_simp
              refine hK.out _ _ trivial (fun hHeld => ?_)
              clear hK K
              try simp only [Act.put, List.setIfInBounds_toArray, List.set_cons_zero, List.set_cons_succ]
              refine wpAnyH_ready (rs := [7]) (by kernel_rfl) (by simp) (AllReadyH.cons (List.getElem?_toArray.trans rfl) (fun K hK => ?_) AllReadyH.nil)
              refine step_append_run rfl (.tmp 39) (.tmp 44) 24 24 rfl (.slice X1 j d1) (.slice (some ⟨w4.heap.size, 0, none⟩) 1 1) (by simp [Act.eval]) (by simp [Act.eval]) hrun ?_
              refine hK.out _ _ trivial (fun hHeld => ?_)
              clear hK K
              try simp only [Act.put, List.setIfInBounds_toArray, List.set_cons_zero, List.set_cons_succ]
              refine wpAnyH_take (i := 8) (v := .pointer (some ⟨gs, 1, none⟩)) (List.getElem?_toArray.trans rfl) (by kernel_rfl) (by kernel_rfl) (by kernel_rfl) (fun _ _ _ h => h) (Or.inl ⟨by rfl, fun w _ => by go_simp⟩) hHeld ?_
              try simp only [Act.put, List.setIfInBounds_toArray, List.set_cons_zero, List.set_cons_succ]
              refine wpAnyH_ready (rs := [9]) (by kernel_rfl) (by simp) (AllReadyH.cons (List.getElem?_toArray.trans rfl) (fun K hK => ?_) AllReadyH.nil)
              go_simp
              refine hK.out _ _ trivial (fun hHeld => ?_)
              clear hK K
              try simp only [Act.put, List.setIfInBounds_toArray, List.set_cons_zero, List.set_cons_succ]
              refine wpAnyH_done (by kernel_rfl) ?_ _
              go_wp2
              go_roundw
              case rel => exact ⟨j + 1, A9, c9, by omega, by go_num, by rw [HStep.out]; exact s9⟩
              case measure => simp [intOf]; omega
        · obtain rfl : x2 = j := by omega
          have HSt := HS
          generalize recR 1 fR noBad x2 M1 e1 = Q1 at *
          obtain ⟨l1, M2, e2⟩ := Q1
          dsimp only at HSt HRS
          clear HS
          have z0 := HSt.out.box.cell 0
          have z1 := HSt.out.box.cell 1
          have z2 := HSt.out.box.cell 2
          have z3 := HSt.out.box.cell 3
          simp only [List.getElem?_toArray, List.getElem?_cons_zero, List.getElem?_cons_succ] at z0 z1 z2 z3
          go_wp2_with fail
          go_loopw [49] (fun i wr => ∃ (j : Nat) (X2 : Option Addr) (d2 : Nat), j ≤ x3 ∧ i = .int .i64 j ∧ Hid (RdSt w wr gs X0 x1 d0 X1 x2 d1 X2 j d2 none 0 0 ⟨l0, l1, (recR 2 fP noBad j M2 e2).1, []⟩ (recR 2 fP noBad j M2 e2).2.1 (recR 2 fP noBad j M2 e2).2.2)) (fun i _ => x3 - (intOf i).toNat)
          case atStart => exact ⟨0, none, 0, by omega, rfl, HSt.out⟩
          case round =>
            obtain ⟨j, X2, d2, hj, rfl, HS⟩ := hrel
            by_cases hlt : j < x3
            · have HStep : Hid (recR 2 fP noBad (j + 1) M2 e2 = ((recR 2 fP noBad j M2 e2).1 ++ [fP [(numR (recR 2 fP noBad j M2 e2).2.1 (recR 2 fP noBad j M2 e2).2.2).1, (numR (numR (recR 2 fP noBad j M2 e2).2.1 (recR 2 fP noBad j M2 e2).2.2).2.1 (numR (recR 2 fP noBad j M2 e2).2.1 (recR 2 fP noBad j M2 e2).2.2).2.2).1]], (numR (numR (recR 2 fP noBad j M2 e2).2.1 (recR 2 fP noBad j M2 e2).2.2).2.1 (numR (recR 2 fP noBad j M2 e2).2.1 (recR 2 fP noBad j M2 e2).2.2).2.2).2.1, (numR (numR (recR 2 fP noBad j M2 e2).2.1 (recR 2 fP noBad j M2 e2).2.2).2.1 (numR (recR 2 fP noBad j M2 e2).2.1 (recR 2 fP noBad j M2 e2).2.2).2.2).2.2)) := by
                show _ = _
                simp only [recR, numsR, noBad, Bool.or_false, List.nil_append, List.singleton_append, List.cons_append]
              generalize recR 2 fP noBad j M2 e2 = q at *
              have s0 := HS.out.drew
              have HN1 := Lib.hid (num_any (w.heap.size + 1) q.2.1 q.2.2 wr.drew s0.rd)
              have HN2 := Lib.hid (fun w' hR => num_any (w.heap.size + 1) (numR q.2.1 q.2.2).2.1 (numR q.2.1 q.2.2).2.2 w' hR)
              generalize numR q.2.1 q.2.2 = r1 at *
              obtain ⟨m, L1', b1'⟩ := r1
              dsimp only at HN2 HStep
              generalize numR L1' b1' = r2 at *
              obtain ⟨m2, L2', b2'⟩ := r2
              dsimp only at HN1 HStep HN2
              have b0 := s0.box.cell 2
              have fb := s0.box.frozen 2
              simp only [List.getElem?_toArray, List.getElem?_cons_zero, List.getElem?_cons_succ] at b0
              go_wp2_with fail
              refine wp_region_held_drew (S := fun _ => True) (by kernel_rfl) trivial (fun hHeld => ?_)
              refine wpAnyH_take (i := 0) (v := .pointer (some ⟨gs, 2, none⟩)) (List.getElem?_toArray.trans rfl) (by kernel_rfl) (by kernel_rfl) (by kernel_rfl) (fun _ _ _ h => h) (Or.inl ⟨by rfl, fun w _ => by go_simp⟩) hHeld ?_
              try simp only [Act.put, List.setIfInBounds_toArray, List.set_cons_zero, List.set_cons_succ]
              refine wpAnyH_take (i := 2) (v := .pointer (some ⟨w.heap.size + 1, 0, none⟩)) (List.getElem?_toArray.trans rfl) (by kernel_rfl) (by kernel_rfl) (by kernel_rfl) (fun _ _ _ h => h) (Or.inl ⟨by rfl, fun w _ => by go_simp⟩) hHeld ?_
              try simp only [Act.put, List.setIfInBounds_toArray, List.set_cons_zero, List.set_cons_succ]
              refine wpAnyH_take (i := 5) (v := .pointer (some ⟨w.heap.size + 1, 0, none⟩)) (List.getElem?_toArray.trans rfl) (by kernel_rfl) (by kernel_rfl) (by kernel_rfl) (fun _ _ _ h => h) (Or.inl ⟨by rfl, fun w _ => by go_simp⟩) hHeld ?_
              try simp only [Act.put, List.setIfInBounds_toArray, List.set_cons_zero, List.set_cons_succ]
              refine wpAnyH_ready (rs := [1, 3]) (by kernel_rfl) (by simp) (AllReadyH.cons (List.getElem?_toArray.trans rfl) (fun K hK => ?_) (AllReadyH.cons (List.getElem?_toArray.trans rfl) (fun K hK => ?_) AllReadyH.nil))
              · go_simp
                refine hK.out _ _ trivial (fun hHeld => ?_)
                clear hK K
                try simp only [Act.put, List.setIfInBounds_toArray, List.set_cons_zero, List.set_cons_succ]
                refine wpAnyH_ready (rs := [3]) (by kernel_rfl) (by simp) (AllReadyH.cons (List.getElem?_toArray.trans rfl) (fun K hK => ?_) AllReadyH.nil)
                go_simp
                go_at_call 33
                with_reducible refine HN1.out.mono ?_; rintro e w4 ⟨rfl, hR4, hg4⟩
                have s4 := s0.num hg4 hR4
                have b4 := s4.box.cell 2
                simp only [List.getElem?_toArray, List.getElem?_cons_zero, List.getElem?_cons_succ] at b4
                refine hK.out _ _ trivial (fun hHeld => ?_)
                clear hK K
                try simp only [Act.put, List.setIfInBounds_toArray, List.set_cons_zero, List.set_cons_succ]
                refine wpAnyH_take (i := 4) (v := .int .i64 (IntKind.i64.wrap m)) (List.getElem?_toArray.trans rfl) (by kernel_rfl) (by kernel_rfl) (by kernel_rfl) (fun _ _ _ h => h) (Or.inl ⟨by rfl, fun w _ => by go_simp⟩) hHeld ?_
                try simp only [Act.put, List.setIfInBounds_toArray, List.set_cons_zero, List.set_cons_succ]
                refine wpAnyH_ready (rs := [6]) (by kernel_rfl) (by simp) (AllReadyH.cons (List.getElem?_toArray.trans rfl) (fun K hK => ?_) AllReadyH.nil)
                go_simp
                go_at_call 33
                with_reducible refine (HN2.out w4 s4.rd).mono ?_; rintro e w6 ⟨rfl, hR6, hg6⟩
                have s6 := s4.num hg6 hR6
                have b6 := s6.box.cell 2
                simp only [List.getElem?_toArray, List.getElem?_cons_zero, List.getElem?_cons_succ] at b6
                refine hK.out _ _ trivial (fun hHeld => ?_)
                clear hK K
                try simp only [Act.put, List.setIfInBounds_toArray, List.set_cons_zero, List.set_cons_succ]
                refine wpAnyH_take (i := 7) (v := .int .i64 (IntKind.i64.wrap m2)) (List.getElem?_toArray.trans rfl) (by kernel_rfl) (by kernel_rfl) (by kernel_rfl) (fun _ _ _ h => h) (Or.inl ⟨by rfl, fun w _ => by go_simp⟩) hHeld ?_
                try simp only [Act.put, List.setIfInBounds_toArray, List.set_cons_zero, List.set_cons_succ]
                refine wpAnyH_take (i := 8) (v := .agg #[.int .i64 (IntKind.i64.wrap m), .int .i64 (IntKind.i64.wrap m2)]) (List.getElem?_toArray.trans rfl) (by kernel_rfl) (by kernel_rfl) (by kernel_rfl) (fun _ _ _ h => h) (Or.inl ⟨by rfl, fun w _ => by go_simp⟩) hHeld ?_
                try simp only [Act.put, List.setIfInBounds_toArray, List.set_cons_zero, List.set_cons_succ]
                refine wpAnyH_ready (rs := [9]) (by kernel_rfl) (by simp) (AllReadyH.cons (List.getElem?_toArray.trans rfl) (fun K hK => ?_) AllReadyH.nil)
                have s5 := s6.alloc (.cells #[.int .i64 (IntKind.i64.wrap m), .int .i64 (IntKind.i64.wrap m2)] 47)
                obtain ⟨v9, w9, hrun, hO9, hg9, -, -⟩ := run_append_any (P := Try.prog) (w6.alloc (.cells #[.int .i64 (IntKind.i64.wrap m), .int .i64 (IntKind.i64.wrap m2)] 47)) w.heap.size 25 25 47 i2 _ 2 16 Try.underlying25 h2i h20 h21 h22 rfl (by decide) (.slice X2 j d2) j _ s5.own.p _ (some ⟨w6.heap.size, 0, none⟩) 1 1 [.int .i64 (IntKind.i64.wrap m), .int .i64 (IntKind.i64.wrap m2)] (reads_new w6 [.int .i64 (IntKind.i64.wrap m), .int .i64 (IntKind.i64.wrap m2)] 47 1 2 rfl) (by simp [Value.oneCell']) (by unfold maxLen; omega) (by omega) s5.hb.size
                obtain ⟨A9, c9, rfl⟩ := own_slice hO9
                have B9 := s5.box.grown hg9 (fun e => own_blk_ne s5.own.p s5.box (by decide) e.symm)
                have p9 := B9.cell 2
                have f9 := B9.frozen 2
                simp only [List.getElem?_toArray, List.getElem?_cons_zero, List.getElem?_cons_succ] at p9
                have b5 := s5.box.cell 2
                simp only [List.getElem?_toArray, List.getElem?_cons_zero, List.getElem?_cons_succ] at b5
                have s9 := s5.put2 (ys := q.1 ++ [fP [m, m2]]) hg9 (by rw [show runsC (q.1 ++ [fP [m, m2]]) = runsC q.1 ++ [.int .i64 (IntKind.i64.wrap m), .int .i64 (IntKind.i64.wrap m2)] by rw [← i64N_wrap, ← i64N_wrap]; simp [runsC, runC, fP]]; exact hO9)
                go_simp
                refine hK.out _ _ trivial (fun hHeld => ?_)
                clear hK K
                try simp only [Act.put, List.setIfInBounds_toArray, List.set_cons_zero, List.set_cons_succ]
                refine wpAnyH_ready (rs := [10]) (by kernel_rfl) (by simp) (AllReadyH.cons (List.getElem?_toArray.trans rfl) (fun K hK => ?_) AllReadyH.nil)
                refine step_append_run rfl (.tmp 52) (.tmp 60) 25 25 rfl (.slice X2 j d2) (.slice (some ⟨w6.heap.size, 0, none⟩) 1 1) (by simp [Act.eval]) (by simp [Act.eval]) hrun ?_
                refine hK.out _ _ trivial (fun hHeld => ?_)
                clear hK K
                try simp only [Act.put, List.setIfInBounds_toArray, List.set_cons_zero, List.set_cons_succ]
                refine wpAnyH_take (i := 11) (v := .pointer (some ⟨gs, 2, none⟩)) (List.getElem?_toArray.trans rfl) (by kernel_rfl) (by kernel_rfl) (by kernel_rfl) (fun _ _ _ h => h) (Or.inl ⟨by rfl, fun w _ => by go_simp⟩) hHeld ?_
                try simp only [Act.put, List.setIfInBounds_toArray, List.set_cons_zero, List.set_cons_succ]
                refine wpAnyH_ready (rs := [12]) (by kernel_rfl) (by simp) (AllReadyH.cons (List.getElem?_toArray.trans rfl) (fun K hK => ?_) AllReadyH.nil)
                go_simp
                refine hK.out _ _ trivial (fun hHeld => ?_)
                clear hK K
                try simp only [Act.put, List.setIfInBounds_toArray, List.set_cons_zero, List.set_cons_succ]
                refine wpAnyH_done (by kernel_rfl) ?_ _
                go_wp2
                go_roundw
                case rel => exact ⟨j + 1, A9, c9, by omega, by go_num, by rw [HStep.out]; exact s9⟩
                case measure => simp [intOf]; omega
              · go_simp
                go_at_call 33
                with_reducible refine HN1.out.mono ?_; rintro e w4 ⟨rfl, hR4, hg4⟩
                have s4 := s0.num hg4 hR4
                have b4 := s4.box.cell 2
                simp only [List.getElem?_toArray, List.getElem?_cons_zero, List.getElem?_cons_succ] at b4
                refine hK.out _ _ trivial (fun hHeld => ?_)
                clear hK K
                try simp only [Act.put, List.setIfInBounds_toArray, List.set_cons_zero, List.set_cons_succ]
                refine wpAnyH_take (i := 4) (v := .int .i64 (IntKind.i64.wrap m)) (List.getElem?_toArray.trans rfl) (by kernel_rfl) (by kernel_rfl) (by kernel_rfl) (fun _ _ _ h => h) (Or.inl ⟨by rfl, fun w _ => by go_simp⟩) hHeld ?_
                try simp only [Act.put, List.setIfInBounds_toArray, List.set_cons_zero, List.set_cons_succ]
                refine wpAnyH_ready (rs := [1, 6]) (by kernel_rfl) (by simp) (AllReadyH.cons (List.getElem?_toArray.trans rfl) (fun K hK => ?_) (AllReadyH.cons (List.getElem?_toArray.trans rfl) (fun K hK => ?_) AllReadyH.nil))
                · go_simp
                  refine hK.out _ _ trivial (fun hHeld => ?_)
                  clear hK K
                  try simp only [Act.put, List.setIfInBounds_toArray, List.set_cons_zero, List.set_cons_succ]
                  refine wpAnyH_ready (rs := [6]) (by kernel_rfl) (by simp) (AllReadyH.cons (List.getElem?_toArray.trans rfl) (fun K hK => ?_) AllReadyH.nil)
                  go_simp
                  go_at_call 33
                  with_reducible refine (HN2.out w4 s4.rd).mono ?_; rintro e w6 ⟨rfl, hR6, hg6⟩
                  have s6 := s4.num hg6 hR6
                  have b6 := s6.box.cell 2
                  simp only [List.getElem?_toArray, List.getElem?_cons_zero, List.getElem?_cons_succ] at b6
                  refine hK.out _ _ trivial (fun hHeld => ?_)
                  clear hK K
                  try simp only [Act.put, List.setIfInBounds_toArray, List.set_cons_zero, List.set_cons_succ]
                  refine wpAnyH_take (i := 7) (v := .int .i64 (IntKind.i64.wrap m2)) (List.getElem?_toArray.trans rfl) (by kernel_rfl) (by kernel_rfl) (by kernel_rfl) (fun _ _ _ h => h) (Or.inl ⟨by rfl, fun w _ => by go_simp⟩) hHeld ?_
                  try simp only [Act.put, List.setIfInBounds_toArray, List.set_cons_zero, List.set_cons_succ]
                  refine wpAnyH_take (i := 8) (v := .agg #[.int .i64 (IntKind.i64.wrap m), .int .i64 (IntKind.i64.wrap m2)]) (List.getElem?_toArray.trans rfl) (by kernel_rfl) (by kernel_rfl) (by kernel_rfl) (fun _ _ _ h => h) (Or.inl ⟨by rfl, fun w _ => by go_simp⟩) hHeld ?_
                  try simp only [Act.put, List.setIfInBounds_toArray, List.set_cons_zero, List.set_cons_succ]
                  refine wpAnyH_ready (rs := [9]) (by kernel_rfl) (by simp) (AllReadyH.cons (List.getElem?_toArray.trans rfl) (fun K hK => ?_) AllReadyH.nil)
                  have s5 := s6.alloc (.cells #[.int .i64 (IntKind.i64.wrap m), .int .i64 (IntKind.i64.wrap m2)] 47)
                  obtain ⟨v9, w9, hrun, hO9, hg9, -, -⟩ := run_append_any (P := Try.prog) (w6.alloc (.cells #[.int .i64 (IntKind.i64.wrap m), .int .i64 (IntKind.i64.wrap m2)] 47)) w.heap.size 25 25 47 i2 _ 2 16 Try.underlying25 h2i h20 h21 h22 rfl (by decide) (.slice X2 j d2) j _ s5.own.p _ (some ⟨w6.heap.size, 0, none⟩) 1 1 [.int .i64 (IntKind.i64.wrap m), .int .i64 (IntKind.i64.wrap m2)] (reads_new w6 [.int .i64 (IntKind.i64.wrap m), .int .i64 (IntKind.i64.wrap m2)] 47 1 2 rfl) (by simp [Value.oneCell']) (by unfold maxLen; omega) (by omega) s5.hb.size
                  obtain ⟨A9, c9, rfl⟩ := own_slice hO9
                  have B9 := s5.box.grown hg9 (fun e => own_blk_ne s5.own.p s5.box (by decide) e.symm)
                  have p9 := B9.cell 2
                  have f9 := B9.frozen 2
                  simp only [List.getElem?_toArray, List.getElem?_cons_zero, List.getElem?_cons_succ] at p9
                  have b5 := s5.box.cell 2
                  simp only [List.getElem?_toArray, List.getElem?_cons_zero, List.getElem?_cons_succ] at b5
                  have s9 := s5.put2 (ys := q.1 ++ [fP [m, m2]]) hg9 (by rw [show runsC (q.1 ++ [fP [m, m2]]) = runsC q.1 ++ [.int .i64 (IntKind.i64.wrap m), .int .i64 (IntKind.i64.wrap m2)] by rw [← i64N_wrap, ← i64N_wrap]; simp [runsC, runC, fP]]; exact hO9)
                  go_simp
                  refine hK.out _ _ trivial (fun hHeld => ?_)
                  clear hK K
                  try simp only [Act.put, List.setIfInBounds_toArray, List.set_cons_zero, List.set_cons_succ]
                  refine wpAnyH_ready (rs := [10]) (by kernel_rfl) (by simp) (AllReadyH.cons (List.getElem?_toArray.trans rfl) (fun K hK => ?_) AllReadyH.nil)
                  refine step_append_run rfl (.tmp 52) (.tmp 60) 25 25 rfl (.slice X2 j d2) (.slice (some ⟨w6.heap.size, 0, none⟩) 1 1) (by simp [Act.eval]) (by simp [Act.eval]) hrun ?_
                  refine hK.out _ _ trivial (fun hHeld => ?_)
                  clear hK K
                  try simp only [Act.put, List.setIfInBounds_toArray, List.set_cons_zero, List.set_cons_succ]
                  refine wpAnyH_take (i := 11) (v := .pointer (some ⟨gs, 2, none⟩)) (List.getElem?_toArray.trans rfl) (by kernel_rfl) (by kernel_rfl) (by kernel_rfl) (fun _ _ _ h => h) (Or.inl ⟨by rfl, fun w _ => by go_simp⟩) hHeld ?_
                  try simp only [Act.put, List.setIfInBounds_toArray, List.set_cons_zero, List.set_cons_succ]
                  refine wpAnyH_ready (rs := [12]) (by kernel_rfl) (by simp) (AllReadyH.cons (List.getElem?_toArray.trans rfl) (fun K hK => ?_) AllReadyH.nil)
                  go_simp
                  refine hK.out _ _ trivial (fun hHeld => ?_)
                  clear hK K
                  try simp only [Act.put, List.setIfInBounds_toArray, List.set_cons_zero, List.set_cons_succ]
                  refine wpAnyH_done (by kernel_rfl) ?_ _
                  go_wp2
                  go_roundw
                  case rel => exact ⟨j + 1, A9, c9, by omega, by go_num, by rw [HStep.out]; exact s9⟩
                  case measure => simp [intOf]; omega
                · go_simp
                  go_at_call 33
                  with_reducible refine (HN2.out w4 s4.rd).mono ?_; rintro e w6 ⟨rfl, hR6, hg6⟩
                  have s6 := s4.num hg6 hR6
                  have b6 := s6.box.cell 2
                  simp only [List.getElem?_toArray, List.getElem?_cons_zero, List.getElem?_cons_succ] at b6
                  refine hK.out _ _ trivial (fun hHeld => ?_)
                  clear hK K
                  try simp only [Act.put, List.setIfInBounds_toArray, List.set_cons_zero, List.set_cons_succ]
                  refine wpAnyH_take (i := 7) (v := .int .i64 (IntKind.i64.wrap m2)) (List.getElem?_toArray.trans rfl) (by kernel_rfl) (by kernel_rfl) (by kernel_rfl) (fun _ _ _ h => h) (Or.inl ⟨by rfl, fun w _ => by go_simp⟩) hHeld ?_
                  try simp only [Act.put, List.setIfInBounds_toArray, List.set_cons_zero, List.set_cons_succ]
                  refine wpAnyH_take (i := 8) (v := .agg #[.int .i64 (IntKind.i64.wrap m), .int .i64 (IntKind.i64.wrap m2)]) (List.getElem?_toArray.trans rfl) (by kernel_rfl) (by kernel_rfl) (by kernel_rfl) (fun _ _ _ h => h) (Or.inl ⟨by rfl, fun w _ => by go_simp⟩) hHeld ?_
                  try simp only [Act.put, List.setIfInBounds_toArray, List.set_cons_zero, List.set_cons_succ]
                  refine wpAnyH_ready (rs := [1, 9]) (by kernel_rfl) (by simp) (AllReadyH.cons (List.getElem?_toArray.trans rfl) (fun K hK => ?_) (AllReadyH.cons (List.getElem?_toArray.trans rfl) (fun K hK => ?_) AllReadyH.nil))
                  · go_simp
                    refine hK.out _ _ trivial (fun hHeld => ?_)
                    clear hK K
                    try simp only [Act.put, List.setIfInBounds_toArray, List.set_cons_zero, List.set_cons_succ]
                    refine wpAnyH_ready (rs := [9]) (by kernel_rfl) (by simp) (AllReadyH.cons (List.getElem?_toArray.trans rfl) (fun K hK => ?_) AllReadyH.nil)
                    have s5 := s6.alloc (.cells #[.int .i64 (IntKind.i64.wrap m), .int .i64 (IntKind.i64.wrap m2)] 47)
                    obtain ⟨v9, w9, hrun, hO9, hg9, -, -⟩ := run_append_any (P := Try.prog) (w6.alloc (.cells #[.int .i64 (IntKind.i64.wrap m), .int .i64 (IntKind.i64.wrap m2)] 47)) w.heap.size 25 25 47 i2 _ 2 16 Try.underlying25 h2i h20 h21 h22 rfl (by decide) (.slice X2 j d2) j _ s5.own.p _ (some ⟨w6.heap.size, 0, none⟩) 1 1 [.int .i64 (IntKind.i64.wrap m), .int .i64 (IntKind.i64.wrap m2)] (reads_new w6 [.int .i64 (IntKind.i64.wrap m), .int .i64 (IntKind.i64.wrap m2)] 47 1 2 rfl) (by simp [Value.oneCell']) (by unfold maxLen; omega) (by omega) s5.hb.size
                    obtain ⟨A9, c9, rfl⟩ := own_slice hO9
                    have B9 := s5.box.grown hg9 (fun e => own_blk_ne s5.own.p s5.box (by decide) e.symm)
                    have p9 := B9.cell 2
                    have f9 := B9.frozen 2
                    simp only [List.getElem?_toArray, List.getElem?_cons_zero, List.getElem?_cons_succ] at p9
                    have b5 := s5.box.cell 2
                    simp only [List.getElem?_toArray, List.getElem?_cons_zero, List.getElem?_cons_succ] at b5
                    have s9 := s5.put2 (ys := q.1 ++ [fP [m, m2]]) hg9 (by rw [show runsC (q.1 ++ [fP [m, m2]]) = runsC q.1 ++ [.int .i64 (IntKind.i64.wrap m), .int .i64 (IntKind.i64.wrap m2)] by rw [← i64N_wrap, ← i64N_wrap]; simp [runsC, runC, fP]]; exact hO9)
                    go_simp
                    refine hK.out _ _ trivial (fun hHeld => ?_)
                    clear hK K
                    try simp only [Act.put, List.setIfInBounds_toArray, List.set_cons_zero, List.set_cons_succ]
                    refine wpAnyH_ready (rs := [10]) (by kernel_rfl) (by simp) (AllReadyH.cons (List.getElem?_toArray.trans rfl) (fun K hK => ?_) AllReadyH.nil)
                    refine step_append_run rfl (.tmp 52) (.tmp 60) 25 25 rfl (.slice X2 j d2) (.slice (some ⟨w6.heap.size, 0, none⟩) 1 1) (by simp [Act.eval]) (by simp [Act.eval]) hrun ?_
                    refine hK.out _ _ trivial (fun hHeld => ?_)
                    clear hK K
                    try simp only [Act.put, List.setIfInBounds_toArray, List.set_cons_zero, List.set_cons_succ]
                    refine wpAnyH_take (i := 11) (v := .pointer (some ⟨gs, 2, none⟩)) (List.getElem?_toArray.trans rfl) (by kernel_rfl) (by kernel_rfl) (by kernel_rfl) (fun _ _ _ h => h) (Or.inl ⟨by rfl, fun w _ => by go_simp⟩) hHeld ?_
                    try simp only [Act.put, List.setIfInBounds_toArray, List.set_cons_zero, List.set_cons_succ]
                    refine wpAnyH_ready (rs := [12]) (by kernel_rfl) (by simp) (AllReadyH.cons (List.getElem?_toArray.trans rfl) (fun K hK => ?_) AllReadyH.nil)
                    go_simp
                    refine hK.out _ _ trivial (fun hHeld => ?_)
                    clear hK K
                    try simp only [Act.put, List.setIfInBounds_toArray, List.set_cons_zero, List.set_cons_succ]
                    refine wpAnyH_done (by kernel_rfl) ?_ _
                    go_wp2
                    go_roundw
                    case rel => exact ⟨j + 1, A9, c9, by omega, by go_num, by rw [HStep.out]; exact s9⟩
                    case measure => simp [intOf]; omega
                  · have s5 := s6.alloc (.cells #[.int .i64 (IntKind.i64.wrap m), .int .i64 (IntKind.i64.wrap m2)] 47)
                    obtain ⟨v9, w9, hrun, hO9, hg9, -, -⟩ := run_append_any (P := Try.prog) (w6.alloc (.cells #[.int .i64 (IntKind.i64.wrap m), .int .i64 (IntKind.i64.wrap m2)] 47)) w.heap.size 25 25 47 i2 _ 2 16 Try.underlying25 h2i h20 h21 h22 rfl (by decide) (.slice X2 j d2) j _ s5.own.p _ (some ⟨w6.heap.size, 0, none⟩) 1 1 [.int .i64 (IntKind.i64.wrap m), .int .i64 (IntKind.i64.wrap m2)] (reads_new w6 [.int .i64 (IntKind.i64.wrap m), .int .i64 (IntKind.i64.wrap m2)] 47 1 2 rfl) (by simp [Value.oneCell']) (by unfold maxLen; omega) (by omega) s5.hb.size
                    obtain ⟨A9, c9, rfl⟩ := own_slice hO9
                    have B9 := s5.box.grown hg9 (fun e => own_blk_ne s5.own.p s5.box (by decide) e.symm)
                    have p9 := B9.cell 2
                    have f9 := B9.frozen 2
                    simp only [List.getElem?_toArray, List.getElem?_cons_zero, List.getElem?_cons_succ] at p9
                    have b5 := s5.box.cell 2
                    simp only [List.getElem?_toArray, List.getElem?_cons_zero, List.getElem?_cons_succ] at b5
                    have s9 := s5.put2 (ys := q.1 ++ [fP [m, m2]]) hg9 (by rw [show runsC (q.1 ++ [fP [m, m2]]) = runsC q.1 ++ [.int .i64 (IntKind.i64.wrap m), .int .i64 (IntKind.i64.wrap m2)] by rw [← i64N_wrap, ← i64N_wrap]; simp [runsC, runC, fP]]; exact hO9)
                    go_simp
                    refine hK.out _ _ trivial (fun hHeld => ?_)
                    clear hK K
                    try simp only [Act.put, List.setIfInBounds_toArray, List.set_cons_zero, List.set_cons_succ]
                    refine wpAnyH_ready (rs := [1]) (by kernel_rfl) (by simp) (AllReadyH.cons (List.getElem?_toArray.trans rfl) (fun K hK => ?_) AllReadyH.nil)
                    go_simp
                    refine hK.out _ _ trivial (fun hHeld => ?_)
                    clear hK K
                    try simp only [Act.put, List.setIfInBounds_toArray, List.set_cons_zero, List.set_cons_succ]
                    refine wpAnyH_ready (rs := [10]) (by kernel_rfl) (by simp) (AllReadyH.cons (List.getElem?_toArray.trans rfl) (fun K hK => ?_) AllReadyH.nil)
                    refine step_append_run rfl (.tmp 52) (.tmp 60) 25 25 rfl (.slice X2 j d2) (.slice (some ⟨w6.heap.size, 0, none⟩) 1 1) (by simp [Act.eval]) (by simp [Act.eval]) hrun ?_
                    refine hK.out _ _ trivial (fun hHeld => ?_)
                    clear hK K
                    try simp only [Act.put, List.setIfInBounds_toArray, List.set_cons_zero, List.set_cons_succ]
                    refine wpAnyH_take (i := 11) (v := .pointer (some ⟨gs, 2, none⟩)) (List.getElem?_toArray.trans rfl) (by kernel_rfl) (by kernel_rfl) (by kernel_rfl) (fun _ _ _ h => h) (Or.inl ⟨by rfl, fun w _ => by go_simp⟩) hHeld ?_
                    try simp only [Act.put, List.setIfInBounds_toArray, List.set_cons_zero, List.set_cons_succ]
                    refine wpAnyH_ready (rs := [12]) (by kernel_rfl) (by simp) (AllReadyH.cons (List.getElem?_toArray.trans rfl) (fun K hK => ?_) AllReadyH.nil)
                    go_simp
                    refine hK.out _ _ trivial (fun hHeld => ?_)
                    clear hK K
                    try simp only [Act.put, List.setIfInBounds_toArray, List.set_cons_zero, List.set_cons_succ]
                    refine wpAnyH_done (by kernel_rfl) ?_ _
                    go_wp2
                    go_roundw
                    case rel => exact ⟨j + 1, A9, c9, by omega, by go_num, by rw [HStep.out]; exact s9⟩
                    case measure => simp [intOf]; omega
            · obtain rfl : x3 = j := by omega
              have HSt := HS
              generalize recR 2 fP noBad x3 M2 e2 = Q2 at *
              obtain ⟨l2, M3, e3⟩ := Q2
              dsimp only at HSt HRS
              clear HS
              have z0 := HSt.out.box.cell 0
              have z1 := HSt.out.box.cell 1
              have z2 := HSt.out.box.cell 2
              have z3 := HSt.out.box.cell 3
              simp only [List.getElem?_toArray, List.getElem?_cons_zero, List.getElem?_cons_succ] at z0 z1 z2 z3
              go_wp2_with fail
              go_loopw [65] (fun i wr => ∃ (j : Nat) (X3 : Option Addr) (d3 : Nat), j ≤ x4 ∧ i = .int .i64 j ∧ Hid (RdSt w wr gs X0 x1 d0 X1 x2 d1 X2 x3 d2 X3 j d3 ⟨l0, l1, l2, (recR 3 fH badH j M3 e3).1⟩ (recR 3 fH badH j M3 e3).2.1 (recR 3 fH badH j M3 e3).2.2)) (fun i _ => x4 - (intOf i).toNat)
              case atStart => exact ⟨0, none, 0, by omega, rfl, HSt.out⟩
              case round =>
                obtain ⟨j, X3, d3, hj, rfl, HS⟩ := hrel
                by_cases hlt : j < x4
                · have HStep : Hid (recR 3 fH badH (j + 1) M3 e3 = ((recR 3 fH badH j M3 e3).1 ++ [fH (numsR 3 (recR 3 fH badH j M3 e3).2.1 (recR 3 fH badH j M3 e3).2.2).1], (numsR 3 (recR 3 fH badH j M3 e3).2.1 (recR 3 fH badH j M3 e3).2.2).2.1, (numsR 3 (recR 3 fH badH j M3 e3).2.1 (recR 3 fH badH j M3 e3).2.2).2.2 || badH (numsR 3 (recR 3 fH badH j M3 e3).2.1 (recR 3 fH badH j M3 e3).2.2).1)) := rfl
                  generalize recR 3 fH badH j M3 e3 = q at *
                  have s0 := HS.out
                  have HN1 := Lib.hid (num_any (w.heap.size + 1) q.2.1 q.2.2 wr s0.rd)
                  have HN2 := Lib.hid (fun w' hR => num_any (w.heap.size + 1) (numR q.2.1 q.2.2).2.1 (numR q.2.1 q.2.2).2.2 w' hR)
                  have HN3 := Lib.hid (fun w' hR => num_any (w.heap.size + 1) (numR (numR q.2.1 q.2.2).2.1 (numR q.2.1 q.2.2).2.2).2.1 (numR (numR q.2.1 q.2.2).2.1 (numR q.2.1 q.2.2).2.2).2.2 w' hR)
                  have HQ3 : Hid (numsR 3 q.2.1 q.2.2 = ([(numR q.2.1 q.2.2).1, (numR (numR q.2.1 q.2.2).2.1 (numR q.2.1 q.2.2).2.2).1, (numR (numR (numR q.2.1 q.2.2).2.1 (numR q.2.1 q.2.2).2.2).2.1 (numR (numR q.2.1 q.2.2).2.1 (numR q.2.1 q.2.2).2.2).2.2).1], (numR (numR (numR q.2.1 q.2.2).2.1 (numR q.2.1 q.2.2).2.2).2.1 (numR (numR q.2.1 q.2.2).2.1 (numR q.2.1 q.2.2).2.2).2.2).2)) := rfl
                  rw [HQ3.out] at HStep
                  clear HQ3
                  generalize numR q.2.1 q.2.2 = r1 at *
                  obtain ⟨m1, L1', b1'⟩ := r1
                  dsimp only at HN2 HN3 HStep
                  generalize numR L1' b1' = r2 at *
                  obtain ⟨m2, L2', b2'⟩ := r2
                  dsimp only at HN3 HStep
                  generalize numR L2' b2' = r3 at *
                  obtain ⟨m3, L3', b3'⟩ := r3
                  dsimp only at HN1 HN2 HN3 HStep
                  go_wp2_with fail
                  refine HN1.out.mono ?_
                  rintro e w4 ⟨rfl, hR4, hg4⟩
                  have s4 := s0.num hg4 hR4
                  go_wp2_with fail
                  refine (HN2.out _ s4.rd).mono ?_
                  rintro e w5 ⟨rfl, hR5, hg5⟩
                  have s5 := s4.num hg5 hR5
                  go_wp2_with fail
                  refine (HN3.out _ s5.rd).mono ?_
                  rintro e w6 ⟨rfl, hR6, hg6⟩
                  have s6 := s5.num hg6 hR6
                  obtain ⟨t6, hB6, hsL6, hs6⟩ := s6.rd
                  have k1 := hB6.cell 1
                  have fk1 := hB6.frozen 1
                  simp only [List.getElem?_toArray, List.getElem?_cons_zero, List.getElem?_cons_succ] at k1
                  obtain ⟨xo, hxo⟩ : ∃ x : Bool, x = decide (m2 = 1) := ⟨_, rfl⟩
                  have g1 : ((m2 : Int) == 1) = xo := by rw [hxo]; by_cases h : m2 = 1 <;> simp [h] <;> omega
                  have g2 : decide ((m2 : Int) = 1) = xo := by rw [hxo]; by_cases h : m2 = 1 <;> simp [h] <;> omega
                  have g3 : (m2 == 1) = xo := by rw [hxo]; by_cases h : m2 = 1 <;> simp [h]
                  have g4 : decide (m2 = 1) = xo := hxo.symm
                  have e1 : IntKind.i64.wrap (m1 : Int) = i64N m1 := (i64N_wrap _).symm
                  have e2 : IntKind.i64.wrap (m3 : Int) = i64N m3 := (i64N_wrap _).symm
                  have f1 : wrap64 (m1 : Int) = i64N m1 := rfl
                  have f2 : wrap64 (m3 : Int) = i64N m3 := rfl
                  have HF : Hid (fH [m1, m2, m3] = ⟨i64N m1, xo, i64N m3⟩) := by show _ = _; rw [hxo]; rfl
                  generalize i64N m1 = k1' at *
                  generalize i64N m3 = k3' at *
                  have HSt9 := Lib.hid (fun (x : Bool) => s6.bad (x := x))
                  clear hB6 hsL6 hxo
                  obtain ⟨x2, hx2⟩ : ∃ x : Bool, x = (b3' || badH [m1, m2, m3]) := ⟨_, rfl⟩
                  by_cases h1m : 1 < m2
                  all_goals
                    have hbad : badH [m1, m2, m3] = decide (1 < m2) := rfl
                  · have z1 : decide (1 < m2) = true := decide_eq_true h1m
                    have z2 : decide ((1 : Int) < (m2 : Int)) = true := decide_eq_true (by omega)
                    rw [hbad, z1, Bool.or_true] at hx2
                    have HX2 : Hid ((b3' || badH [m1, m2, m3]) = x2) := by show _ = _; rw [hx2, hbad, z1]; simp
                    cases b3'
                    case false =>
                      subst hx2
                      have s7 := HSt9.out true
                      have b7 := s7.box.cell 3
                      have fb7 := s7.box.frozen 3
                      simp only [List.getElem?_toArray, List.getElem?_cons_zero, List.getElem?_cons_succ] at b7
                      have s8 := s7.alloc (.cells #[.int .i64 k1', .bool xo, .int .i64 k3'] 50)
                      have hnew := reads_new (w6.setCell ⟨w.heap.size + 1, 1, none⟩ (.bool true)) [.int .i64 k1', .bool xo, .int .i64 k3'] 50 1 3 rfl
                      rw [World.size_setCell] at hnew
                      go_wp2_with (at_builtin; refine wpList_append_any _ rfl (.tmp 85) (.tmp 93) 27 rfl w.heap.size 50 i3 _ 3 24 Try.underlying27 h3i h30 h31 h32 rfl (by decide) (.slice X3 j d3) j _ rfl s8.own.l _ (some ⟨w6.heap.size, 0, none⟩) 1 1 [.int .i64 k1', .bool xo, .int .i64 k3'] rfl hnew (by simp [Value.oneCell']) (by simp [maxLen]; omega) (by omega) s8.hb.size ?_; rintro v' w9 hO9 hg9 - -; obtain ⟨A9, c9, rfl⟩ := own_slice hO9; have B9 := s8.box.grown hg9 (fun e => own_blk_ne s8.own.l s8.box (by decide) e.symm); have p9 := B9.cell 3; have f9 := B9.frozen 3; simp only [List.getElem?_toArray, List.getElem?_cons_zero, List.getElem?_cons_succ] at p9; have s9 := s8.put3 (ys := q.1 ++ [fH [m1, m2, m3]]) hg9 (by rw [HF.out, show slotsC (q.1 ++ [⟨k1', xo, k3'⟩]) = slotsC q.1 ++ [.int .i64 k1', .bool xo, .int .i64 k3'] by simp [slotsC, slotC]]; exact hO9))
                      go_roundw
                      case rel => exact ⟨j + 1, A9, c9, by omega, by go_num, by rw [HStep.out]; dsimp only; rw [HX2.out]; exact s9⟩
                      case measure => simp [intOf]; omega
                    case true =>
                      subst hx2
                      have s7 := HSt9.out true
                      have b7 := s7.box.cell 3
                      have fb7 := s7.box.frozen 3
                      simp only [List.getElem?_toArray, List.getElem?_cons_zero, List.getElem?_cons_succ] at b7
                      have s8 := s7.alloc (.cells #[.int .i64 k1', .bool xo, .int .i64 k3'] 50)
                      have hnew := reads_new (w6.setCell ⟨w.heap.size + 1, 1, none⟩ (.bool true)) [.int .i64 k1', .bool xo, .int .i64 k3'] 50 1 3 rfl
                      rw [World.size_setCell] at hnew
                      go_wp2_with (at_builtin; refine wpList_append_any _ rfl (.tmp 85) (.tmp 93) 27 rfl w.heap.size 50 i3 _ 3 24 Try.underlying27 h3i h30 h31 h32 rfl (by decide) (.slice X3 j d3) j _ rfl s8.own.l _ (some ⟨w6.heap.size, 0, none⟩) 1 1 [.int .i64 k1', .bool xo, .int .i64 k3'] rfl hnew (by simp [Value.oneCell']) (by simp [maxLen]; omega) (by omega) s8.hb.size ?_; rintro v' w9 hO9 hg9 - -; obtain ⟨A9, c9, rfl⟩ := own_slice hO9; have B9 := s8.box.grown hg9 (fun e => own_blk_ne s8.own.l s8.box (by decide) e.symm); have p9 := B9.cell 3; have f9 := B9.frozen 3; simp only [List.getElem?_toArray, List.getElem?_cons_zero, List.getElem?_cons_succ] at p9; have s9 := s8.put3 (ys := q.1 ++ [fH [m1, m2, m3]]) hg9 (by rw [HF.out, show slotsC (q.1 ++ [⟨k1', xo, k3'⟩]) = slotsC q.1 ++ [.int .i64 k1', .bool xo, .int .i64 k3'] by simp [slotsC, slotC]]; exact hO9))
                      go_roundw
                      case rel => exact ⟨j + 1, A9, c9, by omega, by go_num, by rw [HStep.out]; dsimp only; rw [HX2.out]; exact s9⟩
                      case measure => simp [intOf]; omega
                  · have z1 : decide (1 < m2) = false := decide_eq_false h1m
                    have z2 : decide ((1 : Int) < (m2 : Int)) = false := decide_eq_false (by omega)
                    rw [hbad, z1, Bool.or_false] at hx2
                    have HX2 : Hid ((b3' || badH [m1, m2, m3]) = x2) := by show _ = _; rw [hx2, hbad, z1]; simp
                    cases b3'
                    case false =>
                      subst hx2
                      have s7 := HSt9.out false
                      have b7 := s7.box.cell 3
                      have fb7 := s7.box.frozen 3
                      simp only [List.getElem?_toArray, List.getElem?_cons_zero, List.getElem?_cons_succ] at b7
                      have s8 := s7.alloc (.cells #[.int .i64 k1', .bool xo, .int .i64 k3'] 50)
                      have hnew := reads_new (w6.setCell ⟨w.heap.size + 1, 1, none⟩ (.bool false)) [.int .i64 k1', .bool xo, .int .i64 k3'] 50 1 3 rfl
                      rw [World.size_setCell] at hnew
                      go_wp2_with (at_builtin; refine wpList_append_any _ rfl (.tmp 85) (.tmp 93) 27 rfl w.heap.size 50 i3 _ 3 24 Try.underlying27 h3i h30 h31 h32 rfl (by decide) (.slice X3 j d3) j _ rfl s8.own.l _ (some ⟨w6.heap.size, 0, none⟩) 1 1 [.int .i64 k1', .bool xo, .int .i64 k3'] rfl hnew (by simp [Value.oneCell']) (by simp [maxLen]; omega) (by omega) s8.hb.size ?_; rintro v' w9 hO9 hg9 - -; obtain ⟨A9, c9, rfl⟩ := own_slice hO9; have B9 := s8.box.grown hg9 (fun e => own_blk_ne s8.own.l s8.box (by decide) e.symm); have p9 := B9.cell 3; have f9 := B9.frozen 3; simp only [List.getElem?_toArray, List.getElem?_cons_zero, List.getElem?_cons_succ] at p9; have s9 := s8.put3 (ys := q.1 ++ [fH [m1, m2, m3]]) hg9 (by rw [HF.out, show slotsC (q.1 ++ [⟨k1', xo, k3'⟩]) = slotsC q.1 ++ [.int .i64 k1', .bool xo, .int .i64 k3'] by simp [slotsC, slotC]]; exact hO9))
                      go_roundw
                      case rel => exact ⟨j + 1, A9, c9, by omega, by go_num, by rw [HStep.out]; dsimp only; rw [HX2.out]; exact s9⟩
                      case measure => simp [intOf]; omega
                    case true =>
                      subst hx2
                      have s7 := HSt9.out true
                      have b7 := s7.box.cell 3
                      have fb7 := s7.box.frozen 3
                      simp only [List.getElem?_toArray, List.getElem?_cons_zero, List.getElem?_cons_succ] at b7
                      have s8 := s7.alloc (.cells #[.int .i64 k1', .bool xo, .int .i64 k3'] 50)
                      have hnew := reads_new (w6.setCell ⟨w.heap.size + 1, 1, none⟩ (.bool true)) [.int .i64 k1', .bool xo, .int .i64 k3'] 50 1 3 rfl
                      rw [World.size_setCell] at hnew
                      go_wp2_with (at_builtin; refine wpList_append_any _ rfl (.tmp 85) (.tmp 93) 27 rfl w.heap.size 50 i3 _ 3 24 Try.underlying27 h3i h30 h31 h32 rfl (by decide) (.slice X3 j d3) j _ rfl s8.own.l _ (some ⟨w6.heap.size, 0, none⟩) 1 1 [.int .i64 k1', .bool xo, .int .i64 k3'] rfl hnew (by simp [Value.oneCell']) (by simp [maxLen]; omega) (by omega) s8.hb.size ?_; rintro v' w9 hO9 hg9 - -; obtain ⟨A9, c9, rfl⟩ := own_slice hO9; have B9 := s8.box.grown hg9 (fun e => own_blk_ne s8.own.l s8.box (by decide) e.symm); have p9 := B9.cell 3; have f9 := B9.frozen 3; simp only [List.getElem?_toArray, List.getElem?_cons_zero, List.getElem?_cons_succ] at p9; have s9 := s8.put3 (ys := q.1 ++ [fH [m1, m2, m3]]) hg9 (by rw [HF.out, show slotsC (q.1 ++ [⟨k1', xo, k3'⟩]) = slotsC q.1 ++ [.int .i64 k1', .bool xo, .int .i64 k3'] by simp [slotsC, slotC]]; exact hO9))
                      go_roundw
                      case rel => exact ⟨j + 1, A9, c9, by omega, by go_num, by rw [HStep.out]; dsimp only; rw [HX2.out]; exact s9⟩
                      case measure => simp [intOf]; omega
                · obtain rfl : x4 = j := by omega
                  have HSt := HS
                  generalize recR 3 fH badH x4 M3 e3 = Q3 at *
                  obtain ⟨l3, Lz, bz⟩ := Q3
                  dsimp only at HSt HRS
                  clear HS
                  have DR := HSt.out.res
                  obtain ⟨o0, o1, o2, o3⟩ := HSt.out.box.four
                  obtain ⟨r0, r1, r2, r3⟩ := DR.four
                  have f0 := DR.frozen 0
                  have f1 := DR.frozen 1
                  have f2 := DR.frozen 2
                  have f3 := DR.frozen 3
                  obtain ⟨t9, hB9, hsL9, hs9⟩ := HSt.out.rd
                  have k0 := hB9.cell 0
                  have k1 := hB9.cell 1
                  simp only [List.getElem?_toArray, List.getElem?_cons_zero, List.getElem?_cons_succ] at k0 k1
                  have hbw := HSt.out.hb
                  have hwf : ∀ x ∈ l0, (Lit.int .u64 x).wf = true := by
                    intro x hx
                    have := readS_wf T x (by rw [HRS.out]; exact hx)
                    simp [Lit.wf, IntKind.min, IntKind.max, IntKind.signed, IntKind.bits]
                    omega
                  have HCk := Lib.hid (stcheck_any X0 x1 d0 X1 x2 d1 X2 x3 d2 X3 x4 d3 ⟨l0, l1, l2, l3⟩ wr HSt.out.own.reads (HSt.out.own.known hwf))
                  have HE := Lib.hid (@stE_ok ⟨l0, l1, l2, l3⟩)
                  clear hB9 hwf
                  cases bz
                  · by_cases hLz : Lz = []
                    · subst hLz
                      obtain rfl := empty_text hsL9
                      by_cases hE : stE ⟨l0, l1, l2, l3⟩ = 0
                      · have hOK := HE.out.1 hE
                        rw [hE] at HCk
                        clear hsL9
                        go_wp2_with fail
                        refine HCk.out.mono ?_
                        rintro e w5 ⟨rfl, hb5⟩
                        have DR := DR.below hb5 DR.lt
                        obtain ⟨o0, o1, o2, o3⟩ := (HSt.out.box.below hb5 HSt.out.box.lt).four
                        obtain ⟨r0, r1, r2, r3⟩ := DR.four
                        have f0 := DR.frozen 0
                        have f1 := DR.frozen 1
                        have f2 := DR.frozen 2
                        have f3 := DR.frozen 3
                        have hb6 := hbw.trans (hb5.mono hbw.size)
                        have HO := Lib.hid ((HSt.out.own.below hb5).store DR)
                        have HOKh := Lib.hid hOK
                        go_wp2_with fail
                        have z4 := (((DR.set_ 0 (.slice X0 x1 d0)).set_ 1 (.slice X1 x2 d1)).set_ 2 (.slice X2 x3 d2)).set_ 3 (.slice X3 x4 d3)
                        refine bodyPost_ret (v := .tuple #[.agg #[.slice X0 x1 d0, .slice X1 x2 d1, .slice X2 x3 d2, .slice X3 x4 d3], .int .i64 0]) ?_ rfl ⟨?_, .inl ⟨by rw [HRS.out], by rw [HRS.out]; exact HOKh.out, X0, x1, d0, X1, x2, d1, X2, x3, d2, X3, x4, d3, rfl, by rw [HRS.out]; exact HO.out _ _ _ _⟩⟩
                        · obtain ⟨z0, z1, z2, z3⟩ := z4.four
                          simp only [results, Try.results11]
                          go_simp
                        · exact (((hb6.setCell (p := ⟨w.heap.size, 0, none⟩) (Nat.le_refl _) _).setCell (p := ⟨w.heap.size, 1, none⟩) (Nat.le_refl _) _).setCell (p := ⟨w.heap.size, 2, none⟩) (Nat.le_refl _) _).setCell (p := ⟨w.heap.size, 3, none⟩) (Nat.le_refl _) _
                      · have g1 : (stE ⟨l0, l1, l2, l3⟩ != 0) = true := by simpa using hE
                        have HNO : Hid (¬ ((readS T).2 = ([], false) ∧ StOk (readS T).1)) := by
                          rw [HRS.out]
                          exact fun h => hE (HE.out.2 h.2)
                        generalize stE ⟨l0, l1, l2, l3⟩ = E at *
                        clear hsL9 hE
                        go_wp2_with fail
                        refine HCk.out.mono ?_
                        rintro e w5 ⟨rfl, hb5⟩
                        have DR := DR.below hb5 DR.lt
                        obtain ⟨r0, r1, r2, r3⟩ := DR.four
                        have f0 := DR.frozen 0
                        have f1 := DR.frozen 1
                        have f2 := DR.frozen 2
                        have f3 := DR.frozen 3
                        have hb6 := hbw.trans (hb5.mono hbw.size)
                        go_wp2_with fail
                        have z4 := (((DR.set_ 0 (.slice none 0 0)).set_ 1 (.slice none 0 0)).set_ 2 (.slice none 0 0)).set_ 3 (.slice none 0 0)
                        refine bodyPost_ret (v := .tuple #[.agg #[.slice none 0 0, .slice none 0 0, .slice none 0 0, .slice none 0 0], .int .i64 3]) ?_ rfl ⟨?_, .inr ⟨HNO.out, rfl⟩⟩
                        · obtain ⟨z0, z1, z2, z3⟩ := z4.four
                          simp only [results, Try.results11]
                          go_simp
                        · exact (((hb6.setCell (p := ⟨w.heap.size, 0, none⟩) (Nat.le_refl _) _).setCell (p := ⟨w.heap.size, 1, none⟩) (Nat.le_refl _) _).setCell (p := ⟨w.heap.size, 2, none⟩) (Nat.le_refl _) _).setCell (p := ⟨w.heap.size, 3, none⟩) (Nat.le_refl _) _
                    · have he := nonempty_text (by rw [hsL9]; exact hLz)
                      have HNO : Hid (¬ ((readS T).2 = ([], false) ∧ StOk (readS T).1)) := by
                        rw [HRS.out]
                        exact fun h => hLz (congrArg Prod.fst h.1)
                      clear hsL9 hLz HCk
                      go_wp2_with fail
                      have z4 := (((DR.set_ 0 (.slice none 0 0)).set_ 1 (.slice none 0 0)).set_ 2 (.slice none 0 0)).set_ 3 (.slice none 0 0)
                      refine bodyPost_ret (v := .tuple #[.agg #[.slice none 0 0, .slice none 0 0, .slice none 0 0, .slice none 0 0], .int .i64 3]) ?_ rfl ⟨?_, .inr ⟨HNO.out, rfl⟩⟩
                      · obtain ⟨z0, z1, z2, z3⟩ := z4.four
                        simp only [results, Try.results11]
                        go_simp
                      · exact (((hbw.setCell (p := ⟨w.heap.size, 0, none⟩) (Nat.le_refl _) _).setCell (p := ⟨w.heap.size, 1, none⟩) (Nat.le_refl _) _).setCell (p := ⟨w.heap.size, 2, none⟩) (Nat.le_refl _) _).setCell (p := ⟨w.heap.size, 3, none⟩) (Nat.le_refl _) _
                  · have HNO : Hid (¬ ((readS T).2 = ([], false) ∧ StOk (readS T).1)) := by
                      rw [HRS.out]
                      exact fun h => by have := congrArg Prod.snd h.1; cases this
                    clear hsL9 HCk
                    cases he : t9.toList.isEmpty
                    all_goals
                      go_wp2_with fail
                      have z4 := (((DR.set_ 0 (.slice none 0 0)).set_ 1 (.slice none 0 0)).set_ 2 (.slice none 0 0)).set_ 3 (.slice none 0 0)
                      refine bodyPost_ret (v := .tuple #[.agg #[.slice none 0 0, .slice none 0 0, .slice none 0 0, .slice none 0 0], .int .i64 3]) ?_ rfl ⟨?_, .inr ⟨HNO.out, rfl⟩⟩
                      · obtain ⟨z0, z1, z2, z3⟩ := z4.four
                        simp only [results, Try.results11]
                        go_simp
                      · exact (((hbw.setCell (p := ⟨w.heap.size, 0, none⟩) (Nat.le_refl _) _).setCell (p := ⟨w.heap.size, 1, none⟩) (Nat.le_refl _) _).setCell (p := ⟨w.heap.size, 2, none⟩) (Nat.le_refl _) _).setCell (p := ⟨w.heap.size, 3, none⟩) (Nat.le_refl _) _
end Go.Proofs.Ytbmkbnalembbjaa
