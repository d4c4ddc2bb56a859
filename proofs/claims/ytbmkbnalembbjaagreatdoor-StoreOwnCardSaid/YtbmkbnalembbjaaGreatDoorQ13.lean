/-
  Texts joined: StoreCollect QStoreCollect QStMem QStMem2.
-/
import Derived.Test.YtbmkbnalembbjaaGreatDoorQ9
import Derived.Test.YtbmkbnalembbjaaGreatDoorQ12
namespace Go.Proofs.YtbmkbnalembbjaaGreatDoor
open Go.RowKit
end Go.Proofs.YtbmkbnalembbjaaGreatDoor

namespace Go.Proofs.YtbmkbnalembbjaaGreatDoor
open Go.RowKit
theorem own_blkT {w : World} {base size k g : Nat} {e t : TypeId} {ok : Nat → Value → Prop} {v : Value} {xs : List Value} {cs : Array Value} (h : OwnT w base e size ok v k xs) (hB : Blk w g t cs) (hne : e ≠ t) : v.ownBlock ≠ some g := own_blk h.1 hB hne
set_option maxRecDepth 100000 in
set_option maxHeartbeats 2000000 in
theorem collectT_ok (A : Option Addr) (n c : Nat) (RA : Option Addr) (rn rc : Nat) (PA : Option Addr) (pn pc : Nat) (HA : Option Addr) (hn hc : Nat) (a r : List Int) (p : List Rn) (l : List Slot) (w : World)
    (hra : Reads w w.heap.size 1 A n (a.map (.int .u64))) (hnc : n ≤ c) (hcm : c ≤ maxLen) (ha : ∀ x ∈ a, (Lit.int .u64 x).wf = true)
    (hrr : Reads w w.heap.size 1 RA rn (r.map (.int .i64))) (hrp : Reads w w.heap.size 2 PA pn (runsC p)) (hrl : Reads w w.heap.size 3 HA hn (slotsC l)) (hOK : StoreOk a r l p) :
    Calls Tryz.prog 37 #[.agg #[.slice A n c, .slice RA rn rc, .slice PA pn pc, .slice HA hn hc]] w fun e w' => Below w.heap.size w w' ∧ ∃ (L Y b now : List Int) (A1 : Option Addr) (c1 : Nat) (A2 : Option Addr) (c2 : Nat) (A3 : Option Addr) (c3 : Nat) (A4 : Option Addr) (c4 : Nat),
      CleanIs a (fromL r l p) (pinsL p) L Y b now ∧ e = .returned (.tuple #[.agg #[.slice A1 n c1, .slice A2 rn c2, .slice A3 pn c3, .slice A4 hn c4], .int .i64 (freeL b)]) ∧
      OwnT w' w.heap.size 45 1 isW (.slice A1 n c1) n (b.map (.int .u64)) ∧
      OwnT w' w.heap.size 3 1 isN (.slice A2 rn c2) rn ((r.map (swapV (putsL (List.replicate n 0) (fromL r l p) now))).map (.int .i64)) ∧
      OwnT w' w.heap.size 57 2 isI (.slice A3 pn c3) pn (runsC p) ∧
      OwnT w' w.heap.size 60 3 isS (.slice A4 hn c4) hn (slotsC (l.map (swapS (putsL (List.replicate 256 0) (fromL r l p) now)))) := by
  have hal : a.length = n := by have := hra.1; simpa using this
  have hll : l.length = hn := by have := hrl.1; rw [slotsC_length] at this; omega
  have hpl : p.length = pn := by have := hrp.1; rw [runsC_length] at this; omega
  have hrl' : r.length = rn := by have := hrr.1; simpa using this
  have hpn := hOK.pins.len
  have hhn := (handE_ok.1 hOK.hands).1
  have hrE := hOK.roots
  rw [hal] at hrE
  obtain ⟨-, r1, r2, -⟩ := rootE_ok hrE
  obtain ⟨i0, hi, hz0, hz1, hz2⟩ := info_parts info_int
  have hmk := fun W => run_make_rowN (P := Tryz.prog) 23 3 i0 (.int .i64 0) Tryz.underlying23 hi hz0 .i64 .i64 n n (Nat.le_refl _) (by rw [hz2]; omega) (by omega) W
  have hmk2 : ∀ W, (Instr.makeSlice 23 (.int .i64 256) (.int .i64 256)).run Tryz.prog W = .ok (.slice (some ⟨W.heap.size, 0, none⟩) 256 256) (W.alloc (.cells (madeCells (Value.int .i64 0).cells (256 * i0.size)) 3)) := fun W => run_make_rowN (P := Tryz.prog) 23 3 i0 (.int .i64 0) Tryz.underlying23 hi hz0 .i64 .i64 256 256 (Nat.le_refl _) (by rw [hz2]; omega) (by omega) W
  rw [hz1, Nat.mul_one] at hmk hmk2
  have hn256 : n ≤ 256 := by omega
  have hLl := fromL_length r l p
  have hpL : (pinsL p).length = pn := by unfold pinsL; rw [List.length_map, hpl]
  have HFr := Lib.hid (fun w hrr hrp hrl => from_any A n c RA rn rc PA pn pc HA hn hc r p l w hrr hrp hrl (by omega) (by omega) hrE)
  have HP := Lib.hid (fun w hr => pinned_any A n c RA rn rc PA pn pc HA hn hc p w hr (by omega))
  have hfw : ∀ x ∈ fromL r l p, (Lit.int .i64 x).wf = true := fun x hx => at_wf (begs_bounds hOK.arena (hOK.live x hx))
  have hpw : ∀ x ∈ pinsL p, (Lit.int .i64 x).wf = true := fun x hx => at_wf (begs_bounds hOK.arena (hOK.pinned x hx))
  obtain ⟨m, hm⟩ : ∃ m, m = (fromL r l p).length := ⟨_, rfl⟩
  have HCl := Lib.hid (fun A2 c2 A3 c3 w hr hr2 hr3 => cleanQ_any A n c a A2 m c2 (fromL r l p) A3 pn c3 (pinsL p) w hr hnc hcm ha hr2 (by omega) hfw hr3 (by omega) hpw)
  have HOK := Lib.hid hOK
  have HC := Lib.hid hOK.clean
  rw [← hm] at HFr
  rw [hpL] at HP
  have HBG : Hid (∀ x ∈ fromL r l p, 0 ≤ x ∧ x < n) := fun x hx => by
    obtain ⟨s, hs, rfl⟩ := List.mem_map.1 (hOK.live x hx)
    have hs := (List.mem_filter.1 hs).1
    have h1 := ((parse_mem (parse_ok (checkE_ok.1 hOK.arena).1).2) s hs).1
    have h2 := begsL_bounds (checkE_ok.1 hOK.arena).1 _ (hOK.live _ hx)
    have h3 := h1.fits
    have h4 := h1.r0
    have h5 := h1.b0
    unfold Spot.long at h3
    omega
  have HM := Lib.hid hm
  have hOKl : Hid (pn ≤ 16) := by show _ ≤ _; omega
  have hm64 : m ≤ 64 := by omega
  generalize fromL r l p = f at *
  generalize pinsL p = q at *
  have hb0 := below_new w (.cells #[.slice A n c, .slice RA rn rc, .slice PA pn pc, .slice HA hn hc] 28)
  have hb1 := hb0.alloc hb0.size (.cells #[.slice none 0 0, .slice none 0 0, .slice none 0 0, .slice none 0 0] 28)
  have DS := (Blk.new w 28 #[.slice A n c, .slice RA rn rc, .slice PA pn pc, .slice HA hn hc]).alloc (.cells #[.slice none 0 0, .slice none 0 0, .slice none 0 0, .slice none 0 0] 28)
  have DR := Blk.new (w.alloc (.cells #[.slice A n c, .slice RA rn rc, .slice PA pn pc, .slice HA hn hc] 28)) 28 #[.slice none 0 0, .slice none 0 0, .slice none 0 0, .slice none 0 0]
  rw [World.size_alloc] at DR
  obtain ⟨s0, s1, s2, s3⟩ := DS.four
  have HRL := Lib.hid (And.intro hrl' (And.intro hll (And.intro hpl hal)))
  clear hal hll hpl hrl' hpn hhn hrE r1 r2 hLl hpL hfw hpw hm hOK hb0
  go_enter Tryz.func37, Tryz.ntmps37
  go_wp2_with fail
  refine (HFr.out _ ((hrr.below hb1).more hb1.size) ((hrp.below hb1).more hb1.size) ((hrl.below hb1).more hb1.size)).mono ?_
  rintro e w2 ⟨A2, c2, rfl, hown2, hb2⟩
  have hrF := Reads.of_own hown2
  have DS := DS.below hb2 DS.lt
  have DR := DR.below hb2 DR.lt
  have hb02 := below_step hb1 hb2
  clear s0 s1 s2 s3 hb1 hb2 hown2
  go_upto_region 2 with fail
  have hb := hb02.drew
  have DS := DS.drew
  have DR := DR.drew
  have hrF := hrF.drew
  obtain ⟨s0, s1, s2, s3⟩ := DS.four
  go_region_held3 (fun w' => w'.cell? ⟨w.heap.size, 0, none⟩ = some (.slice A n c) ∧ w'.cell? ⟨w.heap.size, 1, none⟩ = some (.slice RA rn rc) ∧ w'.cell? ⟨w.heap.size, 2, none⟩ = some (.slice PA pn pc) ∧ w'.cell? ⟨w.heap.size, 3, none⟩ = some (.slice HA hn hc)) (go_keep)
    (first
      | (go_at_call 71; (with_reducible refine (HP.out _ ((hrp.below hb).more hb.size)).mono ?_); rintro e wA ⟨A3, c3, rfl, hownA, hbA⟩; have DS := DS.below hbA DS.lt; have DR := DR.below hbA DR.lt; obtain ⟨s0, s1, s2, s3⟩ := DS.four; have hrQ := Reads.of_own hownA; have hrF := (hrF.below hbA).more hbA.size; have hb := hb.trans (hbA.mono hb.size))
      | (go_at_call 70; (with_reducible refine (HCl.out A2 c2 A3 c3 _ ((hra.below hb).more hb.size) hrF hrQ).mono ?_); rintro e wB ⟨hbB, h⟩; rcases h with ⟨-, L, Y, b, now, A5, c5, A6, c6, hIs, rfl, hown5, hown6⟩ | ⟨hno, -⟩; rotate_left 1; exact absurd HC.out hno; have DS := DS.below hbB DS.lt; have DR := DR.below hbB DR.lt; obtain ⟨s0, s1, s2, s3⟩ := DS.four; have hown5 := own_monoT hown5 hb.size; have hown6 := own_monoT hown6 hb.size; have hrF := (hrF.below hbB).more hbB.size; have hb := hb.trans (hbB.mono hb.size)))
  have HO5 := Lib.hid hown5
  have HO6 := Lib.hid hown6
  have HIS := Lib.hid hIs
  clear hown5 hown6 hIs hownA hrQ HCl HC HP HFr
  go_wp2_with fail
  refine (clone_pinT PA pn pc _ (runsC p) _ (hrp.below hb) hb.size (runsC_one _) (isI_runs _) (by have := hOKl.out; omega)).mono ?_
  rintro e w4 ⟨A7, c7, rfl, hown7, hb7⟩
  have hown7 := own_monoT hown7 hb.size
  have DS := DS.below hb7 DS.lt
  have DR := DR.below hb7 DR.lt
  have HO5 := Lib.hid (own_belowT HO5.out hb7)
  have HO6 := Lib.hid (own_belowT HO6.out hb7)
  have hrF := hrF.below hb7
  have hb := hb.trans (hb7.mono hb.size)
  obtain ⟨s0, s1, s2, s3⟩ := DS.four
  have hbo := hb.alloc hb.size (.cells #[.slice A5 n c5, .slice none 0 0, .slice A7 pn c7, .slice none 0 0] 28)
  have DO := Blk.new w4 28 #[.slice A5 n c5, .slice none 0 0, .slice A7 pn c7, .slice none 0 0]
  go_upto_region 4 with fail
  go_cut [9, 10] from 11 to 98 (fun s9 s10 wc => ∃ g1 g2, s9 = .slice (some ⟨g1, 0, none⟩) n n ∧ s10 = .slice (some ⟨g2, 0, none⟩) 256 256 ∧ g1 ≠ g2 ∧
    wc.ownsRow (w4.heap.size + 1) 3 1 (.slice (some ⟨g1, 0, none⟩) n n) n (List.replicate n (.int .i64 0)) ∧ wc.ownsRow (w4.heap.size + 1) 3 1 (.slice (some ⟨g2, 0, none⟩) 256 256) 256 (List.replicate 256 (.int .i64 0)) ∧
    Below (w4.heap.size + 1) (w4.alloc (.cells #[.slice A5 n c5, .slice none 0 0, .slice A7 pn c7, .slice none 0 0] 28)) wc)
  case first =>
    have DSo := DS.alloc (.cells #[.slice A5 n c5, .slice none 0 0, .slice A7 pn c7, .slice none 0 0] 28)
    obtain ⟨s0, s1, s2, s3⟩ := DSo.four
    obtain ⟨d0, d1, d2, d3⟩ := DSo.drew.four
    have e0 := fun o => (DSo.alloc o).four.1
    have e1 := fun o => (DSo.drew.alloc o).four.1
    go_region
    all_goals
      go_wp2_with fail
      go_meet
      have T1 := two_made (w4.alloc (.cells #[.slice A5 n c5, .slice none 0 0, .slice A7 pn c7, .slice none 0 0] 28)) (w4.heap.size + 1) n 256 (by rw [World.size_alloc]; exact Nat.le_refl _) (by unfold maxLen; omega) (by unfold maxLen; omega)
      have T2 := two_made (w4.alloc (.cells #[.slice A5 n c5, .slice none 0 0, .slice A7 pn c7, .slice none 0 0] 28)) (w4.heap.size + 1) 256 n (by rw [World.size_alloc]; exact Nat.le_refl _) (by unfold maxLen; omega) (by unfold maxLen; omega)
      rw [World.size_alloc] at T1 T2
    · refine ⟨w4.heap.size + 1, w4.heap.size + 1 + 1, rfl, rfl, by omega, ?_, ?_, ?_⟩
      · first | exact T1.1 | exact T1.1.drew
      · first | exact T1.2.1 | exact T1.2.1.drew
      · first | exact T1.2.2 | exact T1.2.2.drew
    · refine ⟨w4.heap.size + 1 + 1, w4.heap.size + 1, rfl, rfl, by omega, ?_, ?_, ?_⟩
      · first | exact T2.2.1 | exact T2.2.1.drew
      · first | exact T2.1 | exact T2.1.drew
      · first | exact T2.2.2 | exact T2.2.2.drew
  case rest =>
    obtain ⟨g1, g2, rfl, rfl, hg, hO1, hO2, hbw⟩ := hcut
    have hrN := reads_ofT HO6.out
    have hnl : now.length = m := by have := hrN.1; simpa using this
    have HNL := Lib.hid hnl
    have hO1 : wc.ownsRow (w4.heap.size + 1) 3 1 (.slice (some ⟨g1, 0, none⟩) n n) n ((putsL (List.replicate n 0) (f.take 0) (now.take 0)).map (.int .i64)) := by simpa [putsL] using hO1
    have hO2 : wc.ownsRow (w4.heap.size + 1) 3 1 (.slice (some ⟨g2, 0, none⟩) 256 256) 256 ((putsL (List.replicate 256 0) (f.take 0) (now.take 0)).map (.int .i64)) := by simpa [putsL] using hO2
    clear hnl
    go_wp2_with fail
    go_loopw [42] (fun i wr => ∃ j : Nat, j ≤ m ∧ i = .int .i64 j ∧ wr.ownsRow (w4.heap.size + 1) 3 1 (.slice (some ⟨g1, 0, none⟩) n n) n ((putsL (List.replicate n 0) (f.take j) (now.take j)).map (.int .i64)) ∧ wr.ownsRow (w4.heap.size + 1) 3 1 (.slice (some ⟨g2, 0, none⟩) 256 256) 256 ((putsL (List.replicate 256 0) (f.take j) (now.take j)).map (.int .i64)) ∧ Below (w4.heap.size + 1) (w4.alloc (.cells #[.slice A5 n c5, .slice none 0 0, .slice A7 pn c7, .slice none 0 0] 28)) wr) (fun i _ => m - (intOf i).toNat)
    case atStart => exact ⟨0, Nat.zero_le _, rfl, hO1, hO2, hbw⟩
    case round =>
      obtain ⟨j, hj, rfl, hO1, hO2, hbr⟩ := hrel
      by_cases hlt : j < m
      · have hb4 : Below w4.heap.size w4 wr := (below_new w4 _).trans (hbr.mono (Nat.le_succ _))
        obtain ⟨ad, x, rfl, had, hx, cx⟩ := ((hrF.more hb7.size).below hb4).num hlt
        obtain ⟨ad2, y, rfl, had2, hy, cy⟩ := (hrN.below hb4).num hlt
        have hxn := HBG.out x (List.mem_of_getElem? hx)
        have hfl : (f.take j).length = (now.take j).length := by rw [List.length_take, List.length_take, HNL.out, ← HM.out]
        have HF : Hid (f.take (j + 1) = f.take j ++ [x]) := by
          show _ = _
          obtain ⟨h1, rfl⟩ := List.getElem?_eq_some_iff.1 hx
          exact List.take_succ_eq_append_getElem h1
        have HN : Hid (now.take (j + 1) = now.take j ++ [y]) := by
          show _ = _
          obtain ⟨h1, rfl⟩ := List.getElem?_eq_some_iff.1 hy
          exact List.take_succ_eq_append_getElem h1
        obtain ⟨X, rfl⟩ : ∃ X : Nat, x = X := ⟨x.toNat, by omega⟩
        have hX : X < n := by omega
        have e1 : X < ((putsL (List.replicate n 0) (f.take j) (now.take j)).map (Value.int .i64)).length := by rw [List.length_map, putsL_length, List.length_replicate]; exact hX
        have e2 : X < ((putsL (List.replicate 256 0) (f.take j) (now.take j)).map (Value.int .i64)).length := by rw [List.length_map, putsL_length, List.length_replicate]; omega
        have cc1 := hO1.cellAt X (by rw [List.length_map, putsL_length, List.length_replicate] at e1; omega)
        have cc2 := hO2.cellAt X (by rw [List.length_map, putsL_length, List.length_replicate] at e2; omega)
        rw [List.getElem?_eq_getElem e1] at cc1
        rw [List.getElem?_eq_getElem e2] at cc2
        have f1 := hO1.frozenAt X
        have f2 := hO2.frozenAt X
        have hX256 : X < 256 := by omega
        have hj1 : j + 1 ≤ m := hlt
        have gg1 := (hO1.lt g1 rfl).1
        have gg2 := (hO2.lt g2 rfl).1
        have hv1 : (Value.slice (some ⟨g1, 0, none⟩) n n).ownBlock ≠ some g2 := by simpa [Value.ownBlock] using hg
        have hv2 : (Value.slice (some ⟨g2, 0, none⟩) 256 256).ownBlock ≠ some g1 := by simpa [Value.ownBlock] using fun h : g2 = g1 => hg h.symm
        have T1 := own_apart (hO1.stored X (.int .i64 y)).1 (p := ⟨g2, X, none⟩) hv1 (.int .i64 y)
        have T2 := own_apart (hO2.stored X (.int .i64 y)).1 (p := ⟨g1, X, none⟩) hv2 (.int .i64 y)
        have T3 := ((own_apart hO1 (p := ⟨g2, X, none⟩) hv1 (.int .i64 y)).stored X (.int .i64 y)).1
        have T4 := ((own_apart hO2 (p := ⟨g1, X, none⟩) hv2 (.int .i64 y)).stored X (.int .i64 y)).1
        rw [← List.map_set] at T1 T2 T3 T4
        have hs1 := putsL_snoc hfl (X : Int) y (List.replicate n 0)
        have hs2 := putsL_snoc hfl (X : Int) y (List.replicate 256 0)
        rw [Int.toNat_natCast] at hs1 hs2
        rw [← hs1, ← HF.out, ← HN.out] at T1 T3
        rw [← hs2, ← HF.out, ← HN.out] at T2 T4
        have OA1 := Lib.hid T1
        have OA2 := Lib.hid T2
        have OA3 := Lib.hid T3
        have OA4 := Lib.hid T4
        have hb12 := (hbr.setCell (p := ⟨g1, X, none⟩) gg1 (.int .i64 y)).setCell (p := ⟨g2, X, none⟩) gg2 (.int .i64 y)
        have hb21 := (hbr.setCell (p := ⟨g2, X, none⟩) gg2 (.int .i64 y)).setCell (p := ⟨g1, X, none⟩) gg1 (.int .i64 y)
        clear T1 T2 T3 T4 hs1 hs2 hv1 hv2 hx hy hfl hO1 hO2
        go_wp2
        go_region
        all_goals
          go_wp2
          go_roundw
          case rel => first
            | exact ⟨j + 1, hj1, by go_num, OA1.out, OA4.out, hb12⟩
            | exact ⟨j + 1, hj1, by go_num, OA3.out, OA2.out, hb21⟩
            | exact ⟨j + 1, hj1, by go_num, OA1.out.drew, OA4.out.drew, hb12.drew⟩
            | exact ⟨j + 1, hj1, by go_num, OA3.out.drew, OA2.out.drew, hb21.drew⟩
          case measure => simp [intOf]; omega
      · have hjm : j = m := by omega
        have e1 : f.take j = f := List.take_of_length_le (by rw [← HM.out]; omega)
        have e2 : now.take j = now := List.take_of_length_le (by rw [HNL.out]; omega)
        rw [e1, e2] at hO1 hO2
        have hIs := HIS.out
        obtain ⟨n1, n2, n3, n4⟩ := HRL.out
        have hp1 := puts_in hIs n (by omega)
        have hp2 := puts_in hIs 256 (by omega)
        have hl1 : (putsL (List.replicate n 0) f now).length = n := by rw [putsL_length, List.length_replicate]
        have hSE : swapE r n (putsL (List.replicate n 0) f now) = 0 := swapE_of (by have := HOK.out.roots; rwa [n4] at this) (by rw [hl1]) (fun v hv => by have := hp1 v hv; omega)
        have HSw := Lib.hid (fun w hr hr2 => swapT_ok RA (some ⟨g1, 0, none⟩) rn rc n n r (putsL (List.replicate n 0) f now) w hr hr2 hSE)
        have HHs := Lib.hid (fun w hr hr2 => handSwapT_ok HA (some ⟨g2, 0, none⟩) hn hc 256 l (putsL (List.replicate 256 0) f now) w hr hr2 HOK.out.hands hp2)
        have hb4 : Below w4.heap.size w4 wr := (below_new w4 _).trans (hbr.mono (Nat.le_succ _))
        have DSr := DS.below hb4 DS.lt
        have DOr := DO.below hbr (Nat.lt_succ_self _)
        have hb0r := hb.trans (hb4.mono hb.size)
        obtain ⟨s0, s1, s2, s3⟩ := DSr.four
        obtain ⟨o0, o1, o2, o3⟩ := DOr.four
        have hr1 := Reads.of_own hO1
        have hr2 := Reads.of_own hO2
        clear e1 e2 hIs n1 n2 n3 n4 hp1 hp2 hl1 hSE
        go_wp2_with fail
        refine (HSw.out _ ((hrr.below hb0r).more hb0r.size) hr1).mono ?_
        rintro e w5 ⟨A8, c8, rfl, hown8, hb5⟩
        have hb0s := below_step hb0r hb5
        have DS5 := (DSr.below hb5 DSr.lt).far (p := ⟨w4.heap.size, 1, none⟩) (by have := DS.lt; dsimp only; omega) (.slice A8 rn c8)
        have DO5 := (DOr.below hb5 DOr.lt).set_ 1 (.slice A8 rn c8)
        have hO25 := own_apart (own_below hO2 hb5) (p := ⟨w4.heap.size, 1, none⟩) (own_off (own_below hO2 hb5) (Nat.lt_succ_self _)) (.slice A8 rn c8)
        have hO85 := own_apartT hown8 (p := ⟨w4.heap.size, 1, none⟩) (own_offT hown8 DOr.lt) (.slice A8 rn c8)
        have hbt := hb0s.setCell (p := ⟨w4.heap.size, 1, none⟩) hb.size (.slice A8 rn c8)
        have fo := (DOr.below hb5 DOr.lt).frozen 1
        obtain ⟨p0, p1, p2, p3⟩ := (DOr.below hb5 DOr.lt).four
        obtain ⟨t0, t1, t2, t3⟩ := DS5.four
        have hr25 := Reads.of_own hO25
        clear s0 s1 s2 s3 o0 o1 o2 o3 HSw hr1 hr2
        go_wp2_with fail
        refine (HHs.out _ ((hrl.below hbt).more hbt.size) hr25).mono ?_
        rintro e w6 ⟨A9, c9, rfl, hown9, hb6⟩
        have hbu := below_step hbt hb6
        have DO6 := DO5.below hb6 (by have := DO5.lt; exact this)
        obtain ⟨q0, q1, q2, q3⟩ := DO6.four
        have fo3 := DO6.frozen 3
        clear t0 t1 t2 t3 p0 p1 p2 p3 fo HHs
        have hbv := hbu.setCell (p := ⟨w4.heap.size, 3, none⟩) hb.size (.slice A9 hn c9)
        have DO7 := DO6.set_ 3 (.slice A9 hn c9)
        go_upto_region 13 with fail
        have k1 := (below_step hb4 hb5).setCell (p := ⟨w4.heap.size, 1, none⟩) (Nat.le_refl _) (.slice A8 rn c8)
        have k2 := (below_step k1 hb6).setCell (p := ⟨w4.heap.size, 3, none⟩) (Nat.le_refl _) (.slice A9 hn c9)
        have hOb := own_belowT HO5.out k2
        have hOp := own_belowT hown7 k2
        have hbw := ((cleaned_of HIS.out).wf HIS.out ha).1
        have hnc5 := own_cap hOb.1
        have hrB := reads_ofT hOb
        have HGp := Lib.hid (fun w hr => ggapsE_any A5 n c5 b w hr hnc5 hbw)
        go_wp2_with fail
        refine (HGp.out _ hrB).mono ?_
        rintro e w8 ⟨hb8, A10, c10, rfl, hownG⟩
        obtain ⟨-, -, gl, -, gn⟩ := (cleaned_of HIS.out).gaps HIS.out
        have HFL : Hid (freeL b = rsum (ggL b)) := rfl
        have hrG := Reads.of_own hownG
        have k3 := below_step k2 hb8
        have hb08 := below_step hbv hb8
        generalize ggL b = G at *
        obtain ⟨g, hgl⟩ : ∃ g, g = G.length := ⟨_, rfl⟩
        rw [← hgl] at hrG gn ⊢
        have HGL := Lib.hid hgl
        have HRT := Lib.hid (rsum_takeG gl)
        have DO8 := DO7.below hb8 (by have := DO7.lt; exact this)
        clear gl hgl hbw hnc5 hrB HGp hownG q0 q1 q2 q3 fo3
        go_wp2_with fail
        go_loopw [13, 88] (fun fr i wz => ∃ (j : Nat) (u : Int), j ≤ g ∧ i = .int .i64 j ∧ fr = .int .i64 u ∧ 0 ≤ u ∧ u ≤ 65792 ∧ Hid (u = rsum (G.take j)) ∧ Below w8.heap.size w8 wz) (fun _ i _ => g - (intOf i).toNat)
        case atStart => exact ⟨0, 0, Nat.zero_le _, rfl, rfl, by omega, by omega, by show _ = _; simp [rsum], Below.refl _ _⟩
        case round =>
          obtain ⟨i, u, hi, rfl, rfl, hu0, hu1, hu, hbz⟩ := hrel
          by_cases hlt : i < g
          · obtain ⟨ad, r, rfl, had, hs, c0, c1⟩ := (hrG.below hbz).run hlt
            have HT : Hid (G.take (i + 1) = G.take i ++ [r]) := by
              show _ = _
              obtain ⟨h1, rfl⟩ := List.getElem?_eq_some_iff.1 hs
              exact List.take_succ_eq_append_getElem h1
            have HU2 : Hid (u + r.len = rsum (G.take (i + 1))) := by
              show _ = _
              rw [HT.out, rsum_append, hu.out]
              simp only [rsum]
              omega
            have hbd2 : 0 ≤ u + r.len ∧ u + r.len ≤ 65792 := by
              have hbd := HRT.out (i + 1) (by have := HGL.out; omega)
              have hu2 := HU2.out
              omega
            obtain ⟨lo, k⟩ := r
            dsimp only at *
            have hw : IntKind.i64.wrap (u + k) = u + k := IntWalk.i64_in _ (by omega)
            have hbx := hbz.alloc hbz.size (.cells #[.int .i64 lo, .int .i64 k] 133)
            clear hs
            go_wp2_with fail
            go_roundw
            case rel => exact ⟨i + 1, u + k, by omega, by go_num, rfl, hbd2.1, hbd2.2, HU2, hbx⟩
            case measure => simp [intOf]; omega
          · have hig : i = g := by omega
            subst hig
            rw [List.take_of_length_le (by rw [← HGL.out]; exact Nat.le_refl _)] at hu
            have HU : Hid (freeL b = u) := by show _ = _; rw [HFL.out, hu.out]
            have k4 := below_step k3 hbz
            have DOz := DO8.below hbz DO8.lt
            have DRz := DR.below k4 DR.lt
            obtain ⟨o0, o1, o2, o3⟩ := DOz.four
            obtain ⟨r0, r1, r2, r3⟩ := DRz.four
            have fr0 := DRz.frozen 0
            have fr1 := DRz.frozen 1
            have fr2 := DRz.frozen 2
            have fr3 := DRz.frozen 3
            have hOr := own_belowT (own_belowT (own_apartT (own_belowT hO85 hb6) (p := ⟨w4.heap.size, 3, none⟩) (own_offT (own_belowT hO85 hb6) DOr.lt) (.slice A9 hn c9)) hb8) (hbz)
            have hOh := own_belowT (own_belowT (own_apartT hown9 (p := ⟨w4.heap.size, 3, none⟩) (own_offT hown9 (by have := DO5.lt; exact this)) (.slice A9 hn c9)) hb8) (hbz)
            have hOa := own_belowT HO5.out k4
            have hOq := own_belowT hown7 k4
            have hbE := below_step hb08 hbz
            have HA1 := Lib.hid hOa
            have HA2 := Lib.hid hOr
            have HA3 := Lib.hid hOq
            have HA4 := Lib.hid hOh
            have n1 := own_blkT hOa DRz (by decide)
            have n2 := own_blkT hOr DRz (by decide)
            have n3 := own_blkT hOq DRz (by decide)
            have n4 := own_blkT hOh DRz (by decide)
            go_wp2_with fail
            have z4 := (((DRz.set_ 0 (.slice A5 n c5)).set_ 1 (.slice A8 rn c8)).set_ 2 (.slice A7 pn c7)).set_ 3 (.slice A9 hn c9)
            have q4 : ∀ {base e size ok k v xs}, OwnT wr base e size ok v k xs → v.ownBlock ≠ some (w.heap.size + 1) → OwnT ((((wr.setCell ⟨w.heap.size + 1, 0, none⟩ (.slice A5 n c5)).setCell ⟨w.heap.size + 1, 1, none⟩ (.slice A8 rn c8)).setCell ⟨w.heap.size + 1, 2, none⟩ (.slice A7 pn c7)).setCell ⟨w.heap.size + 1, 3, none⟩ (.slice A9 hn c9)) base e size ok v k xs :=
              fun h hne => own_apartT (own_apartT (own_apartT (own_apartT h (p := ⟨w.heap.size + 1, 0, none⟩) hne _) (p := ⟨w.heap.size + 1, 1, none⟩) hne _) (p := ⟨w.heap.size + 1, 2, none⟩) hne _) (p := ⟨w.heap.size + 1, 3, none⟩) hne _
            refine bodyPost_ret (v := .tuple #[.agg #[.slice A5 n c5, .slice A8 rn c8, .slice A7 pn c7, .slice A9 hn c9], .int .i64 u]) ?_ rfl ⟨?_, L, Y, b, now, A5, c5, A8, c8, A7, c7, A9, c9, HIS.out, ?_, ?_, ?_, ?_, ?_⟩
            · obtain ⟨z0, z1, z2, z3⟩ := z4.four
              simp only [results, Tryz.results37]
              go_simp
            · exact (((hbE.setCell (p := ⟨w.heap.size + 1, 0, none⟩) (Nat.le_succ _) _).setCell (p := ⟨w.heap.size + 1, 1, none⟩) (Nat.le_succ _) _).setCell (p := ⟨w.heap.size + 1, 2, none⟩) (Nat.le_succ _) _).setCell (p := ⟨w.heap.size + 1, 3, none⟩) (Nat.le_succ _) _
            · rw [HU.out]
            · exact q4 HA1.out n1
            · exact q4 (own_monoT HA2.out (by have := hb0r.size; omega)) n2
            · exact q4 HA3.out n3
            · exact q4 (own_monoT HA4.out hbt.size) n4
end Go.Proofs.YtbmkbnalembbjaaGreatDoor

namespace Go.Proofs.YtbmkbnalembbjaaGreatDoor
open Go.RowKit
structure StR (w : World) (B : Nat) (A : Option Addr) (n : Nat) (RA : Option Addr) (rn : Nat) (PA : Option Addr) (pn : Nat) (HA : Option Addr) (hn : Nat) (S : St) : Prop where
  a : Reads w B 1 A n (S.a.map (.int .u64))
  r : Reads w B 1 RA rn (S.r.map (.int .i64))
  p : Reads w B 2 PA pn (runsC S.p)
  l : Reads w B 3 HA hn (slotsC S.l)
structure StK (n c rn pn hn : Nat) (S : St) : Prop where
  cap : n ≤ c
  max : c ≤ maxLen
  wf : ∀ x ∈ S.a, (Lit.int .u64 x).wf = true
  rn : rn ≤ 9223372036854775807
  pn : pn ≤ 9223372036854775807
  hn : hn ≤ 9223372036854775807
structure StO (w : World) (base : Nat) (A : Option Addr) (n c : Nat) (RA : Option Addr) (rn rc : Nat) (PA : Option Addr) (pn pc : Nat) (HA : Option Addr) (hn hc : Nat) (S : St) : Prop where
  a : OwnT w base 45 1 isW (.slice A n c) n (S.a.map (.int .u64))
  r : OwnT w base 3 1 isN (.slice RA rn rc) rn (S.r.map (.int .i64))
  p : OwnT w base 57 2 isI (.slice PA pn pc) pn (runsC S.p)
  l : OwnT w base 60 3 isS (.slice HA hn hc) hn (slotsC S.l)
section
variable {w w' : World} {B n c rn rc pn pc hn hc : Nat} {A RA PA HA : Option Addr} {S : St}
theorem StR.below (h : StR w B A n RA rn PA pn HA hn S) (hb : Below B w w') : StR w' B A n RA rn PA pn HA hn S := ⟨h.a.below hb, h.r.below hb, h.p.below hb, h.l.below hb⟩
theorem StR.more {B' : Nat} (h : StR w B A n RA rn PA pn HA hn S) (hB : B ≤ B') : StR w B' A n RA rn PA pn HA hn S := ⟨h.a.more hB, h.r.more hB, h.p.more hB, h.l.more hB⟩
theorem StR.drew (h : StR w B A n RA rn PA pn HA hn S) : StR w.drew B A n RA rn PA pn HA hn S := ⟨h.a.drew, h.r.drew, h.p.drew, h.l.drew⟩
theorem StR.lens (h : StR w B A n RA rn PA pn HA hn S) : S.a.length = n ∧ S.r.length = rn ∧ S.p.length = pn ∧ S.l.length = hn := by
  refine ⟨by have := h.a.1; simpa using this, by have := h.r.1; simpa using this, ?_, ?_⟩
  · have := h.p.1; rw [runsC_length] at this; omega
  · have := h.l.1; rw [slotsC_length] at this; omega
theorem StO.reads {base : Nat} (h : StO w base A n c RA rn rc PA pn pc HA hn hc S) : StR w w.heap.size A n RA rn PA pn HA hn S := ⟨reads_ofT h.a, reads_ofT h.r, reads_ofT h.p, reads_ofT h.l⟩
theorem StO.below {base : Nat} (h : StO w base A n c RA rn rc PA pn pc HA hn hc S) (hb : Below w.heap.size w w') : StO w' base A n c RA rn rc PA pn pc HA hn hc S := ⟨own_belowT h.a hb, own_belowT h.r hb, own_belowT h.p hb, own_belowT h.l hb⟩
theorem StO.mono {base base' : Nat} (h : StO w base' A n c RA rn rc PA pn pc HA hn hc S) (hb : base ≤ base') : StO w base A n c RA rn rc PA pn pc HA hn hc S := ⟨own_monoT h.a hb, own_monoT h.r hb, own_monoT h.p hb, own_monoT h.l hb⟩
theorem StO.drew {base : Nat} (h : StO w base A n c RA rn rc PA pn pc HA hn hc S) : StO w.drew base A n c RA rn rc PA pn pc HA hn hc S := ⟨h.a.drew, h.r.drew, h.p.drew, h.l.drew⟩
theorem own_max {base size k d : Nat} {e : TypeId} {xs : List Value} (h : w.ownsRow base e size (.slice A k d) k xs) : d ≤ maxLen := by
  rcases h.2 with ⟨h, _⟩ | ⟨g, cap, cur, h, _, _, _, h4, _⟩
  · injection h with _ _ h3
    subst h3
    exact Nat.zero_le _
  · injection h with _ _ h3
    subst h3
    exact h4
theorem StO.known {base : Nat} (h : StO w base A n c RA rn rc PA pn pc HA hn hc S) (hw : ∀ x ∈ S.a, (Lit.int .u64 x).wf = true) : StK n c rn pn hn S := by
  have h1 := own_cap h.r.1
  have h2 := own_cap h.p.1
  have h3 := own_cap h.l.1
  have h4 := own_max h.r.1
  have h5 := own_max h.p.1
  have h6 := own_max h.l.1
  unfold maxLen at h4 h5 h6
  exact ⟨own_cap h.a.1, own_max h.a.1, hw, by omega, by omega, by omega⟩
theorem own_block4 {base e size k g : Nat} {v : Value} {xs : List Value} {t : TypeId} {cs : Array Value} (h : w.ownsRow base e size v k xs) (hB : Blk w g t cs) (hne : e ≠ t) (x0 x1 x2 x3 : Value) :
    ((((w.setCell ⟨g, 0, none⟩ x0).setCell ⟨g, 1, none⟩ x1).setCell ⟨g, 2, none⟩ x2).setCell ⟨g, 3, none⟩ x3).ownsRow base e size v k xs := by
  have hn := own_blk h hB hne
  exact own_apart (own_apart (own_apart (own_apart h (p := ⟨g, 0, none⟩) hn _) (p := ⟨g, 1, none⟩) hn _) (p := ⟨g, 2, none⟩) hn _) (p := ⟨g, 3, none⟩) hn _
theorem own_block4T {base e size k g : Nat} {ok : Nat → Value → Prop} {v : Value} {xs : List Value} {t : TypeId} {cs : Array Value} (h : OwnT w base e size ok v k xs) (hB : Blk w g t cs) (hne : e ≠ t) (x0 x1 x2 x3 : Value) :
    OwnT ((((w.setCell ⟨g, 0, none⟩ x0).setCell ⟨g, 1, none⟩ x1).setCell ⟨g, 2, none⟩ x2).setCell ⟨g, 3, none⟩ x3) base e size ok v k xs := by
  have hn := own_blk h.1 hB hne
  exact own_apartT (own_apartT (own_apartT (own_apartT h (p := ⟨g, 0, none⟩) hn _) (p := ⟨g, 1, none⟩) hn _) (p := ⟨g, 2, none⟩) hn _) (p := ⟨g, 3, none⟩) hn _
theorem StO.store {base g : Nat} {cs : Array Value} (h : StO w base A n c RA rn rc PA pn pc HA hn hc S) (hB : Blk w g 28 cs) (x0 x1 x2 x3 : Value) :
    StO ((((w.setCell ⟨g, 0, none⟩ x0).setCell ⟨g, 1, none⟩ x1).setCell ⟨g, 2, none⟩ x2).setCell ⟨g, 3, none⟩ x3) base A n c RA rn rc PA pn pc HA hn hc S :=
  ⟨own_block4T h.a hB (by decide) _ _ _ _, own_block4T h.r hB (by decide) _ _ _ _, own_block4T h.p hB (by decide) _ _ _ _, own_block4T h.l hB (by decide) _ _ _ _⟩
theorem below_block4 {base g : Nat} {w0 : World} (h : Below base w0 w) (hg : base ≤ g) (x0 x1 x2 x3 : Value) :
    Below base w0 ((((w.setCell ⟨g, 0, none⟩ x0).setCell ⟨g, 1, none⟩ x1).setCell ⟨g, 2, none⟩ x2).setCell ⟨g, 3, none⟩ x3) :=
  (((h.setCell (p := ⟨g, 0, none⟩) hg _).setCell (p := ⟨g, 1, none⟩) hg _).setCell (p := ⟨g, 2, none⟩) hg _).setCell (p := ⟨g, 3, none⟩) hg _
end
end Go.Proofs.YtbmkbnalembbjaaGreatDoor

namespace Go.Proofs.YtbmkbnalembbjaaGreatDoor
open Go.RowKit
section
variable {w w' : World} {base n c rn rc pn pc hn hc : Nat} {A RA PA HA : Option Addr} {S : St}
theorem own_some {size k d : Nat} {e : TypeId} {xs : List Value} (h : w.ownsRow base e size (.slice A k d) k xs) (hk : 0 < k) : ∃ g, A = some ⟨g, 0, none⟩ ∧ base ≤ g ∧ ∃ cur : Array Value, Blk w g e cur := by
  rcases h.2 with ⟨h, _⟩ | ⟨g, cap, cur, h, hg, hh, _⟩
  · injection h with _ h2 _
    omega
  · injection h with h1 _ _
    exact ⟨g, h1, hg, cur, hh⟩
theorem StO.setA {g p : Nat} {v : Int} (h : StO w base (some ⟨g, 0, none⟩) n c RA rn rc PA pn pc HA hn hc S) {cur : Array Value} (hB : Blk w g 45 cur) :
    StO (w.setCell ⟨g, p, none⟩ (.int .u64 v)) base (some ⟨g, 0, none⟩) n c RA rn rc PA pn pc HA hn hc ⟨S.a.set p v, S.r, S.p, S.l⟩ := by
  have h1 := ownT_setAt h.a p (.int .u64 v) ⟨v, rfl⟩
  rw [← List.map_set] at h1
  exact ⟨h1, own_apartT h.r (p := ⟨g, p, none⟩) (own_blkT h.r hB (by decide)) _, own_apartT h.p (p := ⟨g, p, none⟩) (own_blkT h.p hB (by decide)) _, own_apartT h.l (p := ⟨g, p, none⟩) (own_blkT h.l hB (by decide)) _⟩
theorem StO.setR {g p : Nat} {v : Int} (h : StO w base A n c (some ⟨g, 0, none⟩) rn rc PA pn pc HA hn hc S) {cur : Array Value} (hB : Blk w g 3 cur) :
    StO (w.setCell ⟨g, p, none⟩ (.int .i64 v)) base A n c (some ⟨g, 0, none⟩) rn rc PA pn pc HA hn hc ⟨S.a, S.r.set p v, S.p, S.l⟩ := by
  have h1 := ownT_setAt h.r p (.int .i64 v) ⟨v, rfl⟩
  rw [← List.map_set] at h1
  exact ⟨own_apartT h.a (p := ⟨g, p, none⟩) (own_blkT h.a hB (by decide)) _, h1, own_apartT h.p (p := ⟨g, p, none⟩) (own_blkT h.p hB (by decide)) _, own_apartT h.l (p := ⟨g, p, none⟩) (own_blkT h.l hB (by decide)) _⟩
theorem Blk.store4 {g : Nat} {t : TypeId} {a b c d : Value} (h : Blk w g t #[a, b, c, d]) (x0 x1 x2 x3 : Value) :
    Blk ((((w.setCell ⟨g, 0, none⟩ x0).setCell ⟨g, 1, none⟩ x1).setCell ⟨g, 2, none⟩ x2).setCell ⟨g, 3, none⟩ x3) g t #[x0, x1, x2, x3] := (((h.set_ 0 x0).set_ 1 x1).set_ 2 x2).set_ 3 x3
theorem Blk.far4 {g g' : Nat} {t : TypeId} {cs : Array Value} (h : Blk w g t cs) (hne : g ≠ g') (x0 x1 x2 x3 : Value) :
    Blk ((((w.setCell ⟨g', 0, none⟩ x0).setCell ⟨g', 1, none⟩ x1).setCell ⟨g', 2, none⟩ x2).setCell ⟨g', 3, none⟩ x3) g t cs := (((h.far (p := ⟨g', 0, none⟩) hne x0).far (p := ⟨g', 1, none⟩) hne x1).far (p := ⟨g', 2, none⟩) hne x2).far (p := ⟨g', 3, none⟩) hne x3
theorem Blk.four_frozen {g : Nat} {t : TypeId} {cs : Array Value} (h : Blk w g t cs) : w.frozen? ⟨g, 0, none⟩ = false ∧ w.frozen? ⟨g, 1, none⟩ = false ∧ w.frozen? ⟨g, 2, none⟩ = false ∧ w.frozen? ⟨g, 3, none⟩ = false := ⟨h.frozen 0, h.frozen 1, h.frozen 2, h.frozen 3⟩
end
end Go.Proofs.YtbmkbnalembbjaaGreatDoor
