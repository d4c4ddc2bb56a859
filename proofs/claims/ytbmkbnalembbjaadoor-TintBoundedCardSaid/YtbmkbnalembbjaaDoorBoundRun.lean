/-
  package tint: Mark.
-/
import Derived.Test.YtbmkbnalembbjaaDoorBoundEmpty
namespace Go.Proofs.YtbmkbnalembbjaaDoor
open Go.RowKit

set_option maxHeartbeats 1000000 in
theorem tmark_bad (A : Option Addr) (n c : Nat) (a : List Int) (A2 : Option Addr) (n2 c2 : Nat) (rm : Int) (w : World) (hr : Reads w w.heap.size 1 A n (a.map (.int .u64))) (hnc : n ≤ c) (ha : ∀ x ∈ a, (Lit.int .u64 x).wf = true) (hE : checkE a ≠ 0) :
    Calls Tryd.prog 5 #[.slice A n c, .slice A2 n2 c2, .int .i64 rm] w fun e w' => e = .returned (.tuple #[.agg #[.slice none 0 0, .int .i64 0, .int .i64 0], .int .i64 (checkE a)]) ∧ Below w.heap.size w w' := by
  have hb1 := below_new w (.cells #[.slice none 0 0, .int .i64 0, .int .i64 0] 26)
  have DR := Blk.new w 26 #[.slice none 0 0, .int .i64 0, .int .i64 0]
  have H := Lib.hid (fun w hr => heap_bad A n c a A2 n2 c2 w hr hnc ha hE)
  have hE1 : (checkE a != 0) = true := by simpa using hE
  generalize checkE a = E at *
  clear hE
  go_enter Tryd.func5, Tryd.ntmps5
  go_wp2_with fail
  refine (H.out _ ((hr.below hb1).more hb1.size)).mono ?_
  rintro e w1 ⟨rfl, hb2⟩
  have hb02 := below_step hb1 hb2
  have DR := DR.below hb2 DR.lt
  have r0 := DR.cell 0
  have r1 := DR.cell 1
  have r2 := DR.cell 2
  have f0 := DR.frozen 0
  have f1 := DR.frozen 1
  have f2 := DR.frozen 2
  simp only [List.getElem?_toArray, List.getElem?_cons_zero, List.getElem?_cons_succ] at r0 r1 r2
  have HB := Lib.hid (((hb02.setCell (p := ⟨w.heap.size, 0, none⟩) (Nat.le_refl _) (.slice none 0 0)).setCell (p := ⟨w.heap.size, 1, none⟩) (Nat.le_refl _) (.int .i64 0)).setCell (p := ⟨w.heap.size, 2, none⟩) (Nat.le_refl _) (.int .i64 0))
  clear DR hb1 hb2 hb02
  go_wp2
  refine bodyPost_ret (v := .tuple #[.agg #[.slice none 0 0, .int .i64 0, .int .i64 0], .int .i64 E]) ?_ rfl ⟨rfl, HB.out⟩
  simp only [results, Tryd.results5]
  go_simp

/-- What Mark answers where it marks. -/
def Marked (w w' : World) (n : Nat) (a f : List Int) (room : Nat) (e : Ending) : Prop :=
  ∃ (L : List Int) (st : Mk) (Am : Option Addr) (cm : Nat) (m : List Int), Reached a (spotsL a) f L ∧ MkOk room L st ∧ (∀ x, x ∈ st.M ↔ x ∈ L) ∧ MarksOf (spotsL a) st.M m ∧ U64s m ∧ m.length = (n + 63) / 64 ∧
    e = .returned (.tuple #[.agg #[.slice Am ((n + 63) / 64) cm, .int .i64 st.passes, .int .i64 st.deep], .int .i64 0]) ∧ w'.ownsRow w.heap.size 41 1 (.slice Am ((n + 63) / 64) cm) ((n + 63) / 64) (m.map (.int .u64))
theorem mk_zero (k j : Nat) : mk (List.replicate k 0) j = false := by
  unfold mk
  rw [List.getD_eq_getElem?_getD, List.getElem?_replicate]
  split <;> simp

set_option maxRecDepth 100000 in
set_option maxHeartbeats 4000000 in
theorem tmark_ok (A : Option Addr) (n c : Nat) (a : List Int) (A2 : Option Addr) (n2 c2 : Nat) (f : List Int) (rm : Int) (w : World) (hr : Reads w w.heap.size 1 A n (a.map (.int .u64))) (hnc : n ≤ c) (ha : ∀ x ∈ a, (Lit.int .u64 x).wf = true)
    (hr2 : Reads w w.heap.size 1 A2 n2 (f.map (.int .i64))) (hn2 : n2 ≤ 1000000000000000000) (hx2 : ∀ x ∈ f, (Lit.int .i64 x).wf = true) (hE : checkE a = 0) :
    Calls Tryd.prog 5 #[.slice A n c, .slice A2 n2 c2, .int .i64 rm] w fun e w' => Below w.heap.size w w' ∧
      ((∃ x, x ≠ 0 ∧ ¬ ((∀ y ∈ f, y ∈ begsL (spotsL a)) ∧ 1 ≤ rm ∧ rm ≤ 256) ∧ e = .returned (.tuple #[.agg #[.slice none 0 0, .int .i64 0, .int .i64 0], .int .i64 x])) ∨
       ((∀ x ∈ f, x ∈ begsL (spotsL a)) ∧ ∃ room : Nat, rm = room ∧ 1 ≤ room ∧ room ≤ 256 ∧ Marked w w' n a f room e)) := by
  have hb1 := below_new w (.cells #[.slice none 0 0, .int .i64 0, .int .i64 0] 26)
  have DR := Blk.new w 26 #[.slice none 0 0, .int .i64 0, .int .i64 0]
  have hal : a.length = n := by have := hr.1; simpa using this
  have hfl : f.length = n2 := by have := hr2.1; simpa using this
  have h0 := (checkE_ok.1 hE).1
  have hn : n ≤ 256 := by have := (parse_ok h0).1; omega
  have H := Lib.hid (fun w hr hr2 => heap_ok A n c a A2 n2 c2 f w hr hnc ha hr2 hn2 hx2 hE)
  have HFl := Lib.hid hfl
  have HAl := Lib.hid hal
  have HE := Lib.hid hE
  have H0 := Lib.hid h0
  clear ha hx2 hE h0 hfl hal
  go_enter Tryd.func5, Tryd.ntmps5
  go_wp2_with fail
  refine (H.out _ ((hr.below hb1).more hb1.size) ((hr2.below hb1).more hb1.size)).mono ?_
  rintro e w2 ⟨hb2, hcase⟩
  have hb02 := below_step hb1 hb2
  have DR := DR.below hb2 DR.lt
  rcases hcase with ⟨hall, gh, rfl, b, Ah, kh, ch, g1, g2, g3, g4, g5⟩ | ⟨hex, rfl⟩
  · by_cases hrm : 1 ≤ rm ∧ rm ≤ 256
    · obtain ⟨room, rfl⟩ : ∃ room : Nat, rm = room := ⟨rm.toNat, by omega⟩
      obtain ⟨L, hL⟩ := reached_ex HE.out hall
      obtain ⟨nm, hnm⟩ : ∃ nm, nm = (n + 63) / 64 := ⟨_, rfl⟩
      have hO : HeapOk w2 gh b A Ah n c kh ch a := ⟨g1, g4, own_mono g5 (Nat.zero_le _), (hr.below hb02).more hb02.size, hnc, HAl.out, hn, HE.out⟩
      have HO := Lib.hid hO
      have HMk := Lib.hid (mkMark_any w2 gh b A Ah n c kh ch a hO nm room hnm (by omega))
      have HHs := Lib.hid (mkHas_any w2 gh b A Ah n c kh ch a hO nm room hnm)
      have HEa := Lib.hid (mkEach_any w2 gh b A Ah n c kh ch a hO nm room hnm (by omega) L hL.begs hL.closed)
      have HEm := Lib.hid (mkEmpty_any w2 gh b A Ah n c kh ch a hO nm room hnm (by omega) L hL.begs hL.closed)
      have HL := Lib.hid hL
      have HA := Lib.hid hall
      have HNm := Lib.hid hnm
      have hr2x := hr2.below hb02
      obtain ⟨i0, hi, hz0, hz1, hz2⟩ := info_parts info_u64
      have q1 : (IntKind.i64.wrap ((n : Int) + 63)) = (n : Int) + 63 := IntWalk.i64_in _ (by omega)
      have q2 : ((n : Int) + 63).tdiv 64 = nm := by
        have h3 : ((n : Int) + 63).tdiv 64 = ((n : Int) + 63) / 64 := Int.tdiv_eq_ediv_of_nonneg (by omega)
        rw [h3, hnm]
        omega
      have hnm256 : nm ≤ 256 := by omega
      have hmk := fun W => run_make_rowN (P := Tryd.prog) 22 41 i0 (.int .u64 0) Tryd.underlying22 hi hz0 .i64 .i64 nm nm (Nat.le_refl _) (by rw [hz2]; omega) (by omega) W
      rw [hz1, Nat.mul_one] at hmk
      have e1 : decide ((room : Int) < 1) = false := decide_eq_false (by omega)
      have e2 : decide ((256 : Int) < room) = false := decide_eq_false (by omega)
      have hB1 := Blk.new w2 49 #[.pointer (some ⟨gh, 0, none⟩), .int .i64 room, .slice none 0 0, .bool false, .slice none 0 0, .int .i64 0, .int .i64 0]
      have hB2 := hB1.alloc (.cells (madeCells #[Value.int .u64 0] nm) 41)
      have k4 := hB2.cell 4
      have f4 := hB2.frozen 4
      simp only [List.getElem?_toArray, List.getElem?_cons_zero, List.getElem?_cons_succ] at k4
      have HS0 : Hid (MarkSt w2 gh nm (spotsL a) room ⟨[], false, [], 0, 0⟩ ((w2.alloc (.cells #[.pointer (some ⟨gh, 0, none⟩), .int .i64 room, .slice none 0 0, .bool false, .slice (some ⟨w2.heap.size + 1, 0, none⟩) nm nm, .int .i64 0, .int .i64 0] 49)).alloc (.cells (madeCells #[Value.int .u64 0] nm) 41))) := by
        have hown := own_make1 (w2.alloc (.cells #[.pointer (some ⟨gh, 0, none⟩), .int .i64 room, .slice none 0 0, .bool false, .slice (some ⟨w2.heap.size + 1, 0, none⟩) nm nm, .int .i64 0, .int .i64 0] 49)) (w2.heap.size + 1) 41 (.int .u64 0) nm (madeCells #[Value.int .u64 0] nm) rfl (by simp) (by unfold maxLen; omega)
        refine ⟨none, 0, some ⟨w2.heap.size + 1, 0, none⟩, nm, List.replicate nm 0, (Blk.new w2 49 #[.pointer (some ⟨gh, 0, none⟩), .int .i64 room, .slice none 0 0, .bool false, .slice (some ⟨w2.heap.size + 1, 0, none⟩) nm nm, .int .i64 0, .int .i64 0]).alloc _, World.ownsRow_nil _ _ _ _, ?_, by simp, ?_, ?_, ?_⟩
        · rw [List.map_replicate]
          simpa using hown
        · intro x hx
          rw [(List.mem_replicate.1 hx).2]; rfl
        · intro j
          rw [mk_zero]
          simp
        · exact (below_new w2 _).alloc (by simp) _
      clear hO hL hall hnm g1 g2 g3 g4 g5 hr hr2 hB1 hB2
      go_wp2
      go_loopw [12, 49] (fun _ i wr => ∃ (j : Nat), j ≤ n2 ∧ i = .int .i64 j ∧ Hid (∃ st, MarkSt w2 gh nm (spotsL a) room st wr ∧ MkOk room L st ∧ MkAt (linksAt a (spotsL a)) (fun _ => False) st ∧ ∀ x ∈ f.take j, x ∈ st.M)) (fun _ i _ => n2 - (intOf i).toNat)
      case atStart => exact ⟨0, Nat.zero_le _, rfl, _, HS0.out, MkOk.start _ _, (fun _ x hx => by cases hx), by simp⟩
      case round =>
        obtain ⟨j, hj, rfl, HS⟩ := hrel
        obtain ⟨st, hs, hok, hat, hft⟩ := HS.out
        have hbr := hs.below
        by_cases hlt : j < n2
        · obtain ⟨ad, x, rfl, had, hx, cx⟩ := (hr2x.below (hbr.mono hb02.size)).num hlt
          have hxf := List.mem_of_getElem? hx
          have hxb := HA.out x hxf
          have hxx := begsL_bounds H0.out x hxb
          obtain ⟨k, rfl⟩ := Int.eq_ofNat_of_zero_le hxx.1
          have hxL := HL.out.roots _ hxf
          have HM := Lib.hid (HMk.out st wr hs (fun y hy => HL.out.begs y (hok.sub y hy)) hok.fits k hxb)
          have HS2 : Hid (MkOk room L (st.mark room k) ∧ MkAt (linksAt a (spotsL a)) (fun _ => False) (st.mark room k) ∧ ∀ y ∈ f.take (j + 1), y ∈ (st.mark room k).M) := by
            refine ⟨hok.mark hxL, hat.mark room k, fun y hy => ?_⟩
            obtain ⟨q1, q2⟩ := List.getElem?_eq_some_iff.1 hx
            rw [List.take_succ_eq_append_getElem q1, List.mem_append] at hy
            have hs := Mk.mark_sub room st k
            rcases hy with hy | hy
            · exact hs.1 y (hft y hy)
            · simp only [List.mem_cons, List.not_mem_nil, or_false] at hy
              rw [hy, q2]; exact hs.2
          have hj1 : j + 1 ≤ n2 := hlt
          clear hx hxf hxb hxx hxL hs hok hat hft HS hbr
          go_wp2_with fail
          refine HM.out.mono ?_
          rintro e w3 ⟨rfl, hA3⟩
          have HA3 := Lib.hid hA3
          clear hA3
          go_wp2
          go_roundw
          case rel => exact ⟨j + 1, hj1, by go_num, _, HA3.out, HS2.out⟩
          case measure => simp [intOf]; omega
        · have hft2 : ∀ x ∈ f, x ∈ st.M := by
            rw [List.take_of_length_le (by rw [HFl.out]; omega)] at hft
            exact hft
          have HEm1 := Lib.hid (HEm.out _ st wr hs hok hat)
          have HFt := Lib.hid hft2
          have g0 : decide (j < n2) = false := decide_eq_false hlt
          clear hft hs hok hat hft2 HS hbr
          go_wp2_with fail
          refine HEm1.out.mono ?_
          rintro e w4 ⟨rfl, st2, hs2, ht2, hn2'⟩
          have H2 : Hid (∃ st, MarkSt w2 gh nm (spotsL a) room st w4 ∧ MkOk room L st ∧ MkAt (linksAt a (spotsL a)) (fun _ => False) st ∧ st.stack = [] ∧ ∀ x ∈ f, x ∈ st.M) := ⟨st2, hs2, ht2.ok, ht2.at_, hn2', fun x hx => ht2.more x (HFt.out x hx)⟩
          obtain ⟨g, hg⟩ := measure_ex (fun (wr : World) (k : Nat) => ∃ st, MarkSt w2 gh nm (spotsL a) room st wr ∧ MkOk room L st ∧ MkAt (linksAt a (spotsL a)) (fun _ => False) st ∧ st.stack = [] ∧ (∀ x ∈ f, x ∈ st.M) ∧ k = L.length - st.passes)
          have HG := Lib.hid hg
          clear hs2 ht2 hn2' hg HFt HS0 hmk k4 f4
          go_wp2
          go_loopw [59] (fun _ wr => Hid (∃ st, MarkSt w2 gh nm (spotsL a) room st wr ∧ MkOk room L st ∧ MkAt (linksAt a (spotsL a)) (fun _ => False) st ∧ st.stack = [] ∧ ∀ x ∈ f, x ∈ st.M)) (fun _ wr => g wr)
          case atStart => exact H2
          case round =>
            obtain ⟨stx, y1, y2, y3, y4, y5⟩ := hrel.out
            obtain ⟨⟨st, hs, hok, hat, hnil, hft, hms⟩, -⟩ := HG.out wr _ ⟨stx, y1, y2, y3, y4, y5, rfl⟩
            clear y1 y2 y3 y4 y5 hrel
            have hbr := hs.below
            obtain ⟨As, cs, Am, cm, m, g1, g2, g3, g4, g5, g6, g7⟩ := hs
            have hpa := hok.past
            have hmx := hok.marked
            have hL256 : L.length ≤ 256 := nodup_bound 256 L HL.out.once (fun x hx => begsL_bounds H0.out x (HL.out.begs x hx))
            obtain ⟨ps, hps⟩ : ∃ ps, ps = st.passes := ⟨_, rfl⟩
            obtain ⟨dp, hdp⟩ : ∃ dp, dp = st.deep := ⟨_, rfl⟩
            rw [← hps, ← hdp] at g1
            rw [← hps] at hpa
            cases hov : st.over
            · rw [hov] at g1
              have c3 := g1.cell 3
              have c4 := g1.cell 4
              have c5 := g1.cell 5
              have c6 := g1.cell 6
              have DRx := DR.below hbr DR.lt
              have r0 := DRx.cell 0
              have r1 := DRx.cell 1
              have r2 := DRx.cell 2
              have f0 := DRx.frozen 0
              have f1 := DRx.frozen 1
              have f2 := DRx.frozen 2
              simp only [List.getElem?_toArray, List.getElem?_cons_zero, List.getElem?_cons_succ] at c3 c4 c5 c6 r0 r1 r2
              have hwl : w.heap.size < w2.heap.size := DR.lt
              have HB := Lib.hid ((((below_step hb02 hbr).setCell (p := ⟨w.heap.size, 0, none⟩) (Nat.le_refl _) (.slice Am nm cm)).setCell (p := ⟨w.heap.size, 1, none⟩) (Nat.le_refl _) (.int .i64 ps)).setCell (p := ⟨w.heap.size, 2, none⟩) (Nat.le_refl _) (.int .i64 dp))
              have HMd : Hid (Marked w ((((wr.setCell ⟨w.heap.size, 0, none⟩ (.slice Am nm cm)).setCell ⟨w.heap.size, 1, none⟩ (.int .i64 ps))).setCell ⟨w.heap.size, 2, none⟩ (.int .i64 dp)) n a f room (.returned (.tuple #[.agg #[.slice Am nm cm, .int .i64 ps, .int .i64 dp], .int .i64 0]))) := by
                obtain ⟨hall, -⟩ := hok.all HL.out hat hov hnil hft
                refine ⟨L, st, Am, cm, m, HL.out, hok, hall, g6, g5, by rw [g4]; exact HNm.out, by rw [hps, hdp, HNm.out], ?_⟩
                rw [← HNm.out]
                exact own_mono (own_far (own_far (own_far g3 (by dsimp only; omega) _) (by dsimp only; omega) _) (by dsimp only; omega) _) (by omega)
              clear g1 g2 g3 g4 g5 g6 g7 hok hat hnil hft hms hps hdp hov hbr DR DRx hpa hmx
              go_wp2
              refine bodyPost_ret (v := .tuple #[.agg #[.slice Am nm cm, .int .i64 ps, .int .i64 dp], .int .i64 0]) ?_ rfl ⟨HB.out, .inr ⟨HA.out, room, rfl, by omega, by omega, HMd.out⟩⟩
              simp only [results, Tryd.results5]
              go_simp
            · rw [hov] at g1
              rw [hov, if_pos rfl] at hpa
              have hb0 := HO.out.blk.below hbr HO.out.blk.lt
              have k2 := hb0.cell 2
              have c3 := g1.cell 3
              have c5 := g1.cell 5
              have f3 := g1.frozen 3
              have f5 := g1.frozen 5
              simp only [List.getElem?_toArray, List.getElem?_cons_zero, List.getElem?_cons_succ] at k2 c3 c5
              have hgl := HO.out.blk.lt
              have ne1 : w2.heap.size ≠ gh := by omega
              have ne2 : gh ≠ w2.heap.size := by omega
              have HT : Hid (MarkSt w2 gh nm (spotsL a) room st.turn ((wr.setCell ⟨w2.heap.size, 3, none⟩ (.bool false)).setCell ⟨w2.heap.size, 5, none⟩ (.int .i64 ((ps + 1 : Nat) : Int)))) := by
                have g1' := (g1.set_ 3 (.bool false)).set_ 5 (.int .i64 ((ps + 1 : Nat) : Int))
                refine ⟨As, cs, Am, cm, m, ?_, own_far (own_far g2 (by dsimp only; omega) _) (by dsimp only; omega) _, own_far (own_far g3 (by dsimp only; omega) _) (by dsimp only; omega) _, g4, g5, g6, (g7.setCell (p := ⟨w2.heap.size, 3, none⟩) (Nat.le_refl _) _).setCell (p := ⟨w2.heap.size, 5, none⟩) (Nat.le_refl _) _⟩
                simp only [Mk.turn]
                rw [← hps, ← hdp]
                simpa using g1'
              have HK := Lib.hid hok
              have HNi := Lib.hid hnil
              have HFt := Lib.hid hft
              have HMs := Lib.hid hms
              have HPs := Lib.hid hps
              have HPa := Lib.hid hpa
              have HMx := Lib.hid hmx
              have HOv := Lib.hid hov
              have w1 : IntKind.i64.wrap ((ps : Int) + 1) = ((ps + 1 : Nat) : Int) := by rw [IntWalk.i64_in _ (by omega)]; rfl
              have hrow := HO.out.row
              have hkl : (begsL (spotsL a)).length = kh := by have := hrow.1; simpa using this
              have HKl := Lib.hid hkl
              have HRow := Lib.hid hrow
              have hkh : kh ≤ 256 := by rw [← hkl]; exact nodup_bound 256 _ ((begs_sorted H0.out).imp (fun h => Int.ne_of_lt h)) (fun x hx => begsL_bounds H0.out x hx)
              obtain ⟨wo, hwo⟩ : ∃ x, x = wr := ⟨wr, rfl⟩
              subst hwo
              clear g1 g2 g3 g4 g5 g6 g7 hok hat hnil hft hms hps hdp hov hbr hb0 hpa hmx hrow hkl hL256
              go_wp2
              go_loopw [14, 80] (fun _ i wr => ∃ (j : Nat), j ≤ kh ∧ i = .int .i64 j ∧ Hid (∃ s3, MarkSt w2 gh nm (spotsL a) room s3 wr ∧ MkOk room L s3 ∧ MkAt (linksAt a (spotsL a)) (fun y => y ∈ (begsL (spotsL a)).drop j) s3 ∧ s3.stack = [] ∧ (∀ x ∈ f, x ∈ s3.M) ∧ s3.passes = st.passes + 1)) (fun _ i _ => kh - (intOf i).toNat)
              case atStart => exact ⟨0, Nat.zero_le _, rfl, st.turn, HT.out, HK.out.turn HOv.out, MkAt.turn (fun x hx => by rw [List.drop_zero]; exact HL.out.begs x (HK.out.sub x hx)), HNi.out, HFt.out, rfl⟩
              case round =>
                obtain ⟨j, hj, rfl, HS⟩ := hrel
                obtain ⟨s3, hs3, hok3, hat3, hnil3, hft3, hps3⟩ := HS.out
                have hbr := hs3.below
                by_cases hlt : j < kh
                · obtain ⟨ad, x, rfl, had, hx, cx⟩ := (Reads.of_own (own_below HRow.out hbr)).num hlt
                  have hxb := List.mem_of_getElem? hx
                  have hxx := begsL_bounds H0.out x hxb
                  obtain ⟨k, rfl⟩ := Int.eq_ofNat_of_zero_le hxx.1
                  have hdr : (begsL (spotsL a)).drop j = (k : Int) :: (begsL (spotsL a)).drop (j + 1) := by
                    obtain ⟨q1, q2⟩ := List.getElem?_eq_some_iff.1 hx
                    rw [List.drop_eq_getElem_cons q1, q2]
                  have hj1 : j + 1 ≤ kh := hlt
                  have HHas := HHs.out s3 wr hs3 (fun y hy => HL.out.begs y (hok3.sub y hy)) k hxb
                  have m0 : wr.cell? ⟨w2.heap.size, 0, none⟩ = some (.pointer (some ⟨gh, 0, none⟩)) := by
                    obtain ⟨_, _, _, _, _, g1, -⟩ := hs3
                    have := g1.cell 0
                    simpa using this
                  by_cases hm : (k : Int) ∈ s3.M
                  · rw [decide_eq_true hm] at HHas
                    have HHas := Lib.hid HHas
                    have hat4 : MkAt (linksAt a (spotsL a)) (fun y => y ∈ (begsL (spotsL a)).drop (j + 1) ∨ y = (k : Int)) s3 := hat3.less (fun y _ hy => by
                      rw [hdr] at hy
                      rcases List.mem_cons.1 hy with hy | hy
                      · exact .inl (.inr hy)
                      · exact .inl (.inl hy))
                    have HEa1 := Lib.hid (fun q => HEa.out _ s3 (wr.drewN q) (hs3.drewN q) hok3 k (hok3.sub _ hm) hat4)
                    have HFt3 := Lib.hid hft3
                    have HPs3 := Lib.hid hps3
                    clear hs3 hok3 hat3 hnil3 hft3 hps3 hbr hx hxb hxx hdr hm hat4 HS
                    go_wp2_with fail
                    refine HHas.out.mono ?_
                    rintro e w5 ⟨rfl, q, rfl⟩
                    go_wp2_with fail
                    refine (HEa1.out _).mono ?_
                    rintro e w6 ⟨rfl, s4, hs4, ht4⟩
                    have HEm1 := Lib.hid (HEm.out _ s4 w6 hs4 ht4.ok ht4.at_)
                    have HFt4 : Hid (∀ x ∈ f, x ∈ s4.M) := fun x hx => ht4.more x (HFt3.out x hx)
                    have HPs4 : Hid (s4.passes = st.passes + 1) := ht4.passes.trans HPs3.out
                    clear hs4 ht4
                    go_wp2_with fail
                    refine HEm1.out.mono ?_
                    rintro e w7 ⟨rfl, s5, hs5, ht5, hn5⟩
                    have HFin : Hid (∃ s3, MarkSt w2 gh nm (spotsL a) room s3 w7 ∧ MkOk room L s3 ∧ MkAt (linksAt a (spotsL a)) (fun y => y ∈ (begsL (spotsL a)).drop (j + 1)) s3 ∧ s3.stack = [] ∧ (∀ x ∈ f, x ∈ s3.M) ∧ s3.passes = st.passes + 1) := ⟨s5, hs5, ht5.ok, ht5.at_, hn5, fun x hx => ht5.more x (HFt4.out x hx), ht5.passes.trans HPs4.out⟩
                    clear hs5 ht5 hn5
                    go_wp2
                    go_roundw
                    case rel => exact ⟨j + 1, hj1, by go_num, HFin⟩
                    case measure => simp [intOf]; omega
                  · rw [decide_eq_false hm] at HHas
                    have HHas := Lib.hid HHas
                    have HFin : Hid (∀ q, ∃ s3, MarkSt w2 gh nm (spotsL a) room s3 (wr.drewN q) ∧ MkOk room L s3 ∧ MkAt (linksAt a (spotsL a)) (fun y => y ∈ (begsL (spotsL a)).drop (j + 1)) s3 ∧ s3.stack = [] ∧ (∀ x ∈ f, x ∈ s3.M) ∧ s3.passes = st.passes + 1) := fun q => ⟨s3, hs3.drewN q, hok3, hat3.less (fun y hyM hy => by
                      rw [hdr] at hy
                      rcases List.mem_cons.1 hy with hy | hy
                      · rw [hy] at hyM; exact absurd hyM hm
                      · exact .inl hy), hnil3, hft3, hps3⟩
                    clear hs3 hok3 hat3 hnil3 hft3 hps3 hbr hx hxb hxx hdr hm HS
                    go_wp2_with fail
                    refine HHas.out.mono ?_
                    rintro e w5 ⟨rfl, q, rfl⟩
                    go_wp2
                    go_roundw
                    case rel => exact ⟨j + 1, hj1, by go_num, HFin.out q⟩
                    case measure => simp [intOf]; omega
                · have hjk : j = kh := by omega
                  have HFin : Hid (∃ st, MarkSt w2 gh nm (spotsL a) room st wr ∧ MkOk room L st ∧ MkAt (linksAt a (spotsL a)) (fun _ => False) st ∧ st.stack = [] ∧ ∀ x ∈ f, x ∈ st.M) := ⟨s3, hs3, hok3, hat3.less (fun y _ hy => by
                    rw [hjk, List.drop_of_length_le (by rw [HKl.out]; exact Nat.le_refl _)] at hy
                    cases hy), hnil3, hft3⟩
                  have HMe : Hid (g wr < g wo) := by
                    obtain ⟨-, h2⟩ := HG.out wr _ ⟨s3, hs3, hok3, hat3.less (fun y _ hy => by
                      rw [hjk, List.drop_of_length_le (by rw [HKl.out]; exact Nat.le_refl _)] at hy
                      cases hy), hnil3, hft3, rfl⟩
                    have h3 := HMs.out
                    have h4 := HPa.out
                    have h5 := HMx.out
                    have h6 := HPs.out
                    show g wr < g wo
                    omega
                  have g0 : decide (j < kh) = false := decide_eq_false hlt
                  clear hs3 hok3 hat3 hnil3 hft3 hps3 hbr hjk HS
                  go_wp2
                  go_roundw
                  case rel => exact HFin
                  case measure => exact HMe.out
    · have HNo : Hid (¬ ((∀ y ∈ f, y ∈ begsL (spotsL a)) ∧ 1 ≤ rm ∧ rm ≤ 256)) := fun h => hrm h.2
      clear g1 g2 g3 g4 g5 hall hr hr2
      have r0 := DR.cell 0
      have r1 := DR.cell 1
      have r2 := DR.cell 2
      have f0 := DR.frozen 0
      have f1 := DR.frozen 1
      have f2 := DR.frozen 2
      simp only [List.getElem?_toArray, List.getElem?_cons_zero, List.getElem?_cons_succ] at r0 r1 r2
      have HB := Lib.hid (((hb02.setCell (p := ⟨w.heap.size, 0, none⟩) (Nat.le_refl _) (.slice none 0 0)).setCell (p := ⟨w.heap.size, 1, none⟩) (Nat.le_refl _) (.int .i64 0)).setCell (p := ⟨w.heap.size, 2, none⟩) (Nat.le_refl _) (.int .i64 0))
      clear DR hb1 hb2 hb02
      by_cases h1 : rm < 1
      · have e1 : decide (rm < 1) = true := decide_eq_true h1
        clear hrm
        go_wp2
        refine bodyPost_ret (v := .tuple #[.agg #[.slice none 0 0, .int .i64 0, .int .i64 0], .int .i64 1]) ?_ rfl ⟨HB.out, .inl ⟨1, by decide, HNo.out, rfl⟩⟩
        simp only [results, Tryd.results5]
        go_simp
      · have e1 : decide (rm < 1) = false := decide_eq_false h1
        have h2 : 256 < rm := by omega
        have e2 : decide (256 < rm) = true := decide_eq_true h2
        clear hrm
        go_wp2
        refine bodyPost_ret (v := .tuple #[.agg #[.slice none 0 0, .int .i64 0, .int .i64 0], .int .i64 1]) ?_ rfl ⟨HB.out, .inl ⟨1, by decide, HNo.out, rfl⟩⟩
        simp only [results, Tryd.results5]
        go_simp
  · have HNo : Hid (¬ ((∀ y ∈ f, y ∈ begsL (spotsL a)) ∧ 1 ≤ rm ∧ rm ≤ 256)) := fun h => by
      obtain ⟨x, hx, hx2⟩ := hex
      exact hx2 (h.1 x hx)
    clear hex hr hr2
    have r0 := DR.cell 0
    have r1 := DR.cell 1
    have r2 := DR.cell 2
    have f0 := DR.frozen 0
    have f1 := DR.frozen 1
    have f2 := DR.frozen 2
    simp only [List.getElem?_toArray, List.getElem?_cons_zero, List.getElem?_cons_succ] at r0 r1 r2
    have HB := Lib.hid (((hb02.setCell (p := ⟨w.heap.size, 0, none⟩) (Nat.le_refl _) (.slice none 0 0)).setCell (p := ⟨w.heap.size, 1, none⟩) (Nat.le_refl _) (.int .i64 0)).setCell (p := ⟨w.heap.size, 2, none⟩) (Nat.le_refl _) (.int .i64 0))
    clear DR hb1 hb2 hb02
    go_wp2
    refine bodyPost_ret (v := .tuple #[.agg #[.slice none 0 0, .int .i64 0, .int .i64 0], .int .i64 5]) ?_ rfl ⟨HB.out, .inl ⟨5, by decide, HNo.out, rfl⟩⟩
    simp only [results, Tryd.results5]
    go_simp
end Go.Proofs.YtbmkbnalembbjaaDoor
