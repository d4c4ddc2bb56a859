/-
  StepWrites answers true for all arenas, lists and lists of lists, and changes no argument: with arbitrary writes between the steps, no object that is finally reachable from the start or from black objects is left unmarked.
-/
import Derived.Test.YtgkoaambdejkdaaG13
namespace Go.Proofs.Ytgkoaambdejkdaa
open Go.RowKit

/-- A step from a right tri, whichever way it went. -/
theorem stepStep_any (A : Option Addr) (n c : Nat) (G : Option Addr) (gn gc : Nat) (K : Option Addr) (kn kc : Nat) (a g b : List Int) (w : World) (hR : TriR w w.heap.size A n c G gn K kn a g b) (hT : TriOk a g b) :
    Calls Try.prog 10 #[.agg #[.slice A n c, .slice G gn gc, .slice K kn kc]] w fun e w' => Below w.heap.size w w' ∧ ∃ (A1 : Option Addr) (c1 : Nat) (A2 : Option Addr) (n2 c2 : Nat) (A3 : Option Addr) (n3 c3 : Nat) (more : Bool) (g' b' : List Int),
      e = .returned (.tuple #[.agg #[.slice A1 n c1, .slice A2 n2 c2, .slice A3 n3 c3], .bool more, .int .i64 0]) ∧ TriO w' w.heap.size A1 n c1 A2 n2 c2 A3 n3 c3 a g' b' ∧ TriOk a g' b' ∧ ∀ x, x ∈ g ∨ x ∈ b → x ∈ g' ∨ x ∈ b' := by
  cases g with
  | nil =>
    have h0 : gn = 0 := by have := hR.rg.1; simpa using this.symm
    subst h0
    refine Calls.mono (stepStep_done A n c G 0 gc K kn kc a b w hR.ra hR.nc hR.aw hR.rg hR.rb hR.bw hT) ?_
    rintro e w' ⟨hb, A1, c1, A2, c2, A3, c3, rfl, hO⟩
    exact ⟨hb, A1, c1, A2, 0, c2, A3, kn, c3, false, [], b, rfl, hO, hT, fun x hx => hx⟩
  | cons x gt =>
    refine Calls.mono (stepStep_ok A n c G gn gc K kn kc a x gt b w hR.ra hR.nc hR.aw hR.rg hR.gw hR.rb hR.bw hT) ?_
    rintro e w' ⟨hb, A1, c1, A2, c2, A3, c3, rfl, hO⟩
    obtain ⟨h1, -, h2, h3, h4, -⟩ := step_ok hT
    refine ⟨hb, A1, c1, A2, _, c2, A3, _, c3, true, _, _, rfl, hO, h1, fun y hy => ?_⟩
    rcases hy with hy | hy
    · rcases List.mem_cons.1 hy with rfl | hy
      · exact .inr h3
      · exact .inl (h4 y hy)
    · exact .inr (h2 y hy)

/-- A write, whichever way it went: what it hands back is right; one begins with nothing that is white. -/
theorem write_keeps {a g b f : List Int} {at_ ref to_ : Int} {base : Nat} {w' : World} {A1 : Option Addr} {n1 c1 : Nat} {A2 : Option Addr} {n2 c2 : Nat} {A3 : Option Addr} {n3 c3 : Nat} {E : Int}
    (h : WriteOut a g b at_ ref to_ base w' A1 n1 c1 A2 n2 c2 A3 n3 c3 E) (hE : E = 0) (hf : ∀ x ∈ f, x ∈ g ∨ x ∈ b) : ∃ a' g', TriO w' base A1 n1 c1 A2 n2 c2 A3 n3 c3 a' g' b ∧ TriOk a' g' b ∧ ∀ x ∈ f, x ∈ g' ∨ x ∈ b := by
  rcases h with h | ⟨-, hT, s, k, h1, -, -, h4, h5, hO⟩
  · exact absurd hE h
  · exact ⟨_, _, hO, tri_write hT h1 h4 h5, fun x hx => (hf x hx).imp (fun h => writeG_sub h) id⟩

set_option maxHeartbeats 400000 in
theorem writesC_any (x : Int) (gb : Nat) (A : Option Addr) (n c B : Nat) (l : List Int) (w : World) (hb : w.cell? ⟨gb, 0, none⟩ = some (.slice A n c)) (hr : Reads w B 1 A n (l.map (.int .i64))) (hn : n ≤ 1000000000000000000) :
    Calls Try.prog 23 #[.int .i64 x, .pointer (some ⟨gb, 0, none⟩)] w fun e w' => e = .returned (.bool (decide (x ∈ l))) ∧ Below w.heap.size w w' := by
  generalize hx : decide (x ∈ l) = r
  have H := Lib.hid (contains_int A n c B l x r w hr hn hx)
  clear hx hr
  go_enter Try.func23, Try.ntmps23
  go_wp2_with (go_at_call 20; refine H.out.mono ?_; rintro e w' ⟨rfl, rfl⟩)
  go_ret
  exact ⟨by first | rfl | simp, Below.refl _ _⟩

set_option maxRecDepth 100000 in
set_option maxHeartbeats 8000000 in
theorem stepWrites_any (A : Option Addr) (n c : Nat) (a : List Int) (A2 : Option Addr) (n2 c2 : Nat) (f : List Int) (A4 : Option Addr) (n4 c4 : Nat) (w : World) (hr : Reads w w.heap.size 1 A n (a.map (.int .u64))) (hnc : n ≤ c) (hc : c ≤ maxLen) (ha : ∀ x ∈ a, (Lit.int .u64 x).wf = true)
    (hr2 : Reads w w.heap.size 1 A2 n2 (f.map (.int .i64))) (hnc2 : n2 ≤ c2) (hc2 : c2 ≤ maxLen) (hx2 : ∀ x ∈ f, (Lit.int .i64 x).wf = true) (hm1 : n2 * 8 ≤ 140737488351232) (hn4 : n4 ≤ 9223372036854775807) (hr4 : RowsR w w.heap.size A4 n4) :
    Calls Try.prog 5 #[.slice A n c, .slice A2 n2 c2, .slice A4 n4 c4] w fun e w' => e = .returned (.bool true) ∧ Below w.heap.size w w' := by
  clear hc hnc2 hc2
  by_cases hE : checkE a = 0
  · have H1 := Lib.hid (fun w hr hr2 => stepStart_ok A n c a A2 n2 c2 f w hr hnc ha hr2 (by omega) hx2 hE)
    have HE := Lib.hid hE
    have HX2 := Lib.hid hx2
    clear ha hx2
    go_enter Try.func5, Try.ntmps5
    go_wp2_with fail
    refine (threes_true _).mono ?_
    rintro e w1 ⟨rfl, hb1⟩
    go_wp2_with fail
    refine (H1.out _ ((hr.below hb1).more hb1.size) ((hr2.below hb1).more hb1.size)).mono ?_
    rintro e w2 ⟨hb2, ⟨hall, A3, c3, G, gc, rfl, hO⟩ | ⟨-, rfl⟩⟩
    · have hw21 := (below_step hb1 hb2).size
      have hst := start_tri HE.out hall
      have hb02 := (below_step hb1 hb2).alloc (below_step hb1 hb2).size (.cells #[.slice A3 n c3, .slice G (onceL f).length gc, .slice none 0 0] 25)
      have HR := Lib.hid (hO.alloc (.cells #[.slice A3 n c3, .slice G (onceL f).length gc, .slice none 0 0] 25)).reads
      have HT := Lib.hid hst.1
      have HF := Lib.hid hst.2.1.has
      have DS := Blk.new w2 25 #[.slice A3 n c3, .slice G (onceL f).length gc, .slice none 0 0]
      generalize (onceL f).length = ol at *
      obtain ⟨tb, htb⟩ : ∃ tb, tb = w2.heap.size := ⟨_, rfl⟩
      have hr4' := hr4
      clear hst hO hall hb2 hE
      go_wp2
      rw [← htb] at DS hw21 ⊢
      clear htb
      go_loopw [9, 10, 11, 12, 13, 14, 15, 34] (fun _ _ _ _ _ _ _ i wr => ∃ (j : Nat) (A' : Option Addr) (n' c' : Nat) (G' : Option Addr) (gn' gc' : Nat) (K' : Option Addr) (kn' kc' : Nat) (al gl bl : List Int), j ≤ n4 ∧ i = .int .i64 j ∧ Blk wr tb 25 #[.slice A' n' c', .slice G' gn' gc', .slice K' kn' kc'] ∧
        Hid (TriR wr wr.heap.size A' n' c' G' gn' K' kn' al gl bl) ∧ Hid (TriOk al gl bl) ∧ Hid (∀ x ∈ f, x ∈ gl ∨ x ∈ bl) ∧ Below w.heap.size w wr) (fun _ _ _ _ _ _ _ i _ => n4 - (intOf i).toNat)
      case atStart => exact ⟨0, A3, n, c3, G, ol, gc, none, 0, 0, a, onceL f, [], Nat.zero_le _, rfl, DS, HR, HT, HF, hb02⟩
      case round =>
        obtain ⟨j, A', n', c', G', gn', gc', K', kn', kc', al, gl, bl, hj, rfl, DS, HR, HT, HF, hb⟩ := hrel
        obtain ⟨s0, s1, s2⟩ := DS.three
        have hws := hb.size
        have hdl := DS.lt
        by_cases hlt : j < n4
        · obtain ⟨ad, Aj, m, cj, xs, rfl, had, hcell, hrow, hmb, hxw⟩ := (hr4.below hb) j hlt
          by_cases h60 : 60 ≤ j
          · have g60 : decide ((60 : Int) ≤ j) = true := decide_eq_true (by omega)
            have HRB := Lib.hid HR.out
            have HSt := Lib.hid (steps_any A' n' c' G' gn' gc' K' kn' kc' al gl bl wr HR.out HT.out (fun g b => ∀ x ∈ f, x ∈ g ∨ x ∈ b) HF.out (fun x g b hT h => by
              obtain ⟨-, -, h2, h3, h4, -⟩ := step_ok hT
              intro y hy
              rcases h y hy with h | h
              · rcases List.mem_cons.1 h with rfl | h
                · exact .inr h3
                · exact .inl (h4 y h)
              · exact .inr (h2 y h)))
            obtain ⟨wo, hwo⟩ : ∃ x, x = wr := ⟨wr, rfl⟩
            subst hwo
            go_wp2_with fail
            refine HSt.out.mono ?_
            rintro e w3 ⟨hb3, B1, d1, B2, d2, B3, d3, N, bF, rfl, hO3, hTF, hI, -⟩
            generalize hkF : bF.length = kF at *
            have hb03 := below_step hb hb3
            have DS3 := DS.below hb3 DS.lt
            have f0 := DS3.frozen 0
            have f1 := DS3.frozen 1
            have f2 := DS3.frozen 2
            obtain ⟨s0, s1, s2⟩ := DS3.three
            have DS4 := DS3.store3 (.slice B1 n' d1) (.slice B2 0 d2) (.slice B3 kF d3)
            have hO4 := (hO3.store DS3 (by decide) (by decide) (.slice B1 n' d1) (.slice B2 0 d2) (.slice B3 kF d3)).mono (base := w.heap.size) hws
            have hb04 := below_block3 (g := tb) hb03 hw21 (.slice B1 n' d1) (.slice B2 0 d2) (.slice B3 kF d3)
            obtain ⟨W4, hW4⟩ : ∃ W4, W4 = (((w3.setCell ⟨tb, 0, none⟩ (.slice B1 n' d1)).setCell ⟨tb, 1, none⟩ (.slice B2 0 d2)).setCell ⟨tb, 2, none⟩ (.slice B3 kF d3)) := ⟨_, rfl⟩
            obtain ⟨t0, t1, t2⟩ := DS4.three
            rw [← hW4] at DS4 hO4 hb04
            have HW4 := Lib.hid hW4
            have HR4 := Lib.hid hO4.reads
            have HDo := Lib.hid (stepDone_ok B1 n' d1 B2 0 d2 B3 kF d3 al bF W4 HR4.out.ra HR4.out.nc HR4.out.aw HR4.out.rg HR4.out.rb HR4.out.bw hTF)
            have HTF := Lib.hid hTF
            have HI := Lib.hid hI
            clear hO3 hTF hI hkF hb03 hb3 DS3 hO4 hW4 DS
            go_wp2_with fail
            rw [← HW4.out]
            refine HDo.out.mono ?_
            rintro e w5 ⟨hb5, A6, c6, rfl, hown6⟩
            have hb05 := (below_step hb04 hb5).alloc (below_step hb04 hb5).size (.cells #[.slice A6 (whiteL al bF).length c6] 23)
            have DS5 := (DS4.below hb5 DS4.lt).alloc (.cells #[.slice A6 (whiteL al bF).length c6] 23)
            have DW5 := Blk.new w5 23 #[.slice A6 (whiteL al bF).length c6]
            obtain ⟨t0, t1, t2⟩ := DS5.three
            have hbz := hb5.alloc hb5.size (.cells #[.slice A6 (whiteL al bF).length c6] 23)
            have HR5 := Lib.hid ((HR4.out.below hbz).more hbz.size)
            have HWr := Lib.hid ((Reads.of_own hown6).below (below_new w5 (.cells #[.slice A6 (whiteL al bF).length c6] 23)))
            have HRe := Lib.hid (reach_ok B1 n' d1 al A2 n2 c2 f _ HR5.out.ra HR5.out.nc HR5.out.aw ((hr2.below hb05).more hb05.size) (by omega) HX2.out HTF.out.ok)
            have hwl : (whiteL al bF).length ≤ 256 := Nat.le_trans (List.length_filter_le _ _) (begs_len256 al)
            have HWm : Hid (∀ x ∈ bF, x ∉ whiteL al bF) := fun x hx h => (whiteL_mem.1 h).2 hx
            have hwp : w5.heap.size < (w5.alloc (.cells #[.slice A6 (whiteL al bF).length c6] 23)).heap.size := by simp
            generalize hWl : whiteL al bF = W at *
            generalize hwn : W.length = wn at *
            clear hb5 hown6 hWl hwn hbz
            go_wp2_with fail
            refine HRe.out.mono ?_
            rintro e w6 ⟨hb6, ⟨L, A7, c7, hL, rfl, hown7⟩ | ⟨⟨x, hx, hn⟩, -⟩⟩
            · have HLF : Hid (∀ x ∈ L, x ∈ bF) := hL.least (· ∈ bF) (fun x hx => (HI.out x hx).elim (fun h => by simp at h) id) (fun x hx y hy => (HTF.out.held x hx y hy).elim (fun h => by simp at h) id)
              have hL256 : L.length ≤ 256 := nodup_bound 256 L hL.once (fun x hx => begsL_bounds (checkE_ok.1 HTF.out.ok).1 x (hL.begs x hx))
              have hb06 := below_step hb05 hb6
              have hx := reads_new w6 [.int .i64 0, .int .i64 0] 27 2 1 rfl
              have hbx := below_step hb6 (below_new w6 (.cells #[.int .i64 0, .int .i64 0] 27))
              have hb07 := below_step hb05 hbx
              have HX := Lib.hid (good_of (some ⟨w6.heap.size, 0, none⟩) 2 2 _ [0, 0] true _ (by decide) (by simpa using hx) (by decide))
              have DW7 := DW5.below hbx DW5.lt
              have hrL := ((Reads.of_own hown7).below (below_new w6 (.cells #[.int .i64 0, .int .i64 0] 27)))
              have hrW := HWr.out.below (hbx.mono (Nat.le_of_lt hwp))
              have hany : (L.any fun y => decide (y ∈ W)) = false := by
                rw [List.any_eq_false]
                intro y hy
                simp only [decide_eq_true_eq]
                exact HWm.out y (HLF.out y hy)
              have hsz6 := hb6.size
              have HCF := containsIntF_any 23 (.pointer (some ⟨w5.heap.size, 0, none⟩)) A7 L.length c7 _ L (fun y => decide (y ∈ W)) (w6.alloc (.cells #[.int .i64 0, .int .i64 0] 27)) hrL (by simp) (by omega) (plain_of (fn := Try.f23) Try.func23 (by kernel_rfl) (by kernel_rfl)) (fun w' y hb' _ =>
                writesC_any y w5.heap.size A6 wn c6 w5.heap.size W w' ((DW7.below hb' DW7.lt).cell 0) (hrW.below (hb'.mono (by simp at hsz6 ⊢; omega))) (by omega))
              rw [hany] at HCF
              have HCF := Lib.hid HCF
              generalize L.length = ln at *
              clear hx hany hL hown7 hrL hrW hb6 hb06 hL256
              go_wp2_with (first
                | (go_at_call 18; refine HX.out.mono ?_; rintro e w' ⟨rfl, rfl⟩)
                | fail)
              refine HCF.out.mono ?_
              rintro e w8 ⟨rfl, hb8⟩
              go_wp2
              go_ret
              exact ⟨by first | rfl | simp, below_step hb07 hb8⟩
            · exact absurd ((HI.out x hx).elim (fun h => by simp at h) (HTF.out.bb x)) hn
          · have g60 : decide ((60 : Int) ≤ j) = false := decide_eq_false (by omega)
            have hj1 : j + 1 ≤ n4 := hlt
            by_cases h3 : m < 3
            · have g3 : decide ((m : Int) < 3) = true := decide_eq_true (by omega)
              have g3' : decide (m < 3) = true := decide_eq_true h3
              have HSp := Lib.hid (stepStep_any A' n' c' G' gn' gc' K' kn' kc' al gl bl wr HR.out HT.out)
              clear hrow hxw
              go_wp2_with fail
              refine HSp.out.mono ?_
              rintro e w3 ⟨hb3, B1, d1, B2, bn2, d2, B3, bn3, d3, more, g', b', rfl, hO3, hT3, hF3⟩
              have hb03 := (below_step hb hb3).alloc (below_step hb hb3).size (.cells #[.slice B1 n' d1, .slice B2 bn2 d2, .slice B3 bn3 d3] 25)
              have DS3 := (DS.below hb3 DS.lt).alloc (.cells #[.slice B1 n' d1, .slice B2 bn2 d2, .slice B3 bn3 d3] 25)
              have DX3 := Blk.new w3 25 #[.slice B1 n' d1, .slice B2 bn2 d2, .slice B3 bn3 d3]
              obtain ⟨s0, s1, s2⟩ := DS3.three
              obtain ⟨x0, x1, x2⟩ := DX3.three
              have f0 := DS3.frozen 0
              have f1 := DS3.frozen 1
              have f2 := DS3.frozen 2
              have DS4 := DS3.store3 (.slice B1 n' d1) (.slice B2 bn2 d2) (.slice B3 bn3 d3)
              have HR4 := Lib.hid ((hO3.alloc (.cells #[.slice B1 n' d1, .slice B2 bn2 d2, .slice B3 bn3 d3] 25)).store DS3 (by decide) (by decide) (.slice B1 n' d1) (.slice B2 bn2 d2) (.slice B3 bn3 d3)).reads
              have HB4 := Lib.hid (below_block3 (g := tb) hb03 hw21 (.slice B1 n' d1) (.slice B2 bn2 d2) (.slice B3 bn3 d3))
              have HT4 := Lib.hid hT3
              have HF4 : Hid (∀ x ∈ f, x ∈ g' ∨ x ∈ b') := fun x hx => hF3 x (HF.out x hx)
              clear hO3 hT3 hF3 hb3 HSp
              go_wp2
              go_roundw
              case rel => exact ⟨j + 1, B1, n', d1, B2, bn2, d2, B3, bn3, d3, al, g', b', hj1, by go_num, DS4, HR4, HT4, HF4, HB4.out⟩
              case measure => simp [intOf]; omega
            · have g3 : decide ((m : Int) < 3) = false := decide_eq_false (by omega)
              have g3' : decide (m < 3) = false := decide_eq_false h3
              obtain ⟨aq, y0, rfl, haq, hy0, cy0⟩ := hrow.num (k := 0) (by omega)
              obtain ⟨aq1, y1, e1, -, hy1, cy1⟩ := hrow.num (k := 1) (by omega)
              obtain ⟨aq2, y2, e2, -, hy2, cy2⟩ := hrow.num (k := 2) (by omega)
              obtain rfl : aq = aq1 := by injection e1
              obtain rfl : aq = aq2 := by injection e2
              have haq' : aq.block < wr.heap.size := by omega
              have HWr := Lib.hid (fun W (hR : TriR W W.heap.size A' n' c' G' gn' K' kn' al gl bl) => stepWrite_any A' n' c' G' gn' gc' K' kn' kc' al gl bl y0 y1 y2 W hR.ra hR.nc hR.aw hR.rg hR.gw hR.rb hR.bw (by
                have h1 := HT.out.lens.1
                have h2 := hR.rg.1
                have h3 := hR.rb.1
                simp only [List.length_map, Nat.mul_one] at h2 h3
                omega) (hxw _ (List.mem_of_getElem? hy0)) (hxw _ (List.mem_of_getElem? hy1)) (hxw _ (List.mem_of_getElem? hy2)))
              have hbA : Below wr.heap.size wr wr.drew := (Below.refl _ wr).drew
              have hbB : Below wr.heap.size wr (wr.alloc (.cells #[.slice none 0 0, .slice none 0 0, .slice none 0 0] 25)).drew := ((Below.refl _ wr).alloc (Nat.le_refl _) _).drew
              have HRA := Lib.hid ((HR.out.below hbA).more hbA.size)
              have HRB := Lib.hid ((HR.out.below hbB).more hbB.size)
              have DB := (Blk.new wr 25 #[.slice none 0 0, .slice none 0 0, .slice none 0 0]).drew
              have nn0 : wr.heap.size ≠ aq.block := by omega
              have nn3 : wr.heap.size ≠ tb := by omega
              have nn4 : tb ≠ wr.heap.size := by omega
              clear hrow hxw hy0 hy1 hy2 e1 e2
              have w60 : (j : Int) < 60 := by omega
              go_upto_region 15 with fail
              go_cut [14, 15] from 53 to 66 (fun s14 s15 wc => ∃ (gb : Nat) (C1 : Option Addr) (m1 e1 : Nat) (C2 : Option Addr) (m2 e2 : Nat) (C3 : Option Addr) (m3 e3 : Nat) (E : Int), s14 = .pointer (some ⟨gb, 0, none⟩) ∧ s15 = .int .i64 E ∧
                Blk wc gb 25 #[.slice C1 m1 e1, .slice C2 m2 e2, .slice C3 m3 e3] ∧ Below wr.heap.size wr wc ∧ wr.heap.size ≤ gb ∧ WriteOut al gl bl y0 y1 y2 wr.heap.size wc C1 m1 e1 C2 m2 e2 C3 m3 e3 E)
              case first =>
                obtain ⟨d0, d1, d2⟩ := DS.drew.three
                have c0' : wr.cell? aq = some (.int .i64 y0) := by simpa [Addr.add] using cy0
                have c1' : wr.cell? ⟨aq.block, aq.off + 1, none⟩ = some (.int .i64 y1) := by rw [addr_add_pos _ _ (by decide)] at cy1; exact cy1
                have c2' : wr.cell? ⟨aq.block, aq.off + 2, none⟩ = some (.int .i64 y2) := by rw [addr_add_pos _ _ (by decide)] at cy2; exact cy2
                have c0 : wr.drew.cell? aq = some (.int .i64 y0) := c0'
                have c1 : wr.drew.cell? ⟨aq.block, aq.off + 1, none⟩ = some (.int .i64 y1) := c1'
                have c2 : wr.drew.cell? ⟨aq.block, aq.off + 2, none⟩ = some (.int .i64 y2) := c2'
                have i0 : (0 : Int) < m := by omega
                have i0n : 0 < m := by omega
                have i1 : (1 : Int) < m := by omega
                have i2 : (2 : Int) < m := by omega
                go_region_held3 (fun w' => w'.cell? ⟨tb, 0, none⟩ = some (.slice A' n' c') ∧ w'.cell? ⟨tb, 1, none⟩ = some (.slice G' gn' gc') ∧ w'.cell? ⟨tb, 2, none⟩ = some (.slice K' kn' kc') ∧ w'.cell? aq = some (.int .i64 y0) ∧ w'.cell? ⟨aq.block, aq.off + 1, none⟩ = some (.int .i64 y1) ∧ w'.cell? ⟨aq.block, aq.off + 2, none⟩ = some (.int .i64 y2)) (go_keep)
                  (first
                    | (go_at_call 21; (with_reducible refine (HWr.out _ HRB.out).mono ?_); rintro e wz ⟨hbz, hret⟩; obtain ⟨C1, m1, e1, C2, m2, e2, C3, m3, e3, E, rfl, hout⟩ := hret.named; have DBz := DB.below hbz DB.lt; have hbz : Below wr.heap.size wr wz := hbB.trans (hbz.mono hbB.size); have hsz := hbz.size; have DSz := DS.below hbz DS.lt; obtain ⟨d0, d1, d2⟩ := DSz.three; have c0 := (hbz.cell (p := aq) haq').trans c0'; have c1 := (hbz.cell (p := ⟨aq.block, aq.off + 1, none⟩) haq').trans c1'; have c2 := (hbz.cell (p := ⟨aq.block, aq.off + 2, none⟩) haq').trans c2'; have nn1 : wz.heap.size ≠ aq.block := (by omega); have nn2 : wz.heap.size ≠ tb := (by omega); obtain ⟨b0, b1, b2⟩ := DBz.three; have bf0 := DBz.frozen 0; have bf1 := DBz.frozen 1; have bf2 := DBz.frozen 2)
                    | (go_at_call 21; (with_reducible refine (HWr.out _ HRA.out).mono ?_); rintro e wz ⟨hbz, hret⟩; obtain ⟨C1, m1, e1, C2, m2, e2, C3, m3, e3, E, rfl, hout⟩ := hret.named; have hbz : Below wr.heap.size wr wz := hbA.trans hbz; have hsz := hbz.size; have DSz := DS.below hbz DS.lt; obtain ⟨d0, d1, d2⟩ := DSz.three; have c0 := (hbz.cell (p := aq) haq').trans c0'; have c1 := (hbz.cell (p := ⟨aq.block, aq.off + 1, none⟩) haq').trans c1'; have c2 := (hbz.cell (p := ⟨aq.block, aq.off + 2, none⟩) haq').trans c2'; have nn1 : wz.heap.size ≠ aq.block := (by omega); have nn2 : wz.heap.size ≠ tb := (by omega)))
                all_goals
                  go_wp2_with fail
                  go_meet
                · exact ⟨_, C1, m1, e1, C2, m2, e2, C3, m3, e3, E, rfl, rfl, Blk.new wz 25 #[.slice C1 m1 e1, .slice C2 m2 e2, .slice C3 m3 e3], hbz.alloc hbz.size _, hbz.size, hout.imp (fun a' g' h => h.alloc _)⟩
                · exact ⟨_, C1, m1, e1, C2, m2, e2, C3, m3, e3, E, rfl, rfl, DBz.store3 _ _ _, below_block3 hbz (Nat.le_refl _) _ _ _, Nat.le_refl _, hout.imp (fun a' g' h => (h.store DBz (by decide) (by decide) _ _ _).mono (by simp))⟩
              case rest =>
                obtain ⟨gb, C1, m1, e1, C2, m2, e2, C3, m3, e3, E, rfl, rfl, DX, hb8, hgb, hout⟩ := hcut
                have hb08 := below_step hb hb8
                have DS8 := DS.below hb8 DS.lt
                obtain ⟨x0, x1, x2⟩ := DX.three
                by_cases hE0 : E = 0
                · obtain ⟨a', g', hO8, hT8, hF8⟩ := write_keeps hout hE0 HF.out
                  subst hE0
                  have f0 := DS8.frozen 0
                  have f1 := DS8.frozen 1
                  have f2 := DS8.frozen 2
                  obtain ⟨s0, s1, s2⟩ := DS8.three
                  have DS9 := DS8.store3 (.slice C1 m1 e1) (.slice C2 m2 e2) (.slice C3 m3 e3)
                  have hR9 := (hO8.store DS8 (by decide) (by decide) (.slice C1 m1 e1) (.slice C2 m2 e2) (.slice C3 m3 e3)).reads
                  have hb09 := below_block3 (g := tb) hb08 hw21 (.slice C1 m1 e1) (.slice C2 m2 e2) (.slice C3 m3 e3)
                  have HCk := Lib.hid (stepCheck_any C1 m1 e1 C2 m2 e2 C3 m3 e3 a' g' bl _ hR9.ra hR9.nc hR9.aw hR9.rg hR9.gw hR9.rb hR9.bw (by
                    have h1 := hT8.lens.1
                    have h2 := hR9.rg.1
                    have h3 := hR9.rb.1
                    simp only [List.length_map, Nat.mul_one] at h2 h3
                    omega))
                  have HR9 := Lib.hid hR9
                  have HT8 := Lib.hid hT8
                  have HF8 := Lib.hid hF8
                  obtain ⟨t0, t1, t2⟩ := DS9.three
                  clear hR9 hT8 hF8 hO8 hout
                  go_wp2_with fail
                  refine HCk.out.mono ?_
                  rintro e w9 ⟨⟨E2, rfl, hE2⟩, hb10⟩
                  obtain rfl := hE2.2 HT8.out
                  have DSf := DS9.below hb10 DS9.lt
                  have HRf := Lib.hid ((HR9.out.below hb10).more hb10.size)
                  have hbf := below_step hb09 hb10
                  clear hE2 hb10 HCk
                  go_wp2
                  go_roundw
                  case rel => exact ⟨j + 1, C1, m1, e1, C2, m2, e2, C3, m3, e3, a', g', bl, hj1, by go_num, DSf, HRf, HT8, HF8, hbf⟩
                  case measure => simp [intOf]; omega
                · have hE1 : (E == 0) = false := by simpa using hE0
                  have HR8 := Lib.hid ((HR.out.below hb8).more hb8.size)
                  have HCk := Lib.hid (stepCheck_any A' n' c' G' gn' gc' K' kn' kc' al gl bl _ HR8.out.ra HR8.out.nc HR8.out.aw HR8.out.rg HR8.out.gw HR8.out.rb HR8.out.bw (by
                    have h1 := HT.out.lens.1
                    have h2 := HR.out.rg.1
                    have h3 := HR.out.rb.1
                    simp only [List.length_map, Nat.mul_one] at h2 h3
                    omega))
                  obtain ⟨s0, s1, s2⟩ := DS8.three
                  clear hout hE0
                  go_wp2_with fail
                  refine HCk.out.mono ?_
                  rintro e w9 ⟨⟨E2, rfl, hE2⟩, hb10⟩
                  obtain rfl := hE2.2 HT.out
                  have DSf := DS8.below hb10 DS8.lt
                  have HRf := Lib.hid ((HR8.out.below hb10).more hb10.size)
                  have hbf := below_step hb08 hb10
                  clear hE2 hb10 HCk
                  go_wp2
                  go_roundw
                  case rel => exact ⟨j + 1, A', n', c', G', gn', gc', K', kn', kc', al, gl, bl, hj1, by go_num, DSf, HRf, HT, HF, hbf⟩
                  case measure => simp [intOf]; omega
        · have g0 : decide (j < n4) = false := decide_eq_false hlt
          have HRB := Lib.hid HR.out
          have HSt := Lib.hid (steps_any A' n' c' G' gn' gc' K' kn' kc' al gl bl wr HR.out HT.out (fun g b => ∀ x ∈ f, x ∈ g ∨ x ∈ b) HF.out (fun x g b hT h => by
            obtain ⟨-, -, h2, h3, h4, -⟩ := step_ok hT
            intro y hy
            rcases h y hy with h | h
            · rcases List.mem_cons.1 h with rfl | h
              · exact .inr h3
              · exact .inl (h4 y h)
            · exact .inr (h2 y h)))
          obtain ⟨wo, hwo⟩ : ∃ x, x = wr := ⟨wr, rfl⟩
          subst hwo
          go_wp2_with fail
          refine HSt.out.mono ?_
          rintro e w3 ⟨hb3, B1, d1, B2, d2, B3, d3, N, bF, rfl, hO3, hTF, hI, -⟩
          generalize hkF : bF.length = kF at *
          have hb03 := below_step hb hb3
          have DS3 := DS.below hb3 DS.lt
          have f0 := DS3.frozen 0
          have f1 := DS3.frozen 1
          have f2 := DS3.frozen 2
          obtain ⟨s0, s1, s2⟩ := DS3.three
          have DS4 := DS3.store3 (.slice B1 n' d1) (.slice B2 0 d2) (.slice B3 kF d3)
          have hO4 := (hO3.store DS3 (by decide) (by decide) (.slice B1 n' d1) (.slice B2 0 d2) (.slice B3 kF d3)).mono (base := w.heap.size) hws
          have hb04 := below_block3 (g := tb) hb03 hw21 (.slice B1 n' d1) (.slice B2 0 d2) (.slice B3 kF d3)
          obtain ⟨W4, hW4⟩ : ∃ W4, W4 = (((w3.setCell ⟨tb, 0, none⟩ (.slice B1 n' d1)).setCell ⟨tb, 1, none⟩ (.slice B2 0 d2)).setCell ⟨tb, 2, none⟩ (.slice B3 kF d3)) := ⟨_, rfl⟩
          obtain ⟨t0, t1, t2⟩ := DS4.three
          rw [← hW4] at DS4 hO4 hb04
          have HW4 := Lib.hid hW4
          have HR4 := Lib.hid hO4.reads
          have HDo := Lib.hid (stepDone_ok B1 n' d1 B2 0 d2 B3 kF d3 al bF W4 HR4.out.ra HR4.out.nc HR4.out.aw HR4.out.rg HR4.out.rb HR4.out.bw hTF)
          have HTF := Lib.hid hTF
          have HI := Lib.hid hI
          clear hO3 hTF hI hkF hb03 hb3 DS3 hO4 hW4 DS
          go_wp2_with fail
          rw [← HW4.out]
          refine HDo.out.mono ?_
          rintro e w5 ⟨hb5, A6, c6, rfl, hown6⟩
          have hb05 := (below_step hb04 hb5).alloc (below_step hb04 hb5).size (.cells #[.slice A6 (whiteL al bF).length c6] 23)
          have DS5 := (DS4.below hb5 DS4.lt).alloc (.cells #[.slice A6 (whiteL al bF).length c6] 23)
          have DW5 := Blk.new w5 23 #[.slice A6 (whiteL al bF).length c6]
          obtain ⟨t0, t1, t2⟩ := DS5.three
          have hbz := hb5.alloc hb5.size (.cells #[.slice A6 (whiteL al bF).length c6] 23)
          have HR5 := Lib.hid ((HR4.out.below hbz).more hbz.size)
          have HWr := Lib.hid ((Reads.of_own hown6).below (below_new w5 (.cells #[.slice A6 (whiteL al bF).length c6] 23)))
          have HRe := Lib.hid (reach_ok B1 n' d1 al A2 n2 c2 f _ HR5.out.ra HR5.out.nc HR5.out.aw ((hr2.below hb05).more hb05.size) (by omega) HX2.out HTF.out.ok)
          have hwl : (whiteL al bF).length ≤ 256 := Nat.le_trans (List.length_filter_le _ _) (begs_len256 al)
          have HWm : Hid (∀ x ∈ bF, x ∉ whiteL al bF) := fun x hx h => (whiteL_mem.1 h).2 hx
          have hwp : w5.heap.size < (w5.alloc (.cells #[.slice A6 (whiteL al bF).length c6] 23)).heap.size := by simp
          generalize hWl : whiteL al bF = W at *
          generalize hwn : W.length = wn at *
          clear hb5 hown6 hWl hwn hbz
          go_wp2_with fail
          refine HRe.out.mono ?_
          rintro e w6 ⟨hb6, ⟨L, A7, c7, hL, rfl, hown7⟩ | ⟨⟨x, hx, hn⟩, -⟩⟩
          · have HLF : Hid (∀ x ∈ L, x ∈ bF) := hL.least (· ∈ bF) (fun x hx => (HI.out x hx).elim (fun h => by simp at h) id) (fun x hx y hy => (HTF.out.held x hx y hy).elim (fun h => by simp at h) id)
            have hL256 : L.length ≤ 256 := nodup_bound 256 L hL.once (fun x hx => begsL_bounds (checkE_ok.1 HTF.out.ok).1 x (hL.begs x hx))
            have hb06 := below_step hb05 hb6
            have hx := reads_new w6 [.int .i64 0, .int .i64 0] 27 2 1 rfl
            have hbx := below_step hb6 (below_new w6 (.cells #[.int .i64 0, .int .i64 0] 27))
            have hb07 := below_step hb05 hbx
            have HX := Lib.hid (good_of (some ⟨w6.heap.size, 0, none⟩) 2 2 _ [0, 0] true _ (by decide) (by simpa using hx) (by decide))
            have DW7 := DW5.below hbx DW5.lt
            have hrL := ((Reads.of_own hown7).below (below_new w6 (.cells #[.int .i64 0, .int .i64 0] 27)))
            have hrW := HWr.out.below (hbx.mono (Nat.le_of_lt hwp))
            have hany : (L.any fun y => decide (y ∈ W)) = false := by
              rw [List.any_eq_false]
              intro y hy
              simp only [decide_eq_true_eq]
              exact HWm.out y (HLF.out y hy)
            have hsz6 := hb6.size
            have HCF := containsIntF_any 23 (.pointer (some ⟨w5.heap.size, 0, none⟩)) A7 L.length c7 _ L (fun y => decide (y ∈ W)) (w6.alloc (.cells #[.int .i64 0, .int .i64 0] 27)) hrL (by simp) (by omega) (plain_of (fn := Try.f23) Try.func23 (by kernel_rfl) (by kernel_rfl)) (fun w' y hb' _ =>
              writesC_any y w5.heap.size A6 wn c6 w5.heap.size W w' ((DW7.below hb' DW7.lt).cell 0) (hrW.below (hb'.mono (by simp at hsz6 ⊢; omega))) (by omega))
            rw [hany] at HCF
            have HCF := Lib.hid HCF
            generalize L.length = ln at *
            clear hx hany hL hown7 hrL hrW hb6 hb06 hL256
            go_wp2_with (first
              | (go_at_call 18; refine HX.out.mono ?_; rintro e w' ⟨rfl, rfl⟩)
              | fail)
            refine HCF.out.mono ?_
            rintro e w8 ⟨rfl, hb8⟩
            go_wp2
            go_ret
            exact ⟨by first | rfl | simp, below_step hb07 hb8⟩
          · exact absurd ((HI.out x hx).elim (fun h => by simp at h) (HTF.out.bb x)) hn
    · have hbx := (below_step hb1 hb2).alloc (below_step hb1 hb2).size (.cells #[.slice none 0 0, .slice none 0 0, .slice none 0 0] 25)
      go_wp2
      go_ret
      exact ⟨by first | rfl | simp, hbx⟩
  · have H1 := Lib.hid (fun w hr => stepStart_bad A n c a A2 n2 c2 w hr hnc ha hE)
    clear hE
    go_enter Try.func5, Try.ntmps5
    go_wp2_with fail
    refine (threes_true _).mono ?_
    rintro e w1 ⟨rfl, hb1⟩
    go_wp2_with fail
    refine (H1.out _ ((hr.below hb1).more hb1.size)).mono ?_
    rintro e w2 ⟨hb2, E, hE, rfl⟩
    have hE1 : (E != 0) = true := by simpa using hE
    have hbx := (below_step hb1 hb2).alloc (below_step hb1 hb2).size (.cells #[.slice none 0 0, .slice none 0 0, .slice none 0 0] 25)
    clear hE
    go_wp2
    go_ret
    exact ⟨by first | rfl | simp, hbx⟩

namespace StepWrites
open Go.ChangeShapes Go.WideShapes Go.ChangeAt Go.RowKit
theorem own : ownKnob Try.prog.godebug = none := by kernel_rfl
theorem laidOut : laidOutB Try.prog = true := by kernel_rfl

set_option maxRecDepth 100000 in
theorem lifted (os : Os) (started : os.Started) (H : Type) (enc : TypeId × Value → H) :
    ReturnsInHanded {} Try.checked os 5 .any (Rows.stepWritesSpec.pre6 enc Try.prog Try.f5 Rows.stepWritesRow.domain false) (Rows.stepWritesSpec.post enc Try.prog Try.f5 false true false false) := by
  refine returnsInHanded_of_change_sized (C := Try.checked) own started (by as_aux_lemma => kernel_rfl) Try.func5
    (ChangeSpec.witness6 (enc := enc) (C := Try.checked) false ⟨#[], #[.slice none 0 0, .slice none 0 0, .slice none 0 0], []⟩ 8 (by as_aux_lemma => kernel_rfl) (by as_aux_lemma => kernel_rfl) (by as_aux_lemma => kernel_rfl) (by as_aux_lemma => kernel_rfl)) ?_
  intro W base args ds gs before hval0 hW hcnd hsz _
  have hval : ∀ (j : Nat) t v, Try.f5.params[j]? = some t → args[j]? = some v → Value.okWide Try.prog W .any base t v := hval0
  have hW' := hW
  obtain ⟨p, q, hA0, hV, rfl, hfz, hnd⟩ := hW
  have hA : DataW.TrodAll enc Try.prog W 0 (fun _ => true) true Try.f5.params.toList args.toList ds p := hA0
  rw [Try.params5] at hA hval
  obtain ⟨v0, vs0, d0, ds0, p0, q0, hargs, rfl, rfl, h0, hA⟩ := trodAll_cons hA
  obtain ⟨v1, vs1, d1, ds1, p1, q1, rfl, rfl, rfl, h1, hA⟩ := trodAll_cons hA
  obtain ⟨v2, vs2, d2, ds2, p2, q2, rfl, rfl, rfl, h2, hA⟩ := trodAll_cons hA
  obtain ⟨rfl, rfl, rfl⟩ := trodAll_nil hA
  obtain rfl : args = #[v0, v1, v2] := by cases args; simp_all
  obtain ⟨A0, n0, c0, xs0, rfl, hnc0, hc0, hr0, hx0⟩ := open_nums Try.underlying22 Try.underlying43 (by as_aux_lemma => kernel_rfl) (hval 0 _ v0 rfl rfl) (fun x hx => hW'.lt x (by simp [hx])) h0
  obtain ⟨A1, n1, c1, xs1, rfl, hnc1, hc1, hr1, hx1, hd1⟩ := open_nums2 Try.underlying23 Try.underlying3 (by as_aux_lemma => kernel_rfl) (hval 1 _ v1 rfl rfl) (fun x hx => hW'.lt x (by simp [hx])) h1
  have hm1 : n1 * 8 ≤ 140737488351232 := by
    rcases hd1 with h0 | ⟨D, E, rfl, hD⟩
    · omega
    · have h5 : (D.length + E.length) * Try.prog.bytesOf 3 ≤ reachBytes := sized_slice hsz (j := 1) (t := 23) (e := 3) rfl rfl Try.underlying23
      rw [k_int_bytes, hD] at h5
      simp only [reachBytes] at h5
      omega
  obtain ⟨A2, n2, c2, rfl, hn2, hr2⟩ := open_rows (hval 2 _ v2 rfl rfl) (fun x hx => hW'.lt x (by simp [hx])) h2
  refine (stepWrites_any A0 n0 c0 xs0 A1 n1 c1 xs1 A2 n2 c2 W hr0 hnc0 hc0 hx0 hr1 hnc1 hc1 hx1 hm1 hn2 hr2).mono fun e W' ⟨he, hb⟩ => ?_
  subst he
  exact ⟨_, rfl, law_post laidOut Try.underlying4 rfl (by as_aux_lemma => kernel_rfl) rfl rfl hW' hb⟩

set_option maxHeartbeats 10000000 in
theorem closed : joinedFacts Try.prog 5 Try.f5 Rows.stepWritesSpec Rows.stepWritesRow = true := by
  unfold joinedFacts
  simp only [Bool.and_eq_true]
  repeat' apply And.intro
  all_goals as_aux_lemma => kernel_rfl

set_option maxHeartbeats 1000000 in
theorem proved : Rows.StepWritesSaid :=
  OpenClaim.holds_of_wide 5 Try.f5 rfl rfl rfl rfl rfl rfl rfl ⟨rfl, rfl, rfl, rfl, rfl⟩ rfl rfl rfl rfl rfl (by as_aux_lemma => kernel_rfl) Try.func5 closed
    (of_decide_eq_true (by as_aux_lemma => kernel_rfl)) (by unfold Func.isWrapper; first | (rw [if_pos (by decide +kernel)]; kernel_rfl) | (rw [if_neg (by decide +kernel)]; exact ⟨rfl, rfl⟩))
    (fun os started H enc _ => lifted os started H enc)
end StepWrites
end Go.Proofs.Ytgkoaambdejkdaa
