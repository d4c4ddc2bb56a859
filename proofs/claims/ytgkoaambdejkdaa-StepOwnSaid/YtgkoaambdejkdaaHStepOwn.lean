/-
  StepOwn answers true for all marks, ages and numbers, and changes no argument: what is handed in stays as it was, and what is told shares nothing with it.
-/
import Derived.Test.YtgkoaambdejkdaaG0
import Derived.Test.YtgkoaambdejkdaaG12
import Derived.Test.YtgkoaambdejkdaaG13
import Derived.Test.YtgkoaambdejkdaaG14
import Derived.Test.YtgkoaambdejkdaaG15
namespace Go.Proofs.Ytgkoaambdejkdaa
open Go.RowKit

theorem Blk.step3 {w w' : World} {g : Nat} {t : TypeId} {cs : Array Value} (h : Blk w g t cs) (hb : Below w.heap.size w w') : Blk w' g t cs := h.below hb h.lt

set_option maxRecDepth 100000 in
set_option maxHeartbeats 3000000 in
theorem stepOwn_any (A : Option Addr) (n c : Nat) (G : Option Addr) (gn gc : Nat) (K : Option Addr) (kn kc : Nat) (a g b : List Int) (A' : Option Addr) (n' c' : Nat) (G' : Option Addr) (gn' gc' : Nat) (K' : Option Addr) (kn' kc' : Nat) (a' g' b' : List Int) (x y z : Int) (w : World)
    (hR : TriR w w.heap.size A n c G gn K kn a g b) (hn : n * 8 ≤ 140737488351232) (hg : gn * 8 ≤ 140737488351232) (hk : kn * 8 ≤ 140737488351232) (hR' : TriR w w.heap.size A' n' c' G' gn' K' kn' a' g' b') (hn' : n' * 8 ≤ 140737488351232) (hg' : gn' * 8 ≤ 140737488351232) (hk' : kn' * 8 ≤ 140737488351232)
    (hx : (Lit.int .i64 x).wf = true) (hy : (Lit.int .i64 y).wf = true) (hz : (Lit.int .i64 z).wf = true) :
    Calls Try.prog 8 #[.agg #[.slice A n c, .slice G gn gc, .slice K kn kc], .agg #[.slice A' n' c', .slice G' gn' gc', .slice K' kn' kc'], .int .i64 x, .int .i64 y, .int .i64 z] w fun e w' => e = .returned (.bool true) ∧ Below w.heap.size w w' := by
  have hb0 := (below_new w (.cells #[.slice A n c, .slice G gn gc, .slice K kn kc] 25)).alloc (by simp) (.cells #[.slice A' n' c', .slice G' gn' gc', .slice K' kn' kc'] 52)
  have DS := (Blk.new w 25 #[.slice A n c, .slice G gn gc, .slice K kn kc]).alloc (.cells #[.slice A' n' c', .slice G' gn' gc', .slice K' kn' kc'] 52)
  have DY := Blk.new (w.alloc (.cells #[.slice A n c, .slice G gn gc, .slice K kn kc] 25)) 52 #[.slice A' n' c', .slice G' gn' gc', .slice K' kn' kc']
  rw [World.size_alloc] at DY
  have HR := Lib.hid hR
  have HR' := Lib.hid hR'
  have C1 := Lib.hid (fun W (hB : Below w.heap.size w W) => clone_u64 A n c w.heap.size (a.map (.int .u64)) W (HR.out.ra.below hB) hB.size (u64s_one a) (by omega))
  have C2 := Lib.hid (fun W (hB : Below w.heap.size w W) => clone_int G gn gc w.heap.size (g.map (.int .i64)) W (HR.out.rg.below hB) hB.size (ints_one _) (by omega))
  have C3 := Lib.hid (fun W (hB : Below w.heap.size w W) => clone_int K kn kc w.heap.size (b.map (.int .i64)) W (HR.out.rb.below hB) hB.size (ints_one _) (by omega))
  have C1' := Lib.hid (fun W (hB : Below w.heap.size w W) => clone_u64 A' n' c' w.heap.size (a'.map (.int .u64)) W (HR'.out.ra.below hB) hB.size (u64s_one a') (by omega))
  have C2' := Lib.hid (fun W (hB : Below w.heap.size w W) => clone_int G' gn' gc' w.heap.size (g'.map (.int .i64)) W (HR'.out.rg.below hB) hB.size (ints_one _) (by omega))
  have C3' := Lib.hid (fun W (hB : Below w.heap.size w W) => clone_int K' kn' kc' w.heap.size (b'.map (.int .i64)) W (HR'.out.rb.below hB) hB.size (ints_one _) (by omega))
  clear hR hR'
  go_enter Try.func8, Try.ntmps8
  go_wp2_with fail
  refine (threes_true _).mono ?_
  rintro e w1 ⟨rfl, hb1⟩
  have hb01 := below_step hb0 hb1
  have DS1 := DS.below hb1 DS.lt
  have DY1 := DY.below hb1 DY.lt
  clear hb0 hb1 DS DY
  go_upto_region 3 with fail
  go_cut [11, 12, 13] from 36 to 44 (fun s11 s12 s13 wc => Below w1.heap.size w1 wc ∧ ∃ p1 p2 p3 A1 d1 A2 d2 A3 d3, s11 = .pointer (some ⟨p1, 0, none⟩) ∧ s12 = .pointer (some ⟨p2, 0, none⟩) ∧ s13 = .pointer (some ⟨p3, 0, none⟩) ∧ w1.heap.size ≤ p1 ∧ w1.heap.size ≤ p2 ∧ w1.heap.size ≤ p3 ∧ Blk wc p1 22 #[.slice A1 n d1] ∧ Blk wc p2 23 #[.slice A2 gn d2] ∧ Blk wc p3 23 #[.slice A3 kn d3] ∧ wc.ownsRow w1.heap.size 43 1 (.slice A1 n d1) n (a.map (.int .u64)) ∧ wc.ownsRow w1.heap.size 3 1 (.slice A2 gn d2) gn (g.map (.int .i64)) ∧ wc.ownsRow w1.heap.size 3 1 (.slice A3 kn d3) kn (b.map (.int .i64)))
  case first =>
    refine wp_region_any rfl ?_
    refine wpAny_inv3 (I := (fun s0 l s W => ∃ v36 v37 v38 v39 v40 v41 v42 v43 v44 v11 v12 v13 : Value, s = ((((((((((((s0.put (some 36) v36).put (some 37) v37).put (some 38) v38).put (some 39) v39).put (some 40) v40).put (some 41) v41).put (some 42) v42).put (some 43) v43).put (some 44) v44).put (some 11) v11).put (some 12) v12).put (some 13) v13) ∧ R3 w1 w.heap.size A n c G gn gc K kn kc a g b l v36 v37 v38 v39 v40 v41 v42 v43 v44 v11 v12 v13 W)) _ _ ?hend ?hstep ?start
    case start => exact ⟨_, _, _, _, _, _, _, _, _, _, _, _, puts12 _ 36 37 38 39 40 41 42 43 44 11 12 13, R3.start (Below.refl _ w1).drew⟩
    case hend =>
      intro l s W hI hsz hrd
      obtain ⟨v36, v37, v38, v39, v40, v41, v42, v43, v44, v11, v12, v13, rfl, hT⟩ := hI
      have had := all_done hsz hrd (by rfl)
      obtain ⟨A1, d1, rfl, o1⟩ := hT.d2 (had 2 (by decide))
      obtain ⟨A2, d2, rfl, o2⟩ := hT.d5 (had 5 (by decide))
      obtain ⟨A3, d3, rfl, o3⟩ := hT.d8 (had 8 (by decide))
      obtain ⟨u1, ⟨p1, rfl, l1, B1⟩, k1⟩ := hT.d9 (had 9 (by decide))
      obtain ⟨u2, ⟨p2, rfl, l2, B2⟩, k2⟩ := hT.d10 (had 10 (by decide))
      obtain ⟨u3, ⟨p3, rfl, l3, B3⟩, k3⟩ := hT.d11 (had 11 (by decide))
      obtain rfl := k1 (had 12 (by decide))
      obtain rfl := k2 (had 13 (by decide))
      obtain rfl := k3 (had 14 (by decide))
      have hbT := hT.bw
      clear hT had hsz hrd
      go_simp
      go_wp2_with fail
      go_meet
      exact ⟨hbT, p1, p2, p3, A1, d1, A2, d2, A3, d3, rfl, rfl, rfl, l1, l2, l3, B1, B2, B3, o1, o2, o3⟩
    case hstep =>
      intro l s W i o hI hcl hil hu ho haf
      obtain ⟨v36, v37, v38, v39, v40, v41, v42, v43, v44, v11, v12, v13, rfl, hT⟩ := hI
      have hi15 : i < 15 := by rw [← hT.sz]; exact hil
      have hbW := below_step hb01 hT.bw
      have DW := DS1.below hT.bw DS1.lt
      obtain ⟨s0, s1, s2⟩ := DW.three
      have hi : i = 0 ∨ i = 1 ∨ i = 2 ∨ i = 3 ∨ i = 4 ∨ i = 5 ∨ i = 6 ∨ i = 7 ∨ i = 8 ∨ i = 9 ∨ i = 10 ∨ i = 11 ∨ i = 12 ∨ i = 13 ∨ i = 14 := by omega
      rcases hi with rfl | rfl | rfl | rfl | rfl | rfl | rfl | rfl | rfl | rfl | rfl | rfl | rfl | rfl | rfl
      · have hop := ho
        clear haf hop ho hcl
        refine wpOp_list rfl ?_
        go_wp2_with fail
        refine onto_normal ⟨.pointer (some ⟨w.heap.size, 0, none⟩), v37, v38, v39, v40, v41, v42, v43, v44, v11, v12, v13, by go_simp, hT.s0 hu (Below.refl _ _) rfl⟩
      · have hop := ho
        obtain rfl := hT.d0 (pre_dn ho haf 0 rfl)
        clear haf hop ho hcl
        refine wpOp_list rfl ?_
        go_wp2_with fail
        refine onto_normal ⟨_, .slice A n c, v38, v39, v40, v41, v42, v43, v44, v11, v12, v13, by go_simp, hT.s1 hu (Below.refl _ _) rfl⟩
      · have hop := ho
        obtain rfl := hT.d1 (pre_dn ho haf 1 rfl)
        clear haf hop ho hcl
        refine wpOp_list rfl ?_
        go_wp2_with (go_at_call 31; (with_reducible refine (C1.out _ hbW).mono ?_); rintro e W2 ⟨A1, d1, rfl, ho1, hb2⟩)
        refine onto_normal ⟨v36, _, .slice A1 n d1, v39, v40, v41, v42, v43, v44, v11, v12, v13, by go_simp, hT.s2 hu hb2 ⟨A1, d1, rfl, own_mono ho1 hT.bw.size⟩⟩
      · have hop := ho
        clear haf hop ho hcl
        refine wpOp_list rfl ?_
        go_wp2_with fail
        refine onto_normal ⟨v36, v37, v38, .pointer (some ⟨w.heap.size, 1, none⟩), v40, v41, v42, v43, v44, v11, v12, v13, by go_simp, hT.s3 hu (Below.refl _ _) rfl⟩
      · have hop := ho
        obtain rfl := hT.d3 (pre_dn ho haf 3 rfl)
        clear haf hop ho hcl
        refine wpOp_list rfl ?_
        go_wp2_with fail
        refine onto_normal ⟨v36, v37, v38, _, .slice G gn gc, v41, v42, v43, v44, v11, v12, v13, by go_simp, hT.s4 hu (Below.refl _ _) rfl⟩
      · have hop := ho
        obtain rfl := hT.d4 (pre_dn ho haf 4 rfl)
        clear haf hop ho hcl
        refine wpOp_list rfl ?_
        go_wp2_with (go_at_call 32; (with_reducible refine (C2.out _ hbW).mono ?_); rintro e W2 ⟨A1, d1, rfl, ho1, hb2⟩)
        refine onto_normal ⟨v36, v37, v38, v39, _, .slice A1 gn d1, v42, v43, v44, v11, v12, v13, by go_simp, hT.s5 hu hb2 ⟨A1, d1, rfl, own_mono ho1 hT.bw.size⟩⟩
      · have hop := ho
        clear haf hop ho hcl
        refine wpOp_list rfl ?_
        go_wp2_with fail
        refine onto_normal ⟨v36, v37, v38, v39, v40, v41, .pointer (some ⟨w.heap.size, 2, none⟩), v43, v44, v11, v12, v13, by go_simp, hT.s6 hu (Below.refl _ _) rfl⟩
      · have hop := ho
        obtain rfl := hT.d6 (pre_dn ho haf 6 rfl)
        clear haf hop ho hcl
        refine wpOp_list rfl ?_
        go_wp2_with fail
        refine onto_normal ⟨v36, v37, v38, v39, v40, v41, _, .slice K kn kc, v44, v11, v12, v13, by go_simp, hT.s7 hu (Below.refl _ _) rfl⟩
      · have hop := ho
        obtain rfl := hT.d7 (pre_dn ho haf 7 rfl)
        clear haf hop ho hcl
        refine wpOp_list rfl ?_
        go_wp2_with (go_at_call 32; (with_reducible refine (C3.out _ hbW).mono ?_); rintro e W2 ⟨A1, d1, rfl, ho1, hb2⟩)
        refine onto_normal ⟨v36, v37, v38, v39, v40, v41, v42, _, .slice A1 kn d1, v11, v12, v13, by go_simp, hT.s8 hu hb2 ⟨A1, d1, rfl, own_mono ho1 hT.bw.size⟩⟩
      · have hop := ho
        clear haf hop ho hcl
        refine wpOp_list rfl ?_
        go_wp2_with fail
        refine onto_normal ⟨v36, v37, v38, v39, v40, v41, v42, v43, v44, .pointer (some ⟨W.heap.size, 0, none⟩), v12, v13, by go_simp, hT.s9 hu (below_new W _) ⟨.slice none 0 0, W.heap.size, rfl, hT.bw.size, Blk.new W 22 _⟩⟩
      · have hop := ho
        clear haf hop ho hcl
        refine wpOp_list rfl ?_
        go_wp2_with fail
        refine onto_normal ⟨v36, v37, v38, v39, v40, v41, v42, v43, v44, v11, .pointer (some ⟨W.heap.size, 0, none⟩), v13, by go_simp, hT.s10 hu (below_new W _) ⟨.slice none 0 0, W.heap.size, rfl, hT.bw.size, Blk.new W 23 _⟩ (fun h11 => by obtain ⟨u, hB, -⟩ := hT.d11 h11; exact hB.ne.symm)⟩
      · have hop := ho
        clear haf hop ho hcl
        refine wpOp_list rfl ?_
        go_wp2_with fail
        refine onto_normal ⟨v36, v37, v38, v39, v40, v41, v42, v43, v44, v11, v12, .pointer (some ⟨W.heap.size, 0, none⟩), by go_simp, hT.s11 hu (below_new W _) ⟨.slice none 0 0, W.heap.size, rfl, hT.bw.size, Blk.new W 23 _⟩ (fun h10 => by obtain ⟨u, hB, -⟩ := hT.d10 h10; exact hB.ne)⟩
      · have hop := ho
        have h8 : Dn l 8 := pre_dn ho haf 8 rfl
        have h9 : Dn l 9 := pre_dn ho haf 9 rfl
        have h10 : Dn l 10 := pre_dn ho haf 10 rfl
        have h11 : Dn l 11 := pre_dn ho haf 11 rfl
        have h7 : Dn l 7 := hcl.dn h8 7 rfl
        have h5 : Dn l 5 := hcl.dn h8 5 rfl
        have h6 : Dn l 6 := hcl.dn h7 6 rfl
        have h4 : Dn l 4 := hcl.dn h5 4 rfl
        have h2 : Dn l 2 := hcl.dn h5 2 rfl
        have h3 : Dn l 3 := hcl.dn h4 3 rfl
        have h1 : Dn l 1 := hcl.dn h2 1 rfl
        have h0 : Dn l 0 := hcl.dn h1 0 rfl
        have hall : ∀ j, j < 12 → Dn l j := fun j hj => by
          have hj2 : j = 0 ∨ j = 1 ∨ j = 2 ∨ j = 3 ∨ j = 4 ∨ j = 5 ∨ j = 6 ∨ j = 7 ∨ j = 8 ∨ j = 9 ∨ j = 10 ∨ j = 11 := by omega
          rcases hj2 with rfl | rfl | rfl | rfl | rfl | rfl | rfl | rfl | rfl | rfl | rfl | rfl
          all_goals assumption
        obtain ⟨A1, d1, rfl, -⟩ := hT.d2 h2
        obtain ⟨u, ⟨p, rfl, hp, hB⟩, -⟩ := hT.d9 h9
        have hf := hB.frozen 0
        have hc0 := hB.cell 0
        simp only [List.getElem?_toArray, List.getElem?_cons_zero] at hc0
        have hR2 := hT.s12 hall rfl
        clear haf hop ho hcl hall h0 h1 h2 h3 h4 h5 h6 h7 h8 h9 h10 h11
        refine wpOp_list rfl ?_
        go_wp2_with fail
        refine onto_normal ⟨_, _, _, _, _, _, _, _, _, _, _, _, ?_, hR2⟩
        go_simp
      · have hop := ho
        have h12 : Dn l 12 := pre_dn ho haf 12 rfl
        have h8 : Dn l 8 := hcl.dn h12 8 rfl
        have h9 : Dn l 9 := hcl.dn h12 9 rfl
        have h10 : Dn l 10 := hcl.dn h12 10 rfl
        have h11 : Dn l 11 := hcl.dn h12 11 rfl
        have h7 : Dn l 7 := hcl.dn h8 7 rfl
        have h5 : Dn l 5 := hcl.dn h8 5 rfl
        have h6 : Dn l 6 := hcl.dn h7 6 rfl
        have h4 : Dn l 4 := hcl.dn h5 4 rfl
        have h2 : Dn l 2 := hcl.dn h5 2 rfl
        have h3 : Dn l 3 := hcl.dn h4 3 rfl
        have h1 : Dn l 1 := hcl.dn h2 1 rfl
        have h0 : Dn l 0 := hcl.dn h1 0 rfl
        have hall : ∀ j, j < 12 → Dn l j := fun j hj => by
          have hj2 : j = 0 ∨ j = 1 ∨ j = 2 ∨ j = 3 ∨ j = 4 ∨ j = 5 ∨ j = 6 ∨ j = 7 ∨ j = 8 ∨ j = 9 ∨ j = 10 ∨ j = 11 := by omega
          rcases hj2 with rfl | rfl | rfl | rfl | rfl | rfl | rfl | rfl | rfl | rfl | rfl | rfl
          all_goals assumption
        obtain ⟨A1, d1, rfl, -⟩ := hT.d5 h5
        obtain ⟨u, ⟨p, rfl, hp, hB⟩, -⟩ := hT.d10 h10
        have hf := hB.frozen 0
        have hc0 := hB.cell 0
        simp only [List.getElem?_toArray, List.getElem?_cons_zero] at hc0
        have hR2 := hT.s13 hall rfl
        clear haf hop ho hcl hall h0 h1 h2 h3 h4 h5 h6 h7 h8 h9 h10 h11
        refine wpOp_list rfl ?_
        go_wp2_with fail
        refine onto_normal ⟨_, _, _, _, _, _, _, _, _, _, _, _, ?_, hR2⟩
        go_simp
      · have hop := ho
        have h12 : Dn l 12 := hcl.dn (pre_dn ho haf 13 rfl) 12 rfl
        have h8 : Dn l 8 := hcl.dn h12 8 rfl
        have h9 : Dn l 9 := hcl.dn h12 9 rfl
        have h10 : Dn l 10 := hcl.dn h12 10 rfl
        have h11 : Dn l 11 := hcl.dn h12 11 rfl
        have h7 : Dn l 7 := hcl.dn h8 7 rfl
        have h5 : Dn l 5 := hcl.dn h8 5 rfl
        have h6 : Dn l 6 := hcl.dn h7 6 rfl
        have h4 : Dn l 4 := hcl.dn h5 4 rfl
        have h2 : Dn l 2 := hcl.dn h5 2 rfl
        have h3 : Dn l 3 := hcl.dn h4 3 rfl
        have h1 : Dn l 1 := hcl.dn h2 1 rfl
        have h0 : Dn l 0 := hcl.dn h1 0 rfl
        have hall : ∀ j, j < 12 → Dn l j := fun j hj => by
          have hj2 : j = 0 ∨ j = 1 ∨ j = 2 ∨ j = 3 ∨ j = 4 ∨ j = 5 ∨ j = 6 ∨ j = 7 ∨ j = 8 ∨ j = 9 ∨ j = 10 ∨ j = 11 := by omega
          rcases hj2 with rfl | rfl | rfl | rfl | rfl | rfl | rfl | rfl | rfl | rfl | rfl | rfl
          all_goals assumption
        obtain ⟨A1, d1, rfl, -⟩ := hT.d8 h8
        obtain ⟨u, ⟨p, rfl, hp, hB⟩, -⟩ := hT.d11 h11
        have hf := hB.frozen 0
        have hc0 := hB.cell 0
        simp only [List.getElem?_toArray, List.getElem?_cons_zero] at hc0
        have hR2 := hT.s14 hall rfl
        clear haf hop ho hcl hall h0 h1 h2 h3 h4 h5 h6 h7 h8 h9 h10 h11
        refine wpOp_list rfl ?_
        go_wp2_with fail
        refine onto_normal ⟨_, _, _, _, _, _, _, _, _, _, _, _, ?_, hR2⟩
        go_simp
  case rest =>
    obtain ⟨hbc, p1, p2, p3, A1, d1, A2, d2, A3, d3, rfl, rfl, rfl, l1, l2, l3, B1, B2, B3, o1, o2, o3⟩ := hcut
    have hb02 := below_step hb01 hbc
    have DS2 := DS1.below hbc DS1.lt
    have DY2 := DY1.below hbc DY1.lt
    obtain ⟨w2, hw2⟩ : ∃ w2, w2 = wc := ⟨wc, rfl⟩
    subst hw2
    go_upto_region 4 with fail
    go_cut [14, 15, 16] from 45 to 53 (fun s11 s12 s13 wc => Below w2.heap.size w2 wc ∧ ∃ p1 p2 p3 A1 d1 A2 d2 A3 d3, s11 = .pointer (some ⟨p1, 0, none⟩) ∧ s12 = .pointer (some ⟨p2, 0, none⟩) ∧ s13 = .pointer (some ⟨p3, 0, none⟩) ∧ w2.heap.size ≤ p1 ∧ w2.heap.size ≤ p2 ∧ w2.heap.size ≤ p3 ∧ Blk wc p1 22 #[.slice A1 n' d1] ∧ Blk wc p2 23 #[.slice A2 gn' d2] ∧ Blk wc p3 23 #[.slice A3 kn' d3] ∧ wc.ownsRow w2.heap.size 43 1 (.slice A1 n' d1) n' (a'.map (.int .u64)) ∧ wc.ownsRow w2.heap.size 3 1 (.slice A2 gn' d2) gn' (g'.map (.int .i64)) ∧ wc.ownsRow w2.heap.size 3 1 (.slice A3 kn' d3) kn' (b'.map (.int .i64)))
    case first =>
      refine wp_region_any rfl ?_
      refine wpAny_inv3 (I := (fun s0 l s W => ∃ v36 v37 v38 v39 v40 v41 v42 v43 v44 v11 v12 v13 : Value, s = ((((((((((((s0.put (some 45) v36).put (some 46) v37).put (some 47) v38).put (some 48) v39).put (some 49) v40).put (some 50) v41).put (some 51) v42).put (some 52) v43).put (some 53) v44).put (some 14) v11).put (some 15) v12).put (some 16) v13) ∧ R3 w2 (w.heap.size + 1) A' n' c' G' gn' gc' K' kn' kc' a' g' b' l v36 v37 v38 v39 v40 v41 v42 v43 v44 v11 v12 v13 W)) _ _ ?hend ?hstep ?start
      case start => exact ⟨_, _, _, _, _, _, _, _, _, _, _, _, puts12 _ 45 46 47 48 49 50 51 52 53 14 15 16, R3.start (Below.refl _ w2).drew⟩
      case hend =>
        intro l s W hI hsz hrd
        obtain ⟨v36, v37, v38, v39, v40, v41, v42, v43, v44, v11, v12, v13, rfl, hT⟩ := hI
        have had := all_done hsz hrd (by rfl)
        obtain ⟨A1, d1, rfl, o1⟩ := hT.d2 (had 2 (by decide))
        obtain ⟨A2, d2, rfl, o2⟩ := hT.d5 (had 5 (by decide))
        obtain ⟨A3, d3, rfl, o3⟩ := hT.d8 (had 8 (by decide))
        obtain ⟨u1, ⟨p1, rfl, l1, B1⟩, k1⟩ := hT.d9 (had 9 (by decide))
        obtain ⟨u2, ⟨p2, rfl, l2, B2⟩, k2⟩ := hT.d10 (had 10 (by decide))
        obtain ⟨u3, ⟨p3, rfl, l3, B3⟩, k3⟩ := hT.d11 (had 11 (by decide))
        obtain rfl := k1 (had 12 (by decide))
        obtain rfl := k2 (had 13 (by decide))
        obtain rfl := k3 (had 14 (by decide))
        have hbT := hT.bw
        clear hT had hsz hrd
        go_simp
        go_wp2_with fail
        go_meet
        exact ⟨hbT, p1, p2, p3, A1, d1, A2, d2, A3, d3, rfl, rfl, rfl, l1, l2, l3, B1, B2, B3, o1, o2, o3⟩
      case hstep =>
        intro l s W i o hI hcl hil hu ho haf
        obtain ⟨v36, v37, v38, v39, v40, v41, v42, v43, v44, v11, v12, v13, rfl, hT⟩ := hI
        have hi15 : i < 15 := by rw [← hT.sz]; exact hil
        have hbW := below_step hb02 hT.bw
        have DW := DY2.below hT.bw DY2.lt
        obtain ⟨s0, s1, s2⟩ := DW.three
        have hi : i = 0 ∨ i = 1 ∨ i = 2 ∨ i = 3 ∨ i = 4 ∨ i = 5 ∨ i = 6 ∨ i = 7 ∨ i = 8 ∨ i = 9 ∨ i = 10 ∨ i = 11 ∨ i = 12 ∨ i = 13 ∨ i = 14 := by omega
        rcases hi with rfl | rfl | rfl | rfl | rfl | rfl | rfl | rfl | rfl | rfl | rfl | rfl | rfl | rfl | rfl
        · have hop := ho
          clear haf hop ho hcl
          refine wpOp_list rfl ?_
          go_wp2_with fail
          refine onto_normal ⟨.pointer (some ⟨(w.heap.size + 1), 0, none⟩), v37, v38, v39, v40, v41, v42, v43, v44, v11, v12, v13, by go_simp, hT.s0 hu (Below.refl _ _) rfl⟩
        · have hop := ho
          obtain rfl := hT.d0 (pre_dn ho haf 0 rfl)
          clear haf hop ho hcl
          refine wpOp_list rfl ?_
          go_wp2_with fail
          refine onto_normal ⟨_, .slice A' n' c', v38, v39, v40, v41, v42, v43, v44, v11, v12, v13, by go_simp, hT.s1 hu (Below.refl _ _) rfl⟩
        · have hop := ho
          obtain rfl := hT.d1 (pre_dn ho haf 1 rfl)
          clear haf hop ho hcl
          refine wpOp_list rfl ?_
          go_wp2_with (go_at_call 31; (with_reducible refine (C1'.out _ hbW).mono ?_); rintro e W2 ⟨A1, d1, rfl, ho1, hb2⟩)
          refine onto_normal ⟨v36, _, .slice A1 n' d1, v39, v40, v41, v42, v43, v44, v11, v12, v13, by go_simp, hT.s2 hu hb2 ⟨A1, d1, rfl, own_mono ho1 hT.bw.size⟩⟩
        · have hop := ho
          clear haf hop ho hcl
          refine wpOp_list rfl ?_
          go_wp2_with fail
          refine onto_normal ⟨v36, v37, v38, .pointer (some ⟨(w.heap.size + 1), 1, none⟩), v40, v41, v42, v43, v44, v11, v12, v13, by go_simp, hT.s3 hu (Below.refl _ _) rfl⟩
        · have hop := ho
          obtain rfl := hT.d3 (pre_dn ho haf 3 rfl)
          clear haf hop ho hcl
          refine wpOp_list rfl ?_
          go_wp2_with fail
          refine onto_normal ⟨v36, v37, v38, _, .slice G' gn' gc', v41, v42, v43, v44, v11, v12, v13, by go_simp, hT.s4 hu (Below.refl _ _) rfl⟩
        · have hop := ho
          obtain rfl := hT.d4 (pre_dn ho haf 4 rfl)
          clear haf hop ho hcl
          refine wpOp_list rfl ?_
          go_wp2_with (go_at_call 32; (with_reducible refine (C2'.out _ hbW).mono ?_); rintro e W2 ⟨A1, d1, rfl, ho1, hb2⟩)
          refine onto_normal ⟨v36, v37, v38, v39, _, .slice A1 gn' d1, v42, v43, v44, v11, v12, v13, by go_simp, hT.s5 hu hb2 ⟨A1, d1, rfl, own_mono ho1 hT.bw.size⟩⟩
        · have hop := ho
          clear haf hop ho hcl
          refine wpOp_list rfl ?_
          go_wp2_with fail
          refine onto_normal ⟨v36, v37, v38, v39, v40, v41, .pointer (some ⟨(w.heap.size + 1), 2, none⟩), v43, v44, v11, v12, v13, by go_simp, hT.s6 hu (Below.refl _ _) rfl⟩
        · have hop := ho
          obtain rfl := hT.d6 (pre_dn ho haf 6 rfl)
          clear haf hop ho hcl
          refine wpOp_list rfl ?_
          go_wp2_with fail
          refine onto_normal ⟨v36, v37, v38, v39, v40, v41, _, .slice K' kn' kc', v44, v11, v12, v13, by go_simp, hT.s7 hu (Below.refl _ _) rfl⟩
        · have hop := ho
          obtain rfl := hT.d7 (pre_dn ho haf 7 rfl)
          clear haf hop ho hcl
          refine wpOp_list rfl ?_
          go_wp2_with (go_at_call 32; (with_reducible refine (C3'.out _ hbW).mono ?_); rintro e W2 ⟨A1, d1, rfl, ho1, hb2⟩)
          refine onto_normal ⟨v36, v37, v38, v39, v40, v41, v42, _, .slice A1 kn' d1, v11, v12, v13, by go_simp, hT.s8 hu hb2 ⟨A1, d1, rfl, own_mono ho1 hT.bw.size⟩⟩
        · have hop := ho
          clear haf hop ho hcl
          refine wpOp_list rfl ?_
          go_wp2_with fail
          refine onto_normal ⟨v36, v37, v38, v39, v40, v41, v42, v43, v44, .pointer (some ⟨W.heap.size, 0, none⟩), v12, v13, by go_simp, hT.s9 hu (below_new W _) ⟨.slice none 0 0, W.heap.size, rfl, hT.bw.size, Blk.new W 22 _⟩⟩
        · have hop := ho
          clear haf hop ho hcl
          refine wpOp_list rfl ?_
          go_wp2_with fail
          refine onto_normal ⟨v36, v37, v38, v39, v40, v41, v42, v43, v44, v11, .pointer (some ⟨W.heap.size, 0, none⟩), v13, by go_simp, hT.s10 hu (below_new W _) ⟨.slice none 0 0, W.heap.size, rfl, hT.bw.size, Blk.new W 23 _⟩ (fun h11 => by obtain ⟨u, hB, -⟩ := hT.d11 h11; exact hB.ne.symm)⟩
        · have hop := ho
          clear haf hop ho hcl
          refine wpOp_list rfl ?_
          go_wp2_with fail
          refine onto_normal ⟨v36, v37, v38, v39, v40, v41, v42, v43, v44, v11, v12, .pointer (some ⟨W.heap.size, 0, none⟩), by go_simp, hT.s11 hu (below_new W _) ⟨.slice none 0 0, W.heap.size, rfl, hT.bw.size, Blk.new W 23 _⟩ (fun h10 => by obtain ⟨u, hB, -⟩ := hT.d10 h10; exact hB.ne)⟩
        · have hop := ho
          have h8 : Dn l 8 := pre_dn ho haf 8 rfl
          have h9 : Dn l 9 := pre_dn ho haf 9 rfl
          have h10 : Dn l 10 := pre_dn ho haf 10 rfl
          have h11 : Dn l 11 := pre_dn ho haf 11 rfl
          have h7 : Dn l 7 := hcl.dn h8 7 rfl
          have h5 : Dn l 5 := hcl.dn h8 5 rfl
          have h6 : Dn l 6 := hcl.dn h7 6 rfl
          have h4 : Dn l 4 := hcl.dn h5 4 rfl
          have h2 : Dn l 2 := hcl.dn h5 2 rfl
          have h3 : Dn l 3 := hcl.dn h4 3 rfl
          have h1 : Dn l 1 := hcl.dn h2 1 rfl
          have h0 : Dn l 0 := hcl.dn h1 0 rfl
          have hall : ∀ j, j < 12 → Dn l j := fun j hj => by
            have hj2 : j = 0 ∨ j = 1 ∨ j = 2 ∨ j = 3 ∨ j = 4 ∨ j = 5 ∨ j = 6 ∨ j = 7 ∨ j = 8 ∨ j = 9 ∨ j = 10 ∨ j = 11 := by omega
            rcases hj2 with rfl | rfl | rfl | rfl | rfl | rfl | rfl | rfl | rfl | rfl | rfl | rfl
            all_goals assumption
          obtain ⟨A1, d1, rfl, -⟩ := hT.d2 h2
          obtain ⟨u, ⟨p, rfl, hp, hB⟩, -⟩ := hT.d9 h9
          have hf := hB.frozen 0
          have hc0 := hB.cell 0
          simp only [List.getElem?_toArray, List.getElem?_cons_zero] at hc0
          have hR2 := hT.s12 hall rfl
          clear haf hop ho hcl hall h0 h1 h2 h3 h4 h5 h6 h7 h8 h9 h10 h11
          refine wpOp_list rfl ?_
          go_wp2_with fail
          refine onto_normal ⟨_, _, _, _, _, _, _, _, _, _, _, _, ?_, hR2⟩
          go_simp
        · have hop := ho
          have h12 : Dn l 12 := pre_dn ho haf 12 rfl
          have h8 : Dn l 8 := hcl.dn h12 8 rfl
          have h9 : Dn l 9 := hcl.dn h12 9 rfl
          have h10 : Dn l 10 := hcl.dn h12 10 rfl
          have h11 : Dn l 11 := hcl.dn h12 11 rfl
          have h7 : Dn l 7 := hcl.dn h8 7 rfl
          have h5 : Dn l 5 := hcl.dn h8 5 rfl
          have h6 : Dn l 6 := hcl.dn h7 6 rfl
          have h4 : Dn l 4 := hcl.dn h5 4 rfl
          have h2 : Dn l 2 := hcl.dn h5 2 rfl
          have h3 : Dn l 3 := hcl.dn h4 3 rfl
          have h1 : Dn l 1 := hcl.dn h2 1 rfl
          have h0 : Dn l 0 := hcl.dn h1 0 rfl
          have hall : ∀ j, j < 12 → Dn l j := fun j hj => by
            have hj2 : j = 0 ∨ j = 1 ∨ j = 2 ∨ j = 3 ∨ j = 4 ∨ j = 5 ∨ j = 6 ∨ j = 7 ∨ j = 8 ∨ j = 9 ∨ j = 10 ∨ j = 11 := by omega
            rcases hj2 with rfl | rfl | rfl | rfl | rfl | rfl | rfl | rfl | rfl | rfl | rfl | rfl
            all_goals assumption
          obtain ⟨A1, d1, rfl, -⟩ := hT.d5 h5
          obtain ⟨u, ⟨p, rfl, hp, hB⟩, -⟩ := hT.d10 h10
          have hf := hB.frozen 0
          have hc0 := hB.cell 0
          simp only [List.getElem?_toArray, List.getElem?_cons_zero] at hc0
          have hR2 := hT.s13 hall rfl
          clear haf hop ho hcl hall h0 h1 h2 h3 h4 h5 h6 h7 h8 h9 h10 h11
          refine wpOp_list rfl ?_
          go_wp2_with fail
          refine onto_normal ⟨_, _, _, _, _, _, _, _, _, _, _, _, ?_, hR2⟩
          go_simp
        · have hop := ho
          have h12 : Dn l 12 := hcl.dn (pre_dn ho haf 13 rfl) 12 rfl
          have h8 : Dn l 8 := hcl.dn h12 8 rfl
          have h9 : Dn l 9 := hcl.dn h12 9 rfl
          have h10 : Dn l 10 := hcl.dn h12 10 rfl
          have h11 : Dn l 11 := hcl.dn h12 11 rfl
          have h7 : Dn l 7 := hcl.dn h8 7 rfl
          have h5 : Dn l 5 := hcl.dn h8 5 rfl
          have h6 : Dn l 6 := hcl.dn h7 6 rfl
          have h4 : Dn l 4 := hcl.dn h5 4 rfl
          have h2 : Dn l 2 := hcl.dn h5 2 rfl
          have h3 : Dn l 3 := hcl.dn h4 3 rfl
          have h1 : Dn l 1 := hcl.dn h2 1 rfl
          have h0 : Dn l 0 := hcl.dn h1 0 rfl
          have hall : ∀ j, j < 12 → Dn l j := fun j hj => by
            have hj2 : j = 0 ∨ j = 1 ∨ j = 2 ∨ j = 3 ∨ j = 4 ∨ j = 5 ∨ j = 6 ∨ j = 7 ∨ j = 8 ∨ j = 9 ∨ j = 10 ∨ j = 11 := by omega
            rcases hj2 with rfl | rfl | rfl | rfl | rfl | rfl | rfl | rfl | rfl | rfl | rfl | rfl
            all_goals assumption
          obtain ⟨A1, d1, rfl, -⟩ := hT.d8 h8
          obtain ⟨u, ⟨p, rfl, hp, hB⟩, -⟩ := hT.d11 h11
          have hf := hB.frozen 0
          have hc0 := hB.cell 0
          simp only [List.getElem?_toArray, List.getElem?_cons_zero] at hc0
          have hR2 := hT.s14 hall rfl
          clear haf hop ho hcl hall h0 h1 h2 h3 h4 h5 h6 h7 h8 h9 h10 h11
          refine wpOp_list rfl ?_
          go_wp2_with fail
          refine onto_normal ⟨_, _, _, _, _, _, _, _, _, _, _, _, ?_, hR2⟩
          go_simp
    case rest =>
      obtain ⟨hbd, p4, p5, p6, A4, d4, A5, d5, A6, d6, rfl, rfl, rfl, l4, l5, l6, B4, B5, B6, o4, o5, o6⟩ := hcut
      have hb03 := below_step hb02 hbd
      have DS3 := DS2.step3 hbd
      have DY3 := DY2.step3 hbd
      have B1 := B1.step3 hbd
      have B2 := B2.step3 hbd
      have B3 := B3.step3 hbd
      have r1 := Reads.of_own (own_below o1 hbd)
      have r2 := Reads.of_own (own_below o2 hbd)
      have r3 := Reads.of_own (own_below o3 hbd)
      have r4 := Reads.of_own o4
      have r5 := Reads.of_own o5
      have r6 := Reads.of_own o6
      obtain ⟨w3, hw3⟩ : ∃ w3, w3 = wc := ⟨wc, rfl⟩
      subst hw3
      have HS := Lib.hid (step_told A n c G gn gc K kn kc a g b w3 ((HR.out.below hb03).more hb03.size) (by omega))
      obtain ⟨s0, s1, s2⟩ := DS3.three
      clear o1 o2 o3 o4 o5 o6 hbd DS1 DY1 DS2 DY2 hbc l1 l2 l3 l4 l5 l6 hb02 hb01 C1 C2 C3 C1' C2' C3'
      go_wp2_with fail
      refine HS.out.mono ?_
      rintro e w4 ⟨hb34, v, m, E, rfl, X1, m1, e1, X2, m2, e2, X3, m3, e3, xa, xg, xb, rfl, O1⟩
      have h34 := hb34.alloc hb34.size (.cells #[.slice X1 m1 e1, .slice X2 m2 e2, .slice X3 m3 e3] 25)
      have DX := Blk.new w4 25 #[.slice X1 m1 e1, .slice X2 m2 e2, .slice X3 m3 e3]
      have O1 := O1.alloc (.cells #[.slice X1 m1 e1, .slice X2 m2 e2, .slice X3 m3 e3] 25)
      have hb04 := below_step hb03 h34
      obtain ⟨s0, s1, s2⟩ := (DS3.step3 h34).three
      have HW := Lib.hid (write_told A n c G gn gc K kn kc a g b x y z _ ((HR.out.below hb04).more hb04.size) (by omega) hx hy hz)
      clear HS hb34
      go_wp2_with fail
      refine HW.out.mono ?_
      rintro e w5 ⟨hb45, v, E2, rfl, Y1, k1, f1, Y2, k2, f2, Y3, k3, f3, ya, yg, yb, rfl, O2⟩
      have h45 := hb45.alloc hb45.size (.cells #[.slice Y1 k1 f1, .slice Y2 k2 f2, .slice Y3 k3 f3] 25)
      have DW := Blk.new w5 25 #[.slice Y1 k1 f1, .slice Y2 k2 f2, .slice Y3 k3 f3]
      have O1 := O1.below h45
      have O2 := O2.alloc (.cells #[.slice Y1 k1 f1, .slice Y2 k2 f2, .slice Y3 k3 f3] 25)
      have DX := DX.step3 h45
      have hb05 := below_step hb04 h45
      have h35 := below_step h34 h45
      obtain ⟨s0, s1, s2⟩ := (DY3.step3 h35).three
      have HY := Lib.hid (ywrite_told A' n' c' G' gn' gc' K' kn' kc' a' g' b' x y z _ ((HR'.out.below hb05).more hb05.size) (by omega) (by omega) hx hy hz)
      clear HW hb45
      go_wp2_with fail
      refine HY.out.mono ?_
      rintro e w6 ⟨hb56, v, E3, rfl, Z1, z1, i1, Z2, z2, i2, Z3, z3, i3, za, zg, zb, rfl, O3⟩
      have h56 := hb56.alloc hb56.size (.cells #[.slice Z1 z1 i1, .slice Z2 z2 i2, .slice Z3 z3 i3] 52)
      have DZ := Blk.new w6 52 #[.slice Z1 z1 i1, .slice Z2 z2 i2, .slice Z3 z3 i3]
      have O1 := O1.below h56
      have O2 := O2.below h56
      have O3 := O3.alloc (.cells #[.slice Z1 z1 i1, .slice Z2 z2 i2, .slice Z3 z3 i3] 52)
      have DX := DX.step3 h56
      have DW := DW.step3 h56
      have hb06 := below_step hb05 h56
      have h36 := below_step h35 h56
      obtain ⟨s0, s1, s2⟩ := (DY3.step3 h36).three
      have HGw := Lib.hid (grow_told A' n' c' G' gn' gc' K' kn' kc' a' g' b' _ ((HR'.out.below hb06).more hb06.size) (by omega) (by omega))
      clear HY hb56
      go_wp2_with fail
      refine HGw.out.mono ?_
      rintro e w7 ⟨hb67, v, E4, rfl, V1, j1, t1, V2, j2, t2, V3, j3, t3, va, vg, vb, rfl, O4⟩
      have h67 := hb67.alloc hb67.size (.cells #[.slice V1 j1 t1, .slice V2 j2 t2, .slice V3 j3 t3] 52)
      have DV := Blk.new w7 52 #[.slice V1 j1 t1, .slice V2 j2 t2, .slice V3 j3 t3]
      have O1 := O1.below h67
      have O2 := O2.below h67
      have O3 := O3.below h67
      have O4 := O4.alloc (.cells #[.slice V1 j1 t1, .slice V2 j2 t2, .slice V3 j3 t3] 52)
      have DX := DX.step3 h67
      have DW := DW.step3 h67
      have DZ := DZ.step3 h67
      have hb07 := below_step hb06 h67
      have h37 := below_step h36 h67
      have HCl := Lib.hid (stepOwnC_any w.heap.size p1 p2 p3 (w.heap.size + 1) p4 p5 p6 A n c G gn gc K kn kc a g b A' n' c' G' gn' gc' K' kn' kc' a' g' b' A1 d1 A2 d2 A3 d3 A4 d4 A5 d5 A6 d6 _ (DS3.step3 h37) (DY3.step3 h37) (B1.step3 h37) (B2.step3 h37) (B3.step3 h37) (B4.step3 h37) (B5.step3 h37) (B6.step3 h37)
        ((HR.out.below hb07).more hb07.size) ((HR'.out.below hb07).more hb07.size) ((r1.below h37).more h37.size) ((r2.below h37).more h37.size) ((r3.below h37).more h37.size) ((r4.below h37).more h37.size) ((r5.below h37).more h37.size) ((r6.below h37).more h37.size) (by omega) (by omega) (by omega) (by omega) (by omega) (by omega))
      clear HGw hb67
      go_wp2_with fail
      refine HCl.out.mono ?_
      rintro e w8 ⟨rfl, hb78⟩
      have hb38 := below_step h37 hb78
      have RK : RowsK w8 w3.heap.size [(X1, e1), (Y1, f1), (Z1, i1), (V1, t1)] [(X2, e2), (X3, e3), (Y2, f2), (Y3, f3), (Z2, i2), (Z3, i3), (V2, t2), (V3, t3)] [(w4.heap.size, 25, #[.slice X1 m1 e1, .slice X2 m2 e2, .slice X3 m3 e3]), (w5.heap.size, 25, #[.slice Y1 k1 f1, .slice Y2 k2 f2, .slice Y3 k3 f3]), (w6.heap.size, 52, #[.slice Z1 z1 i1, .slice Z2 z2 i2, .slice Z3 z3 i3]), (w7.heap.size, 52, #[.slice V1 j1 t1, .slice V2 j2 t2, .slice V3 j3 t3])] := by
        refine ⟨fun p hp => ?_, fun p hp => ?_, fun p hp => ?_⟩
        · simp only [List.mem_cons, List.not_mem_nil, or_false] at hp
          rcases hp with rfl | rfl | rfl | rfl
          · exact (FullK.of O1.a (Nat.le_refl _)).below hb78
          · exact (FullK.of O2.a h34.size).below hb78
          · exact (FullK.of O3.a h35.size).below hb78
          · exact (FullK.of O4.a h36.size).below hb78
        · simp only [List.mem_cons, List.not_mem_nil, or_false] at hp
          rcases hp with rfl | rfl | rfl | rfl | rfl | rfl | rfl | rfl
          · exact (FullK.of O1.g (Nat.le_refl _)).below hb78
          · exact (FullK.of O1.b (Nat.le_refl _)).below hb78
          · exact (FullK.of O2.g h34.size).below hb78
          · exact (FullK.of O2.b h34.size).below hb78
          · exact (FullK.of O3.g h35.size).below hb78
          · exact (FullK.of O3.b h35.size).below hb78
          · exact (FullK.of O4.g h36.size).below hb78
          · exact (FullK.of O4.b h36.size).below hb78
        · simp only [List.mem_cons, List.not_mem_nil, or_false] at hp
          rcases hp with rfl | rfl | rfl | rfl
          · exact ⟨DX.step3 hb78, (show 43 ≠ 25 by decide), (show 3 ≠ 25 by decide)⟩
          · exact ⟨DW.step3 hb78, (show 43 ≠ 25 by decide), (show 3 ≠ 25 by decide)⟩
          · exact ⟨DZ.step3 hb78, (show 43 ≠ 52 by decide), (show 3 ≠ 52 by decide)⟩
          · exact ⟨DV.step3 hb78, (show 43 ≠ 52 by decide), (show 3 ≠ 52 by decide)⟩
      have DX := DX.step3 hb78
      obtain ⟨qx0, qx1, qx2⟩ := DX.three
      have DW := DW.step3 hb78
      obtain ⟨qy0, qy1, qy2⟩ := DW.three
      have DZ := DZ.step3 hb78
      obtain ⟨qz0, qz1, qz2⟩ := DZ.three
      have DV := DV.step3 hb78
      obtain ⟨qv0, qv1, qv2⟩ := DV.three
      have HCw := Lib.hid (fun (wr : World) (h37 : Below w3.heap.size w3 wr) => stepOwnC_any w.heap.size p1 p2 p3 (w.heap.size + 1) p4 p5 p6 A n c G gn gc K kn kc a g b A' n' c' G' gn' gc' K' kn' kc' a' g' b' A1 d1 A2 d2 A3 d3 A4 d4 A5 d5 A6 d6 _ (DS3.step3 h37) (DY3.step3 h37) (B1.step3 h37) (B2.step3 h37) (B3.step3 h37) (B4.step3 h37) (B5.step3 h37) (B6.step3 h37)
        ((HR.out.below (below_step hb03 h37)).more (below_step hb03 h37).size) ((HR'.out.below (below_step hb03 h37)).more (below_step hb03 h37).size) ((r1.below h37).more h37.size) ((r2.below h37).more h37.size) ((r3.below h37).more h37.size) ((r4.below h37).more h37.size) ((r5.below h37).more h37.size) ((r6.below h37).more h37.size) (by omega) (by omega) (by omega) (by omega) (by omega) (by omega))
      clear O1 O2 O3 O4 DX DW DZ DV B1 B2 B3 B4 B5 B6 r1 r2 r3 r4 r5 r6 HR HR' DS3 DY3 h34 h35 h36 h45 h56 h67 hb04 hb05 hb06 hb07 hb78 h37 HCl s0 s1 s2 hn hn' hg hg' hk hk' hx hy hz
      go_wp2_with fail
      go_loopw [29, 30, 93] (fun _ _ i wr => ∃ j : Nat, j ≤ 4 ∧ i = .int .i64 j ∧ Below w3.heap.size w3 wr ∧ RowsK wr w3.heap.size [(X1, e1), (Y1, f1), (Z1, i1), (V1, t1)] [(X2, e2), (X3, e3), (Y2, f2), (Y3, f3), (Z2, i2), (Z3, i3), (V2, t2), (V3, t3)] [(w4.heap.size, 25, #[.slice X1 m1 e1, .slice X2 m2 e2, .slice X3 m3 e3]), (w5.heap.size, 25, #[.slice Y1 k1 f1, .slice Y2 k2 f2, .slice Y3 k3 f3]), (w6.heap.size, 52, #[.slice Z1 z1 i1, .slice Z2 z2 i2, .slice Z3 z3 i3]), (w7.heap.size, 52, #[.slice V1 j1 t1, .slice V2 j2 t2, .slice V3 j3 t3])]) (fun _ _ i _ => 4 - (intOf i).toNat)
      case atStart => exact ⟨0, by omega, rfl, hb38, RK⟩
      case round =>
        obtain ⟨j, hj, rfl, hb, RK⟩ := hrel
        have hjc : j = 0 ∨ j = 1 ∨ j = 2 ∨ j = 3 ∨ j = 4 := by omega
        rcases hjc with rfl | rfl | rfl | rfl | rfl
        · clear hj
          have hX : (Instr.index 69 (.agg #[.slice X1 m1 e1, .slice Y1 k1 f1, .slice Z1 z1 i1, .slice V1 j1 t1]) (.int .i64 0)).run Try.prog wr = .ok (.slice X1 m1 e1) wr := idxK 4 69 22 43 Try.underlying69 Try.underlying22 (size_ofK (by kernel_rfl)) #[.slice X1 m1 e1, .slice Y1 k1 f1, .slice Z1 z1 i1, .slice V1 j1 t1] 0 (by decide) rfl wr
          go_wp2
          go_loopw [30, 102] (fun _ i wr => ∃ ji : Nat, ji ≤ e1 ∧ i = .int .i64 ji ∧ Below w3.heap.size w3 wr ∧ RowsK wr w3.heap.size [(X1, e1), (Y1, f1), (Z1, i1), (V1, t1)] [(X2, e2), (X3, e3), (Y2, f2), (Y3, f3), (Z2, i2), (Z3, i3), (V2, t2), (V3, t3)] [(w4.heap.size, 25, #[.slice X1 m1 e1, .slice X2 m2 e2, .slice X3 m3 e3]), (w5.heap.size, 25, #[.slice Y1 k1 f1, .slice Y2 k2 f2, .slice Y3 k3 f3]), (w6.heap.size, 52, #[.slice Z1 z1 i1, .slice Z2 z2 i2, .slice Z3 z3 i3]), (w7.heap.size, 52, #[.slice V1 j1 t1, .slice V2 j2 t2, .slice V3 j3 t3])]) (fun _ i _ => e1 - (intOf i).toNat)
          case atStart => exact ⟨0, Nat.zero_le _, rfl, hb, RK⟩
          case round =>
            obtain ⟨ji, hj2, rfl, hb, RK⟩ := hrel
            have Fk := RK.u (X1, e1) (by simp)
            have hcap := Fk.cap
            dsimp only at Fk hcap
            by_cases hlt : ji < e1
            · obtain ⟨g, v, hB, hg, hcell, hfr⟩ := Fk.cell hlt (by decide)
              subst hB
              have HWf : Hid ((Lit.int .u64 (IntKind.u64.wrap (v + 1))).wf = true) := wf_wrap _ _
              have hj3 : ji + 1 ≤ e1 := hlt
              have hbz := hb.setCell (p := ⟨g, ji, none⟩) hg (.int .u64 (IntKind.u64.wrap (v + 1)))
              have HRz := Lib.hid (RK.putU (g := g) (j := ji) (c := e1) (by simp) hlt HWf.out)
              clear RK Fk HCw
              go_wp2
              go_roundw
              case rel => exact ⟨ji + 1, hj3, by go_num, hbz, HRz.out⟩
              case measure => simp [intOf]; omega
            · have g0 : decide (ji < e1) = false := decide_eq_false hlt
              go_wp2
              go_roundw
              case rel => exact ⟨1, by omega, by go_num, hb, RK⟩
              case measure => simp [intOf]; try omega
        · clear hj
          have hX : (Instr.index 69 (.agg #[.slice X1 m1 e1, .slice Y1 k1 f1, .slice Z1 z1 i1, .slice V1 j1 t1]) (.int .i64 1)).run Try.prog wr = .ok (.slice Y1 k1 f1) wr := idxK 4 69 22 43 Try.underlying69 Try.underlying22 (size_ofK (by kernel_rfl)) #[.slice X1 m1 e1, .slice Y1 k1 f1, .slice Z1 z1 i1, .slice V1 j1 t1] 1 (by decide) rfl wr
          go_wp2
          go_loopw [30, 102] (fun _ i wr => ∃ ji : Nat, ji ≤ f1 ∧ i = .int .i64 ji ∧ Below w3.heap.size w3 wr ∧ RowsK wr w3.heap.size [(X1, e1), (Y1, f1), (Z1, i1), (V1, t1)] [(X2, e2), (X3, e3), (Y2, f2), (Y3, f3), (Z2, i2), (Z3, i3), (V2, t2), (V3, t3)] [(w4.heap.size, 25, #[.slice X1 m1 e1, .slice X2 m2 e2, .slice X3 m3 e3]), (w5.heap.size, 25, #[.slice Y1 k1 f1, .slice Y2 k2 f2, .slice Y3 k3 f3]), (w6.heap.size, 52, #[.slice Z1 z1 i1, .slice Z2 z2 i2, .slice Z3 z3 i3]), (w7.heap.size, 52, #[.slice V1 j1 t1, .slice V2 j2 t2, .slice V3 j3 t3])]) (fun _ i _ => f1 - (intOf i).toNat)
          case atStart => exact ⟨0, Nat.zero_le _, rfl, hb, RK⟩
          case round =>
            obtain ⟨ji, hj2, rfl, hb, RK⟩ := hrel
            have Fk := RK.u (Y1, f1) (by simp)
            have hcap := Fk.cap
            dsimp only at Fk hcap
            by_cases hlt : ji < f1
            · obtain ⟨g, v, hB, hg, hcell, hfr⟩ := Fk.cell hlt (by decide)
              subst hB
              have HWf : Hid ((Lit.int .u64 (IntKind.u64.wrap (v + 1))).wf = true) := wf_wrap _ _
              have hj3 : ji + 1 ≤ f1 := hlt
              have hbz := hb.setCell (p := ⟨g, ji, none⟩) hg (.int .u64 (IntKind.u64.wrap (v + 1)))
              have HRz := Lib.hid (RK.putU (g := g) (j := ji) (c := f1) (by simp) hlt HWf.out)
              clear RK Fk HCw
              go_wp2
              go_roundw
              case rel => exact ⟨ji + 1, hj3, by go_num, hbz, HRz.out⟩
              case measure => simp [intOf]; omega
            · have g0 : decide (ji < f1) = false := decide_eq_false hlt
              go_wp2
              go_roundw
              case rel => exact ⟨2, by omega, by go_num, hb, RK⟩
              case measure => simp [intOf]; try omega
        · clear hj
          have hX : (Instr.index 69 (.agg #[.slice X1 m1 e1, .slice Y1 k1 f1, .slice Z1 z1 i1, .slice V1 j1 t1]) (.int .i64 2)).run Try.prog wr = .ok (.slice Z1 z1 i1) wr := idxK 4 69 22 43 Try.underlying69 Try.underlying22 (size_ofK (by kernel_rfl)) #[.slice X1 m1 e1, .slice Y1 k1 f1, .slice Z1 z1 i1, .slice V1 j1 t1] 2 (by decide) rfl wr
          go_wp2
          go_loopw [30, 102] (fun _ i wr => ∃ ji : Nat, ji ≤ i1 ∧ i = .int .i64 ji ∧ Below w3.heap.size w3 wr ∧ RowsK wr w3.heap.size [(X1, e1), (Y1, f1), (Z1, i1), (V1, t1)] [(X2, e2), (X3, e3), (Y2, f2), (Y3, f3), (Z2, i2), (Z3, i3), (V2, t2), (V3, t3)] [(w4.heap.size, 25, #[.slice X1 m1 e1, .slice X2 m2 e2, .slice X3 m3 e3]), (w5.heap.size, 25, #[.slice Y1 k1 f1, .slice Y2 k2 f2, .slice Y3 k3 f3]), (w6.heap.size, 52, #[.slice Z1 z1 i1, .slice Z2 z2 i2, .slice Z3 z3 i3]), (w7.heap.size, 52, #[.slice V1 j1 t1, .slice V2 j2 t2, .slice V3 j3 t3])]) (fun _ i _ => i1 - (intOf i).toNat)
          case atStart => exact ⟨0, Nat.zero_le _, rfl, hb, RK⟩
          case round =>
            obtain ⟨ji, hj2, rfl, hb, RK⟩ := hrel
            have Fk := RK.u (Z1, i1) (by simp)
            have hcap := Fk.cap
            dsimp only at Fk hcap
            by_cases hlt : ji < i1
            · obtain ⟨g, v, hB, hg, hcell, hfr⟩ := Fk.cell hlt (by decide)
              subst hB
              have HWf : Hid ((Lit.int .u64 (IntKind.u64.wrap (v + 1))).wf = true) := wf_wrap _ _
              have hj3 : ji + 1 ≤ i1 := hlt
              have hbz := hb.setCell (p := ⟨g, ji, none⟩) hg (.int .u64 (IntKind.u64.wrap (v + 1)))
              have HRz := Lib.hid (RK.putU (g := g) (j := ji) (c := i1) (by simp) hlt HWf.out)
              clear RK Fk HCw
              go_wp2
              go_roundw
              case rel => exact ⟨ji + 1, hj3, by go_num, hbz, HRz.out⟩
              case measure => simp [intOf]; omega
            · have g0 : decide (ji < i1) = false := decide_eq_false hlt
              go_wp2
              go_roundw
              case rel => exact ⟨3, by omega, by go_num, hb, RK⟩
              case measure => simp [intOf]; try omega
        · clear hj
          have hX : (Instr.index 69 (.agg #[.slice X1 m1 e1, .slice Y1 k1 f1, .slice Z1 z1 i1, .slice V1 j1 t1]) (.int .i64 3)).run Try.prog wr = .ok (.slice V1 j1 t1) wr := idxK 4 69 22 43 Try.underlying69 Try.underlying22 (size_ofK (by kernel_rfl)) #[.slice X1 m1 e1, .slice Y1 k1 f1, .slice Z1 z1 i1, .slice V1 j1 t1] 3 (by decide) rfl wr
          go_wp2
          go_loopw [30, 102] (fun _ i wr => ∃ ji : Nat, ji ≤ t1 ∧ i = .int .i64 ji ∧ Below w3.heap.size w3 wr ∧ RowsK wr w3.heap.size [(X1, e1), (Y1, f1), (Z1, i1), (V1, t1)] [(X2, e2), (X3, e3), (Y2, f2), (Y3, f3), (Z2, i2), (Z3, i3), (V2, t2), (V3, t3)] [(w4.heap.size, 25, #[.slice X1 m1 e1, .slice X2 m2 e2, .slice X3 m3 e3]), (w5.heap.size, 25, #[.slice Y1 k1 f1, .slice Y2 k2 f2, .slice Y3 k3 f3]), (w6.heap.size, 52, #[.slice Z1 z1 i1, .slice Z2 z2 i2, .slice Z3 z3 i3]), (w7.heap.size, 52, #[.slice V1 j1 t1, .slice V2 j2 t2, .slice V3 j3 t3])]) (fun _ i _ => t1 - (intOf i).toNat)
          case atStart => exact ⟨0, Nat.zero_le _, rfl, hb, RK⟩
          case round =>
            obtain ⟨ji, hj2, rfl, hb, RK⟩ := hrel
            have Fk := RK.u (V1, t1) (by simp)
            have hcap := Fk.cap
            dsimp only at Fk hcap
            by_cases hlt : ji < t1
            · obtain ⟨g, v, hB, hg, hcell, hfr⟩ := Fk.cell hlt (by decide)
              subst hB
              have HWf : Hid ((Lit.int .u64 (IntKind.u64.wrap (v + 1))).wf = true) := wf_wrap _ _
              have hj3 : ji + 1 ≤ t1 := hlt
              have hbz := hb.setCell (p := ⟨g, ji, none⟩) hg (.int .u64 (IntKind.u64.wrap (v + 1)))
              have HRz := Lib.hid (RK.putU (g := g) (j := ji) (c := t1) (by simp) hlt HWf.out)
              clear RK Fk HCw
              go_wp2
              go_roundw
              case rel => exact ⟨ji + 1, hj3, by go_num, hbz, HRz.out⟩
              case measure => simp [intOf]; omega
            · have g0 : decide (ji < t1) = false := decide_eq_false hlt
              go_wp2
              go_roundw
              case rel => exact ⟨4, by omega, by go_num, hb, RK⟩
              case measure => simp [intOf]; try omega
        · clear hj
          have DX := (RK.b (w4.heap.size, 25, #[.slice X1 m1 e1, .slice X2 m2 e2, .slice X3 m3 e3]) (by simp)).1
          dsimp only at DX
          obtain ⟨qx0, qx1, qx2⟩ := DX.three
          have DW := (RK.b (w5.heap.size, 25, #[.slice Y1 k1 f1, .slice Y2 k2 f2, .slice Y3 k3 f3]) (by simp)).1
          dsimp only at DW
          obtain ⟨qy0, qy1, qy2⟩ := DW.three
          have DZ := (RK.b (w6.heap.size, 52, #[.slice Z1 z1 i1, .slice Z2 z2 i2, .slice Z3 z3 i3]) (by simp)).1
          dsimp only at DZ
          obtain ⟨qz0, qz1, qz2⟩ := DZ.three
          have DV := (RK.b (w7.heap.size, 52, #[.slice V1 j1 t1, .slice V2 j2 t2, .slice V3 j3 t3]) (by simp)).1
          dsimp only at DV
          obtain ⟨qv0, qv1, qv2⟩ := DV.three
          clear DX DW DZ DV
          go_wp2_with fail
          go_loopw [32, 33, 130] (fun _ _ i wr => ∃ j : Nat, j ≤ 8 ∧ i = .int .i64 j ∧ Below w3.heap.size w3 wr ∧ RowsK wr w3.heap.size [(X1, e1), (Y1, f1), (Z1, i1), (V1, t1)] [(X2, e2), (X3, e3), (Y2, f2), (Y3, f3), (Z2, i2), (Z3, i3), (V2, t2), (V3, t3)] [(w4.heap.size, 25, #[.slice X1 m1 e1, .slice X2 m2 e2, .slice X3 m3 e3]), (w5.heap.size, 25, #[.slice Y1 k1 f1, .slice Y2 k2 f2, .slice Y3 k3 f3]), (w6.heap.size, 52, #[.slice Z1 z1 i1, .slice Z2 z2 i2, .slice Z3 z3 i3]), (w7.heap.size, 52, #[.slice V1 j1 t1, .slice V2 j2 t2, .slice V3 j3 t3])]) (fun _ _ i _ => 8 - (intOf i).toNat)
          case atStart => exact ⟨0, by omega, rfl, hb, RK⟩
          case round =>
            obtain ⟨j, hj, rfl, hb, RK⟩ := hrel
            have hjc : j = 0 ∨ j = 1 ∨ j = 2 ∨ j = 3 ∨ j = 4 ∨ j = 5 ∨ j = 6 ∨ j = 7 ∨ j = 8 := by omega
            rcases hjc with rfl | rfl | rfl | rfl | rfl | rfl | rfl | rfl | rfl
            · clear hj
              have hX : (Instr.index 70 (.agg #[.slice X2 m2 e2, .slice X3 m3 e3, .slice Y2 k2 f2, .slice Y3 k3 f3, .slice Z2 z2 i2, .slice Z3 z3 i3, .slice V2 j2 t2, .slice V3 j3 t3]) (.int .i64 0)).run Try.prog wr = .ok (.slice X2 m2 e2) wr := idxK 8 70 23 3 Try.underlying70 Try.underlying23 (size_ofK (by kernel_rfl)) #[.slice X2 m2 e2, .slice X3 m3 e3, .slice Y2 k2 f2, .slice Y3 k3 f3, .slice Z2 z2 i2, .slice Z3 z3 i3, .slice V2 j2 t2, .slice V3 j3 t3] 0 (by decide) rfl wr
              go_wp2
              go_loopw [33, 139] (fun _ i wr => ∃ ji : Nat, ji ≤ e2 ∧ i = .int .i64 ji ∧ Below w3.heap.size w3 wr ∧ RowsK wr w3.heap.size [(X1, e1), (Y1, f1), (Z1, i1), (V1, t1)] [(X2, e2), (X3, e3), (Y2, f2), (Y3, f3), (Z2, i2), (Z3, i3), (V2, t2), (V3, t3)] [(w4.heap.size, 25, #[.slice X1 m1 e1, .slice X2 m2 e2, .slice X3 m3 e3]), (w5.heap.size, 25, #[.slice Y1 k1 f1, .slice Y2 k2 f2, .slice Y3 k3 f3]), (w6.heap.size, 52, #[.slice Z1 z1 i1, .slice Z2 z2 i2, .slice Z3 z3 i3]), (w7.heap.size, 52, #[.slice V1 j1 t1, .slice V2 j2 t2, .slice V3 j3 t3])]) (fun _ i _ => e2 - (intOf i).toNat)
              case atStart => exact ⟨0, Nat.zero_le _, rfl, hb, RK⟩
              case round =>
                obtain ⟨ji, hj2, rfl, hb, RK⟩ := hrel
                have Fk := RK.i (X2, e2) (by simp)
                have hcap := Fk.cap
                dsimp only at Fk hcap
                by_cases hlt : ji < e2
                · obtain ⟨g, v, hB, hg, hcell, hfr⟩ := Fk.cell hlt (by decide)
                  subst hB
                  have HWf : Hid ((Lit.int .i64 (wrap64 (v + 1))).wf = true) := wrap64_wf _
                  have hj3 : ji + 1 ≤ e2 := hlt
                  have hbz := hb.setCell (p := ⟨g, ji, none⟩) hg (.int .i64 (wrap64 (v + 1)))
                  have HRz := Lib.hid (RK.putI (g := g) (j := ji) (c := e2) (by simp) hlt HWf.out)
                  clear RK Fk HCw
                  go_wp2
                  go_roundw
                  case rel => exact ⟨ji + 1, hj3, by go_num, hbz, HRz.out⟩
                  case measure => simp [intOf]; omega
                · have g0 : decide (ji < e2) = false := decide_eq_false hlt
                  go_wp2
                  go_roundw
                  case rel => exact ⟨1, by omega, by go_num, hb, RK⟩
                  case measure => simp [intOf]; try omega
            · clear hj
              have hX : (Instr.index 70 (.agg #[.slice X2 m2 e2, .slice X3 m3 e3, .slice Y2 k2 f2, .slice Y3 k3 f3, .slice Z2 z2 i2, .slice Z3 z3 i3, .slice V2 j2 t2, .slice V3 j3 t3]) (.int .i64 1)).run Try.prog wr = .ok (.slice X3 m3 e3) wr := idxK 8 70 23 3 Try.underlying70 Try.underlying23 (size_ofK (by kernel_rfl)) #[.slice X2 m2 e2, .slice X3 m3 e3, .slice Y2 k2 f2, .slice Y3 k3 f3, .slice Z2 z2 i2, .slice Z3 z3 i3, .slice V2 j2 t2, .slice V3 j3 t3] 1 (by decide) rfl wr
              go_wp2
              go_loopw [33, 139] (fun _ i wr => ∃ ji : Nat, ji ≤ e3 ∧ i = .int .i64 ji ∧ Below w3.heap.size w3 wr ∧ RowsK wr w3.heap.size [(X1, e1), (Y1, f1), (Z1, i1), (V1, t1)] [(X2, e2), (X3, e3), (Y2, f2), (Y3, f3), (Z2, i2), (Z3, i3), (V2, t2), (V3, t3)] [(w4.heap.size, 25, #[.slice X1 m1 e1, .slice X2 m2 e2, .slice X3 m3 e3]), (w5.heap.size, 25, #[.slice Y1 k1 f1, .slice Y2 k2 f2, .slice Y3 k3 f3]), (w6.heap.size, 52, #[.slice Z1 z1 i1, .slice Z2 z2 i2, .slice Z3 z3 i3]), (w7.heap.size, 52, #[.slice V1 j1 t1, .slice V2 j2 t2, .slice V3 j3 t3])]) (fun _ i _ => e3 - (intOf i).toNat)
              case atStart => exact ⟨0, Nat.zero_le _, rfl, hb, RK⟩
              case round =>
                obtain ⟨ji, hj2, rfl, hb, RK⟩ := hrel
                have Fk := RK.i (X3, e3) (by simp)
                have hcap := Fk.cap
                dsimp only at Fk hcap
                by_cases hlt : ji < e3
                · obtain ⟨g, v, hB, hg, hcell, hfr⟩ := Fk.cell hlt (by decide)
                  subst hB
                  have HWf : Hid ((Lit.int .i64 (wrap64 (v + 1))).wf = true) := wrap64_wf _
                  have hj3 : ji + 1 ≤ e3 := hlt
                  have hbz := hb.setCell (p := ⟨g, ji, none⟩) hg (.int .i64 (wrap64 (v + 1)))
                  have HRz := Lib.hid (RK.putI (g := g) (j := ji) (c := e3) (by simp) hlt HWf.out)
                  clear RK Fk HCw
                  go_wp2
                  go_roundw
                  case rel => exact ⟨ji + 1, hj3, by go_num, hbz, HRz.out⟩
                  case measure => simp [intOf]; omega
                · have g0 : decide (ji < e3) = false := decide_eq_false hlt
                  go_wp2
                  go_roundw
                  case rel => exact ⟨2, by omega, by go_num, hb, RK⟩
                  case measure => simp [intOf]; try omega
            · clear hj
              have hX : (Instr.index 70 (.agg #[.slice X2 m2 e2, .slice X3 m3 e3, .slice Y2 k2 f2, .slice Y3 k3 f3, .slice Z2 z2 i2, .slice Z3 z3 i3, .slice V2 j2 t2, .slice V3 j3 t3]) (.int .i64 2)).run Try.prog wr = .ok (.slice Y2 k2 f2) wr := idxK 8 70 23 3 Try.underlying70 Try.underlying23 (size_ofK (by kernel_rfl)) #[.slice X2 m2 e2, .slice X3 m3 e3, .slice Y2 k2 f2, .slice Y3 k3 f3, .slice Z2 z2 i2, .slice Z3 z3 i3, .slice V2 j2 t2, .slice V3 j3 t3] 2 (by decide) rfl wr
              go_wp2
              go_loopw [33, 139] (fun _ i wr => ∃ ji : Nat, ji ≤ f2 ∧ i = .int .i64 ji ∧ Below w3.heap.size w3 wr ∧ RowsK wr w3.heap.size [(X1, e1), (Y1, f1), (Z1, i1), (V1, t1)] [(X2, e2), (X3, e3), (Y2, f2), (Y3, f3), (Z2, i2), (Z3, i3), (V2, t2), (V3, t3)] [(w4.heap.size, 25, #[.slice X1 m1 e1, .slice X2 m2 e2, .slice X3 m3 e3]), (w5.heap.size, 25, #[.slice Y1 k1 f1, .slice Y2 k2 f2, .slice Y3 k3 f3]), (w6.heap.size, 52, #[.slice Z1 z1 i1, .slice Z2 z2 i2, .slice Z3 z3 i3]), (w7.heap.size, 52, #[.slice V1 j1 t1, .slice V2 j2 t2, .slice V3 j3 t3])]) (fun _ i _ => f2 - (intOf i).toNat)
              case atStart => exact ⟨0, Nat.zero_le _, rfl, hb, RK⟩
              case round =>
                obtain ⟨ji, hj2, rfl, hb, RK⟩ := hrel
                have Fk := RK.i (Y2, f2) (by simp)
                have hcap := Fk.cap
                dsimp only at Fk hcap
                by_cases hlt : ji < f2
                · obtain ⟨g, v, hB, hg, hcell, hfr⟩ := Fk.cell hlt (by decide)
                  subst hB
                  have HWf : Hid ((Lit.int .i64 (wrap64 (v + 1))).wf = true) := wrap64_wf _
                  have hj3 : ji + 1 ≤ f2 := hlt
                  have hbz := hb.setCell (p := ⟨g, ji, none⟩) hg (.int .i64 (wrap64 (v + 1)))
                  have HRz := Lib.hid (RK.putI (g := g) (j := ji) (c := f2) (by simp) hlt HWf.out)
                  clear RK Fk HCw
                  go_wp2
                  go_roundw
                  case rel => exact ⟨ji + 1, hj3, by go_num, hbz, HRz.out⟩
                  case measure => simp [intOf]; omega
                · have g0 : decide (ji < f2) = false := decide_eq_false hlt
                  go_wp2
                  go_roundw
                  case rel => exact ⟨3, by omega, by go_num, hb, RK⟩
                  case measure => simp [intOf]; try omega
            · clear hj
              have hX : (Instr.index 70 (.agg #[.slice X2 m2 e2, .slice X3 m3 e3, .slice Y2 k2 f2, .slice Y3 k3 f3, .slice Z2 z2 i2, .slice Z3 z3 i3, .slice V2 j2 t2, .slice V3 j3 t3]) (.int .i64 3)).run Try.prog wr = .ok (.slice Y3 k3 f3) wr := idxK 8 70 23 3 Try.underlying70 Try.underlying23 (size_ofK (by kernel_rfl)) #[.slice X2 m2 e2, .slice X3 m3 e3, .slice Y2 k2 f2, .slice Y3 k3 f3, .slice Z2 z2 i2, .slice Z3 z3 i3, .slice V2 j2 t2, .slice V3 j3 t3] 3 (by decide) rfl wr
              go_wp2
              go_loopw [33, 139] (fun _ i wr => ∃ ji : Nat, ji ≤ f3 ∧ i = .int .i64 ji ∧ Below w3.heap.size w3 wr ∧ RowsK wr w3.heap.size [(X1, e1), (Y1, f1), (Z1, i1), (V1, t1)] [(X2, e2), (X3, e3), (Y2, f2), (Y3, f3), (Z2, i2), (Z3, i3), (V2, t2), (V3, t3)] [(w4.heap.size, 25, #[.slice X1 m1 e1, .slice X2 m2 e2, .slice X3 m3 e3]), (w5.heap.size, 25, #[.slice Y1 k1 f1, .slice Y2 k2 f2, .slice Y3 k3 f3]), (w6.heap.size, 52, #[.slice Z1 z1 i1, .slice Z2 z2 i2, .slice Z3 z3 i3]), (w7.heap.size, 52, #[.slice V1 j1 t1, .slice V2 j2 t2, .slice V3 j3 t3])]) (fun _ i _ => f3 - (intOf i).toNat)
              case atStart => exact ⟨0, Nat.zero_le _, rfl, hb, RK⟩
              case round =>
                obtain ⟨ji, hj2, rfl, hb, RK⟩ := hrel
                have Fk := RK.i (Y3, f3) (by simp)
                have hcap := Fk.cap
                dsimp only at Fk hcap
                by_cases hlt : ji < f3
                · obtain ⟨g, v, hB, hg, hcell, hfr⟩ := Fk.cell hlt (by decide)
                  subst hB
                  have HWf : Hid ((Lit.int .i64 (wrap64 (v + 1))).wf = true) := wrap64_wf _
                  have hj3 : ji + 1 ≤ f3 := hlt
                  have hbz := hb.setCell (p := ⟨g, ji, none⟩) hg (.int .i64 (wrap64 (v + 1)))
                  have HRz := Lib.hid (RK.putI (g := g) (j := ji) (c := f3) (by simp) hlt HWf.out)
                  clear RK Fk HCw
                  go_wp2
                  go_roundw
                  case rel => exact ⟨ji + 1, hj3, by go_num, hbz, HRz.out⟩
                  case measure => simp [intOf]; omega
                · have g0 : decide (ji < f3) = false := decide_eq_false hlt
                  go_wp2
                  go_roundw
                  case rel => exact ⟨4, by omega, by go_num, hb, RK⟩
                  case measure => simp [intOf]; try omega
            · clear hj
              have hX : (Instr.index 70 (.agg #[.slice X2 m2 e2, .slice X3 m3 e3, .slice Y2 k2 f2, .slice Y3 k3 f3, .slice Z2 z2 i2, .slice Z3 z3 i3, .slice V2 j2 t2, .slice V3 j3 t3]) (.int .i64 4)).run Try.prog wr = .ok (.slice Z2 z2 i2) wr := idxK 8 70 23 3 Try.underlying70 Try.underlying23 (size_ofK (by kernel_rfl)) #[.slice X2 m2 e2, .slice X3 m3 e3, .slice Y2 k2 f2, .slice Y3 k3 f3, .slice Z2 z2 i2, .slice Z3 z3 i3, .slice V2 j2 t2, .slice V3 j3 t3] 4 (by decide) rfl wr
              go_wp2
              go_loopw [33, 139] (fun _ i wr => ∃ ji : Nat, ji ≤ i2 ∧ i = .int .i64 ji ∧ Below w3.heap.size w3 wr ∧ RowsK wr w3.heap.size [(X1, e1), (Y1, f1), (Z1, i1), (V1, t1)] [(X2, e2), (X3, e3), (Y2, f2), (Y3, f3), (Z2, i2), (Z3, i3), (V2, t2), (V3, t3)] [(w4.heap.size, 25, #[.slice X1 m1 e1, .slice X2 m2 e2, .slice X3 m3 e3]), (w5.heap.size, 25, #[.slice Y1 k1 f1, .slice Y2 k2 f2, .slice Y3 k3 f3]), (w6.heap.size, 52, #[.slice Z1 z1 i1, .slice Z2 z2 i2, .slice Z3 z3 i3]), (w7.heap.size, 52, #[.slice V1 j1 t1, .slice V2 j2 t2, .slice V3 j3 t3])]) (fun _ i _ => i2 - (intOf i).toNat)
              case atStart => exact ⟨0, Nat.zero_le _, rfl, hb, RK⟩
              case round =>
                obtain ⟨ji, hj2, rfl, hb, RK⟩ := hrel
                have Fk := RK.i (Z2, i2) (by simp)
                have hcap := Fk.cap
                dsimp only at Fk hcap
                by_cases hlt : ji < i2
                · obtain ⟨g, v, hB, hg, hcell, hfr⟩ := Fk.cell hlt (by decide)
                  subst hB
                  have HWf : Hid ((Lit.int .i64 (wrap64 (v + 1))).wf = true) := wrap64_wf _
                  have hj3 : ji + 1 ≤ i2 := hlt
                  have hbz := hb.setCell (p := ⟨g, ji, none⟩) hg (.int .i64 (wrap64 (v + 1)))
                  have HRz := Lib.hid (RK.putI (g := g) (j := ji) (c := i2) (by simp) hlt HWf.out)
                  clear RK Fk HCw
                  go_wp2
                  go_roundw
                  case rel => exact ⟨ji + 1, hj3, by go_num, hbz, HRz.out⟩
                  case measure => simp [intOf]; omega
                · have g0 : decide (ji < i2) = false := decide_eq_false hlt
                  go_wp2
                  go_roundw
                  case rel => exact ⟨5, by omega, by go_num, hb, RK⟩
                  case measure => simp [intOf]; try omega
            · clear hj
              have hX : (Instr.index 70 (.agg #[.slice X2 m2 e2, .slice X3 m3 e3, .slice Y2 k2 f2, .slice Y3 k3 f3, .slice Z2 z2 i2, .slice Z3 z3 i3, .slice V2 j2 t2, .slice V3 j3 t3]) (.int .i64 5)).run Try.prog wr = .ok (.slice Z3 z3 i3) wr := idxK 8 70 23 3 Try.underlying70 Try.underlying23 (size_ofK (by kernel_rfl)) #[.slice X2 m2 e2, .slice X3 m3 e3, .slice Y2 k2 f2, .slice Y3 k3 f3, .slice Z2 z2 i2, .slice Z3 z3 i3, .slice V2 j2 t2, .slice V3 j3 t3] 5 (by decide) rfl wr
              go_wp2
              go_loopw [33, 139] (fun _ i wr => ∃ ji : Nat, ji ≤ i3 ∧ i = .int .i64 ji ∧ Below w3.heap.size w3 wr ∧ RowsK wr w3.heap.size [(X1, e1), (Y1, f1), (Z1, i1), (V1, t1)] [(X2, e2), (X3, e3), (Y2, f2), (Y3, f3), (Z2, i2), (Z3, i3), (V2, t2), (V3, t3)] [(w4.heap.size, 25, #[.slice X1 m1 e1, .slice X2 m2 e2, .slice X3 m3 e3]), (w5.heap.size, 25, #[.slice Y1 k1 f1, .slice Y2 k2 f2, .slice Y3 k3 f3]), (w6.heap.size, 52, #[.slice Z1 z1 i1, .slice Z2 z2 i2, .slice Z3 z3 i3]), (w7.heap.size, 52, #[.slice V1 j1 t1, .slice V2 j2 t2, .slice V3 j3 t3])]) (fun _ i _ => i3 - (intOf i).toNat)
              case atStart => exact ⟨0, Nat.zero_le _, rfl, hb, RK⟩
              case round =>
                obtain ⟨ji, hj2, rfl, hb, RK⟩ := hrel
                have Fk := RK.i (Z3, i3) (by simp)
                have hcap := Fk.cap
                dsimp only at Fk hcap
                by_cases hlt : ji < i3
                · obtain ⟨g, v, hB, hg, hcell, hfr⟩ := Fk.cell hlt (by decide)
                  subst hB
                  have HWf : Hid ((Lit.int .i64 (wrap64 (v + 1))).wf = true) := wrap64_wf _
                  have hj3 : ji + 1 ≤ i3 := hlt
                  have hbz := hb.setCell (p := ⟨g, ji, none⟩) hg (.int .i64 (wrap64 (v + 1)))
                  have HRz := Lib.hid (RK.putI (g := g) (j := ji) (c := i3) (by simp) hlt HWf.out)
                  clear RK Fk HCw
                  go_wp2
                  go_roundw
                  case rel => exact ⟨ji + 1, hj3, by go_num, hbz, HRz.out⟩
                  case measure => simp [intOf]; omega
                · have g0 : decide (ji < i3) = false := decide_eq_false hlt
                  go_wp2
                  go_roundw
                  case rel => exact ⟨6, by omega, by go_num, hb, RK⟩
                  case measure => simp [intOf]; try omega
            · clear hj
              have hX : (Instr.index 70 (.agg #[.slice X2 m2 e2, .slice X3 m3 e3, .slice Y2 k2 f2, .slice Y3 k3 f3, .slice Z2 z2 i2, .slice Z3 z3 i3, .slice V2 j2 t2, .slice V3 j3 t3]) (.int .i64 6)).run Try.prog wr = .ok (.slice V2 j2 t2) wr := idxK 8 70 23 3 Try.underlying70 Try.underlying23 (size_ofK (by kernel_rfl)) #[.slice X2 m2 e2, .slice X3 m3 e3, .slice Y2 k2 f2, .slice Y3 k3 f3, .slice Z2 z2 i2, .slice Z3 z3 i3, .slice V2 j2 t2, .slice V3 j3 t3] 6 (by decide) rfl wr
              go_wp2
              go_loopw [33, 139] (fun _ i wr => ∃ ji : Nat, ji ≤ t2 ∧ i = .int .i64 ji ∧ Below w3.heap.size w3 wr ∧ RowsK wr w3.heap.size [(X1, e1), (Y1, f1), (Z1, i1), (V1, t1)] [(X2, e2), (X3, e3), (Y2, f2), (Y3, f3), (Z2, i2), (Z3, i3), (V2, t2), (V3, t3)] [(w4.heap.size, 25, #[.slice X1 m1 e1, .slice X2 m2 e2, .slice X3 m3 e3]), (w5.heap.size, 25, #[.slice Y1 k1 f1, .slice Y2 k2 f2, .slice Y3 k3 f3]), (w6.heap.size, 52, #[.slice Z1 z1 i1, .slice Z2 z2 i2, .slice Z3 z3 i3]), (w7.heap.size, 52, #[.slice V1 j1 t1, .slice V2 j2 t2, .slice V3 j3 t3])]) (fun _ i _ => t2 - (intOf i).toNat)
              case atStart => exact ⟨0, Nat.zero_le _, rfl, hb, RK⟩
              case round =>
                obtain ⟨ji, hj2, rfl, hb, RK⟩ := hrel
                have Fk := RK.i (V2, t2) (by simp)
                have hcap := Fk.cap
                dsimp only at Fk hcap
                by_cases hlt : ji < t2
                · obtain ⟨g, v, hB, hg, hcell, hfr⟩ := Fk.cell hlt (by decide)
                  subst hB
                  have HWf : Hid ((Lit.int .i64 (wrap64 (v + 1))).wf = true) := wrap64_wf _
                  have hj3 : ji + 1 ≤ t2 := hlt
                  have hbz := hb.setCell (p := ⟨g, ji, none⟩) hg (.int .i64 (wrap64 (v + 1)))
                  have HRz := Lib.hid (RK.putI (g := g) (j := ji) (c := t2) (by simp) hlt HWf.out)
                  clear RK Fk HCw
                  go_wp2
                  go_roundw
                  case rel => exact ⟨ji + 1, hj3, by go_num, hbz, HRz.out⟩
                  case measure => simp [intOf]; omega
                · have g0 : decide (ji < t2) = false := decide_eq_false hlt
                  go_wp2
                  go_roundw
                  case rel => exact ⟨7, by omega, by go_num, hb, RK⟩
                  case measure => simp [intOf]; try omega
            · clear hj
              have hX : (Instr.index 70 (.agg #[.slice X2 m2 e2, .slice X3 m3 e3, .slice Y2 k2 f2, .slice Y3 k3 f3, .slice Z2 z2 i2, .slice Z3 z3 i3, .slice V2 j2 t2, .slice V3 j3 t3]) (.int .i64 7)).run Try.prog wr = .ok (.slice V3 j3 t3) wr := idxK 8 70 23 3 Try.underlying70 Try.underlying23 (size_ofK (by kernel_rfl)) #[.slice X2 m2 e2, .slice X3 m3 e3, .slice Y2 k2 f2, .slice Y3 k3 f3, .slice Z2 z2 i2, .slice Z3 z3 i3, .slice V2 j2 t2, .slice V3 j3 t3] 7 (by decide) rfl wr
              go_wp2
              go_loopw [33, 139] (fun _ i wr => ∃ ji : Nat, ji ≤ t3 ∧ i = .int .i64 ji ∧ Below w3.heap.size w3 wr ∧ RowsK wr w3.heap.size [(X1, e1), (Y1, f1), (Z1, i1), (V1, t1)] [(X2, e2), (X3, e3), (Y2, f2), (Y3, f3), (Z2, i2), (Z3, i3), (V2, t2), (V3, t3)] [(w4.heap.size, 25, #[.slice X1 m1 e1, .slice X2 m2 e2, .slice X3 m3 e3]), (w5.heap.size, 25, #[.slice Y1 k1 f1, .slice Y2 k2 f2, .slice Y3 k3 f3]), (w6.heap.size, 52, #[.slice Z1 z1 i1, .slice Z2 z2 i2, .slice Z3 z3 i3]), (w7.heap.size, 52, #[.slice V1 j1 t1, .slice V2 j2 t2, .slice V3 j3 t3])]) (fun _ i _ => t3 - (intOf i).toNat)
              case atStart => exact ⟨0, Nat.zero_le _, rfl, hb, RK⟩
              case round =>
                obtain ⟨ji, hj2, rfl, hb, RK⟩ := hrel
                have Fk := RK.i (V3, t3) (by simp)
                have hcap := Fk.cap
                dsimp only at Fk hcap
                by_cases hlt : ji < t3
                · obtain ⟨g, v, hB, hg, hcell, hfr⟩ := Fk.cell hlt (by decide)
                  subst hB
                  have HWf : Hid ((Lit.int .i64 (wrap64 (v + 1))).wf = true) := wrap64_wf _
                  have hj3 : ji + 1 ≤ t3 := hlt
                  have hbz := hb.setCell (p := ⟨g, ji, none⟩) hg (.int .i64 (wrap64 (v + 1)))
                  have HRz := Lib.hid (RK.putI (g := g) (j := ji) (c := t3) (by simp) hlt HWf.out)
                  clear RK Fk HCw
                  go_wp2
                  go_roundw
                  case rel => exact ⟨ji + 1, hj3, by go_num, hbz, HRz.out⟩
                  case measure => simp [intOf]; omega
                · have g0 : decide (ji < t3) = false := decide_eq_false hlt
                  go_wp2
                  go_roundw
                  case rel => exact ⟨8, by omega, by go_num, hb, RK⟩
                  case measure => simp [intOf]; try omega
            · clear hj
              have HE8 := Lib.hid (HCw.out wr hb)
              have hb0r := below_step hb03 hb
              clear RK HCw
              go_wp2_with (refine HE8.out.mono ?_; rintro e w9 ⟨rfl, hb9⟩)
              go_ret
              exact ⟨by first | rfl | simp, below_step hb0r hb9⟩

namespace StepOwn
open Go.ChangeShapes Go.WideShapes Go.ChangeAt Go.RowKit
theorem own : ownKnob Try.prog.godebug = none := by kernel_rfl
theorem laidOut : laidOutB Try.prog = true := by kernel_rfl

set_option maxRecDepth 100000 in
theorem lifted (os : Os) (started : os.Started) (H : Type) (enc : TypeId × Value → H) :
    ReturnsInHanded {} Try.checked os 8 .any (Rows.stepOwnSpec.pre6 enc Try.prog Try.f8 Rows.stepOwnRow.domain false) (Rows.stepOwnSpec.post enc Try.prog Try.f8 false true false false) := by
  refine returnsInHanded_of_change_sized (C := Try.checked) own started (by as_aux_lemma => kernel_rfl) Try.func8
    (ChangeSpec.witness6 (enc := enc) (C := Try.checked) false ⟨#[], #[.agg #[.slice none 0 0, .slice none 0 0, .slice none 0 0], .agg #[.slice none 0 0, .slice none 0 0, .slice none 0 0], .int .i64 0, .int .i64 0, .int .i64 0], []⟩ 8 (by as_aux_lemma => kernel_rfl) (by as_aux_lemma => kernel_rfl) (by as_aux_lemma => kernel_rfl) (by as_aux_lemma => kernel_rfl)) ?_
  intro W base args ds gs before hval0 hW hcnd hsz _
  have hval : ∀ (j : Nat) t v, Try.f8.params[j]? = some t → args[j]? = some v → Value.okWide Try.prog W .any base t v := hval0
  have hW' := hW
  obtain ⟨p, q, hA0, hV, rfl, hfz, hnd⟩ := hW
  have hA : DataW.TrodAll enc Try.prog W 0 (fun _ => true) true Try.f8.params.toList args.toList ds p := hA0
  rw [Try.params8] at hA hval
  obtain ⟨v0, vs0, d0, ds0, p0, q0, hargs, rfl, rfl, h0, hA⟩ := trodAll_cons hA
  obtain ⟨v1, vs1, d1, ds1, p1, q1, rfl, rfl, rfl, h1, hA⟩ := trodAll_cons hA
  obtain ⟨v2, vs2, d2, ds2, p2, q2, rfl, rfl, rfl, h2, hA⟩ := trodAll_cons hA
  obtain ⟨v3, vs3, d3, ds3, p3, q3, rfl, rfl, rfl, h3, hA⟩ := trodAll_cons hA
  obtain ⟨v4, vs4, d4, ds4, p4, q4, rfl, rfl, rfl, h4, hA⟩ := trodAll_cons hA
  obtain ⟨rfl, rfl, rfl⟩ := trodAll_nil hA
  obtain rfl : args = #[v0, v1, v2, v3, v4] := by cases args; simp_all
  obtain ⟨A0, n0, c0, G0, gn0, gc0, K0, kn0, kc0, a0, g0, b0, rfl, hR0, hn0, hg0, hk0⟩ := open_tri8 (hval 0 _ v0 rfl rfl) (fun x hx => hW'.lt x (by simp [hx])) h0 (fun m hm => by simpa using List.all_eq_true.1 hsz _ (DataW.weights_mem_each (j := 0) (t := 25) rfl rfl m hm))
  obtain ⟨A1, n1, c1, G1, gn1, gc1, K1, kn1, kc1, a1, g1, b1, rfl, hR1, hn1, hg1, hk1⟩ := open_ages8 (hval 1 _ v1 rfl rfl) (fun x hx => hW'.lt x (by simp [hx])) h1 (fun m hm => by simpa using List.all_eq_true.1 hsz _ (DataW.weights_mem_each (j := 1) (t := 52) rfl rfl m hm))
  obtain ⟨i2, rfl, rfl, rfl, w2⟩ := open_int Try.underlying3 (hval 2 _ v2 rfl rfl) h2
  obtain ⟨i3, rfl, rfl, rfl, w3⟩ := open_int Try.underlying3 (hval 3 _ v3 rfl rfl) h3
  obtain ⟨i4, rfl, rfl, rfl, w4⟩ := open_int Try.underlying3 (hval 4 _ v4 rfl rfl) h4
  refine (stepOwn_any A0 n0 c0 G0 gn0 gc0 K0 kn0 kc0 a0 g0 b0 A1 n1 c1 G1 gn1 gc1 K1 kn1 kc1 a1 g1 b1 i2 i3 i4 W hR0 hn0 hg0 hk0 hR1 hn1 hg1 hk1 w2 w3 w4).mono fun e W' ⟨he, hb⟩ => ?_
  subst he
  exact ⟨_, rfl, law_post laidOut Try.underlying4 rfl (by as_aux_lemma => kernel_rfl) rfl rfl hW' hb⟩

set_option maxHeartbeats 10000000 in
theorem closed : joinedFacts Try.prog 8 Try.f8 Rows.stepOwnSpec Rows.stepOwnRow = true := by
  unfold joinedFacts
  simp only [Bool.and_eq_true]
  repeat' apply And.intro
  all_goals as_aux_lemma => kernel_rfl

set_option maxHeartbeats 1000000 in
theorem proved : Rows.StepOwnSaid :=
  OpenClaim.holds_of_wide 8 Try.f8 rfl rfl rfl rfl rfl rfl rfl ⟨rfl, rfl, rfl, rfl, rfl⟩ rfl rfl rfl rfl rfl (by as_aux_lemma => kernel_rfl) Try.func8 closed
    (of_decide_eq_true (by as_aux_lemma => kernel_rfl)) (by unfold Func.isWrapper; first | (rw [if_pos (by decide +kernel)]; kernel_rfl) | (rw [if_neg (by decide +kernel)]; exact ⟨rfl, rfl⟩))
    (fun os started H enc _ => lifted os started H enc)
end StepOwn
end Go.Proofs.Ytgkoaambdejkdaa
