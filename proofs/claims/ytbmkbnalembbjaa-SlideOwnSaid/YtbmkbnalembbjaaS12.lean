/-
  Texts joined: SlideOwnW Law LawNums.
-/
import Derived.Deep.CutRange
import Derived.Test.YtbmkbnalembbjaaRows
import Derived.ProofKit
import Derived.SizedLaws
import Derived.Test.YtbmkbnalembbjaaS0
import Derived.Test.YtbmkbnalembbjaaS10
import Derived.Test.YtbmkbnalembbjaaS11
namespace Go.Proofs.Ytbmkbnalembbjaa
open Go.RowKit
set_option maxRecDepth 100000 in
set_option maxHeartbeats 8000000 in
theorem slideOwn_walk (A : Option Addr) (n c : Nat) (a : List Int) (G : Option Addr) (gn gc : Nat) (g : List Int) (K : Option Addr) (kn kc : Nat) (b : List Int) (w : World) (hr : Reads w w.heap.size 1 A n (a.map (.int .u64))) (hnc : n ≤ c) (hc : c ≤ maxLen) (ha : ∀ x ∈ a, (Lit.int .u64 x).wf = true) (h1 : n * 8 ≤ 140737488351232)
    (hr2 : Reads w w.heap.size 1 G gn (g.map (.int .i64))) (h2 : gn * 8 ≤ 140737488351232) (hx2 : ∀ x ∈ g, (Lit.int .i64 x).wf = true) (hr3 : Reads w w.heap.size 1 K kn (b.map (.int .i64))) (h3 : kn * 8 ≤ 140737488351232) (hx3 : ∀ x ∈ b, (Lit.int .i64 x).wf = true) :
    Calls Try.prog 5 #[.slice A n c, .slice G gn gc, .slice K kn kc] w fun e w' => e = .returned (.bool true) ∧ Below w.heap.size w w' := by
  have hb0 := ((below_new w (.cells #[.slice A n c] 23)).alloc (by simp) (.cells #[.slice G gn gc] 24)).alloc (by simp; omega) (.cells #[.slice K kn kc] 24)
  have DA := ((Blk.new w 23 #[.slice A n c]).alloc (.cells #[.slice G gn gc] 24)).alloc (.cells #[.slice K kn kc] 24)
  have DG := (Blk.new (w.alloc (.cells #[.slice A n c] 23)) 24 #[.slice G gn gc]).alloc (.cells #[.slice K kn kc] 24)
  have DK := Blk.new ((w.alloc (.cells #[.slice A n c] 23)).alloc (.cells #[.slice G gn gc] 24)) 24 #[.slice K kn kc]
  simp only [World.size_alloc] at DG DK
  have C1 := Lib.hid (fun W (h : Below w.heap.size w W) => clone_u64 A n c _ (a.map (.int .u64)) W (hr.below h) h.size (by intro u hu; obtain ⟨x, -, rfl⟩ := List.mem_map.1 hu; rfl) (by omega))
  have C2 := Lib.hid (fun W (h : Below w.heap.size w W) => clone_int G gn gc _ (g.map (.int .i64)) W (hr2.below h) h.size (ints_one g) (by omega))
  have C3 := Lib.hid (fun W (h : Below w.heap.size w W) => clone_int K kn kc _ (b.map (.int .i64)) W (hr3.below h) h.size (ints_one b) (by omega))
  have HCl := Lib.hid (fun W (h : Below w.heap.size w W) => clean_full A n c a G gn gc g K kn kc b W ((hr.below h).more h.size) hnc hc ha ((hr2.below h).more h.size) h2 hx2 ((hr3.below h).more h.size) h3 hx3)
  have HCp := Lib.hid (fun W (h : Below w.heap.size w W) => copy_full A n c a G gn gc g W ((hr.below h).more h.size) hnc hc ha ((hr2.below h).more h.size) (by omega) hx2)
  have HRe := Lib.hid (fun W (h : Below w.heap.size w W) => reach_full A n c a G gn gc g W ((hr.below h).more h.size) hnc ha ((hr2.below h).more h.size) (by omega) hx2)
  clear ha hx2 hx3 hnc hc
  go_enter Try.func5, Try.ntmps5
  go_wp2_with fail
  refine (slides_true _).mono ?_
  rintro e w1 ⟨rfl, hb1⟩
  have hb01 := below_step hb0 hb1
  have DA1 := DA.below hb1 DA.lt
  have DG1 := DG.below hb1 (by simp)
  have DK1 := DK.below hb1 (by simp)
  clear hb0 hb1 DA DG DK
  go_upto_region 3 with fail
  go_cut [7, 8, 9] from 29 to 34 (fun s7 s8 s9 wc => Below w1.heap.size w1 wc ∧ ∃ p1 p2 p3 A1 d1 A2 d2 A3 d3, s7 = .pointer (some ⟨p1, 0, none⟩) ∧ s8 = .pointer (some ⟨p2, 0, none⟩) ∧ s9 = .pointer (some ⟨p3, 0, none⟩) ∧ Blk wc p1 23 #[.slice A1 n d1] ∧ Blk wc p2 24 #[.slice A2 gn d2] ∧ Blk wc p3 24 #[.slice A3 kn d3] ∧
    wc.ownsRow w1.heap.size 37 1 (.slice A1 n d1) n (a.map (.int .u64)) ∧ wc.ownsRow w1.heap.size 3 1 (.slice A2 gn d2) gn (g.map (.int .i64)) ∧ wc.ownsRow w1.heap.size 3 1 (.slice A3 kn d3) kn (b.map (.int .i64)))
  case first =>
    refine wp_region_any rfl ?_
    refine wpAny_inv3 (I := (fun s0 l s W => ∃ v29 v30 v31 v32 v33 v34 v7 v8 v9 : Value, s = (((((((((s0.put (some 29) v29).put (some 30) v30).put (some 31) v31).put (some 32) v32).put (some 33) v33).put (some 34) v34).put (some 7) v7).put (some 8) v8).put (some 9) v9) ∧ R3B w1 A n c G gn gc K kn kc a g b l v29 v30 v31 v32 v33 v34 v7 v8 v9 W)) _ _ ?hend ?hstep ?start
    case start => exact ⟨_, _, _, _, _, _, _, _, _, puts9 _ 29 30 31 32 33 34 7 8 9, R3B.start (Below.refl _ w1).drew⟩
    case hend =>
      intro l s W hI hsz hrd
      obtain ⟨v29, v30, v31, v32, v33, v34, v7, v8, v9, rfl, hT⟩ := hI
      have had := all_done hsz hrd (by rfl)
      obtain ⟨A1, d1, rfl, o1⟩ := hT.d1 (had 1 (by decide))
      obtain ⟨A2, d2, rfl, o2⟩ := hT.d3 (had 3 (by decide))
      obtain ⟨A3, d3, rfl, o3⟩ := hT.d5 (had 5 (by decide))
      obtain ⟨u1, ⟨p1, rfl, l1, B1⟩, k1⟩ := hT.d6 (had 6 (by decide))
      obtain ⟨u2, ⟨p2, rfl, l2, B2⟩, k2⟩ := hT.d7 (had 7 (by decide))
      obtain ⟨u3, ⟨p3, rfl, l3, B3⟩, k3⟩ := hT.d8 (had 8 (by decide))
      obtain rfl := k1 (had 9 (by decide))
      obtain rfl := k2 (had 10 (by decide))
      obtain rfl := k3 (had 11 (by decide))
      have hbT := hT.bw
      clear hT had hsz hrd
      go_simp
      go_wp2_with fail
      go_meet
      exact ⟨hbT, p1, p2, p3, A1, d1, A2, d2, A3, d3, rfl, rfl, rfl, B1, B2, B3, o1, o2, o3⟩
    case hstep =>
      intro l s W i o hI hcl hil hu ho haf
      obtain ⟨v29, v30, v31, v32, v33, v34, v7, v8, v9, rfl, hT⟩ := hI
      have hi12 : i < 12 := by rw [← hT.sz]; exact hil
      have hbW := below_step hb01 hT.bw
      have DAW := DA1.below hT.bw DA1.lt
      have DGW := DG1.below hT.bw DG1.lt
      have DKW := DK1.below hT.bw DK1.lt
      have s0 := DAW.cell 0
      have s1 := DGW.cell 0
      have s2 := DKW.cell 0
      simp only [List.getElem?_toArray, List.getElem?_cons_zero] at s0 s1 s2
      have hi : i = 0 ∨ i = 1 ∨ i = 2 ∨ i = 3 ∨ i = 4 ∨ i = 5 ∨ i = 6 ∨ i = 7 ∨ i = 8 ∨ i = 9 ∨ i = 10 ∨ i = 11 := by omega
      rcases hi with rfl | rfl | rfl | rfl | rfl | rfl | rfl | rfl | rfl | rfl | rfl | rfl
      · have hop := ho
        clear haf hop ho hcl
        refine wpOp_list rfl ?_
        go_wp2_with fail
        refine onto_normal ⟨.slice A n c, v30, v31, v32, v33, v34, v7, v8, v9, by go_simp, hT.s0 hu (Below.refl _ _) rfl⟩
      · have hop := ho
        obtain rfl := hT.d0 (pre_dn ho haf 0 rfl)
        clear haf hop ho hcl
        refine wpOp_list rfl ?_
        go_wp2_with (go_at_call 24; (with_reducible refine (C1.out _ hbW).mono ?_); rintro e W2 ⟨A1, d1, rfl, ho1, hb2⟩)
        refine onto_normal ⟨_, .slice A1 n d1, v31, v32, v33, v34, v7, v8, v9, by go_simp, hT.s1 hu hb2 ⟨A1, d1, rfl, own_mono ho1 hT.bw.size⟩⟩
      · have hop := ho
        clear haf hop ho hcl
        refine wpOp_list rfl ?_
        go_wp2_with fail
        refine onto_normal ⟨v29, v30, .slice G gn gc, v32, v33, v34, v7, v8, v9, by go_simp, hT.s2 hu (Below.refl _ _) rfl⟩
      · have hop := ho
        obtain rfl := hT.d2 (pre_dn ho haf 2 rfl)
        clear haf hop ho hcl
        refine wpOp_list rfl ?_
        go_wp2_with (go_at_call 25; (with_reducible refine (C2.out _ hbW).mono ?_); rintro e W2 ⟨A1, d1, rfl, ho1, hb2⟩)
        refine onto_normal ⟨v29, v30, _, .slice A1 gn d1, v33, v34, v7, v8, v9, by go_simp, hT.s3 hu hb2 ⟨A1, d1, rfl, own_mono ho1 hT.bw.size⟩⟩
      · have hop := ho
        clear haf hop ho hcl
        refine wpOp_list rfl ?_
        go_wp2_with fail
        refine onto_normal ⟨v29, v30, v31, v32, .slice K kn kc, v34, v7, v8, v9, by go_simp, hT.s4 hu (Below.refl _ _) rfl⟩
      · have hop := ho
        obtain rfl := hT.d4 (pre_dn ho haf 4 rfl)
        clear haf hop ho hcl
        refine wpOp_list rfl ?_
        go_wp2_with (go_at_call 25; (with_reducible refine (C3.out _ hbW).mono ?_); rintro e W2 ⟨A1, d1, rfl, ho1, hb2⟩)
        refine onto_normal ⟨v29, v30, v31, v32, _, .slice A1 kn d1, v7, v8, v9, by go_simp, hT.s5 hu hb2 ⟨A1, d1, rfl, own_mono ho1 hT.bw.size⟩⟩
      · have hop := ho
        clear haf hop ho hcl
        refine wpOp_list rfl ?_
        go_wp2_with fail
        refine onto_normal ⟨v29, v30, v31, v32, v33, v34, .pointer (some ⟨W.heap.size, 0, none⟩), v8, v9, by go_simp, hT.s6 hu (below_new W _) ⟨.slice none 0 0, W.heap.size, rfl, hT.bw.size, Blk.new W 23 _⟩⟩
      · have hop := ho
        clear haf hop ho hcl
        refine wpOp_list rfl ?_
        go_wp2_with fail
        refine onto_normal ⟨v29, v30, v31, v32, v33, v34, v7, .pointer (some ⟨W.heap.size, 0, none⟩), v9, by go_simp, hT.s7 hu (below_new W _) ⟨.slice none 0 0, W.heap.size, rfl, hT.bw.size, Blk.new W 24 _⟩ (fun h8 => by obtain ⟨u, hB, -⟩ := hT.d8 h8; exact hB.ne.symm)⟩
      · have hop := ho
        clear haf hop ho hcl
        refine wpOp_list rfl ?_
        go_wp2_with fail
        refine onto_normal ⟨v29, v30, v31, v32, v33, v34, v7, v8, .pointer (some ⟨W.heap.size, 0, none⟩), by go_simp, hT.s8 hu (below_new W _) ⟨.slice none 0 0, W.heap.size, rfl, hT.bw.size, Blk.new W 24 _⟩ (fun h7 => by obtain ⟨u, hB, -⟩ := hT.d7 h7; exact hB.ne)⟩
      · have hop := ho
        have q5 : Dn l 5 := pre_dn ho haf 5 rfl
        have q6 : Dn l 6 := pre_dn ho haf 6 rfl
        have q7 : Dn l 7 := pre_dn ho haf 7 rfl
        have q8 : Dn l 8 := pre_dn ho haf 8 rfl
        have q4 : Dn l 4 := hcl.dn q5 4 rfl
        have q3 : Dn l 3 := hcl.dn q5 3 rfl
        have q2 : Dn l 2 := hcl.dn q3 2 rfl
        have q1 : Dn l 1 := hcl.dn q3 1 rfl
        have q0 : Dn l 0 := hcl.dn q1 0 rfl
        have hall : ∀ j, j < 9 → Dn l j := fun j hj => by
          have hj2 : j = 0 ∨ j = 1 ∨ j = 2 ∨ j = 3 ∨ j = 4 ∨ j = 5 ∨ j = 6 ∨ j = 7 ∨ j = 8 := by omega
          rcases hj2 with rfl | rfl | rfl | rfl | rfl | rfl | rfl | rfl | rfl
          all_goals assumption
        obtain ⟨A1, d1, rfl, -⟩ := hT.d1 q1
        obtain ⟨u, ⟨p, rfl, hp, hB⟩, -⟩ := hT.d6 q6
        have hf := hB.frozen 0
        have hc0 := hB.cell 0
        simp only [List.getElem?_toArray, List.getElem?_cons_zero] at hc0
        have hR2 := hT.s9 hall rfl
        clear haf hop ho hcl hall
        refine wpOp_list rfl ?_
        go_wp2_with fail
        refine onto_normal ⟨_, _, _, _, _, _, _, _, _, ?_, hR2⟩
        go_simp
      · have hop := ho
        have q9 : Dn l 9 := pre_dn ho haf 9 rfl
        have q5 : Dn l 5 := hcl.dn q9 5 rfl
        have q6 : Dn l 6 := hcl.dn q9 6 rfl
        have q7 : Dn l 7 := hcl.dn q9 7 rfl
        have q8 : Dn l 8 := hcl.dn q9 8 rfl
        have q4 : Dn l 4 := hcl.dn q5 4 rfl
        have q3 : Dn l 3 := hcl.dn q5 3 rfl
        have q2 : Dn l 2 := hcl.dn q3 2 rfl
        have q1 : Dn l 1 := hcl.dn q3 1 rfl
        have q0 : Dn l 0 := hcl.dn q1 0 rfl
        have hall : ∀ j, j < 9 → Dn l j := fun j hj => by
          have hj2 : j = 0 ∨ j = 1 ∨ j = 2 ∨ j = 3 ∨ j = 4 ∨ j = 5 ∨ j = 6 ∨ j = 7 ∨ j = 8 := by omega
          rcases hj2 with rfl | rfl | rfl | rfl | rfl | rfl | rfl | rfl | rfl
          all_goals assumption
        obtain ⟨A1, d1, rfl, -⟩ := hT.d3 q3
        obtain ⟨u, ⟨p, rfl, hp, hB⟩, -⟩ := hT.d7 q7
        have hf := hB.frozen 0
        have hc0 := hB.cell 0
        simp only [List.getElem?_toArray, List.getElem?_cons_zero] at hc0
        have hR2 := hT.s10 hall rfl
        clear haf hop ho hcl hall
        refine wpOp_list rfl ?_
        go_wp2_with fail
        refine onto_normal ⟨_, _, _, _, _, _, _, _, _, ?_, hR2⟩
        go_simp
      · have hop := ho
        have q10 : Dn l 10 := pre_dn ho haf 10 rfl
        have q9 : Dn l 9 := hcl.dn q10 9 rfl
        have q5 : Dn l 5 := hcl.dn q9 5 rfl
        have q6 : Dn l 6 := hcl.dn q9 6 rfl
        have q7 : Dn l 7 := hcl.dn q9 7 rfl
        have q8 : Dn l 8 := hcl.dn q9 8 rfl
        have q4 : Dn l 4 := hcl.dn q5 4 rfl
        have q3 : Dn l 3 := hcl.dn q5 3 rfl
        have q2 : Dn l 2 := hcl.dn q3 2 rfl
        have q1 : Dn l 1 := hcl.dn q3 1 rfl
        have q0 : Dn l 0 := hcl.dn q1 0 rfl
        have hall : ∀ j, j < 9 → Dn l j := fun j hj => by
          have hj2 : j = 0 ∨ j = 1 ∨ j = 2 ∨ j = 3 ∨ j = 4 ∨ j = 5 ∨ j = 6 ∨ j = 7 ∨ j = 8 := by omega
          rcases hj2 with rfl | rfl | rfl | rfl | rfl | rfl | rfl | rfl | rfl
          all_goals assumption
        obtain ⟨A1, d1, rfl, -⟩ := hT.d5 q5
        obtain ⟨u, ⟨p, rfl, hp, hB⟩, -⟩ := hT.d8 q8
        have hf := hB.frozen 0
        have hc0 := hB.cell 0
        simp only [List.getElem?_toArray, List.getElem?_cons_zero] at hc0
        have hR2 := hT.s11 hall rfl
        clear haf hop ho hcl hall
        refine wpOp_list rfl ?_
        go_wp2_with fail
        refine onto_normal ⟨_, _, _, _, _, _, _, _, _, ?_, hR2⟩
        go_simp
  case rest =>
    obtain ⟨hbc, p1, p2, p3, A1, d1, A2, d2, A3, d3, rfl, rfl, rfl, B1, B2, B3, o1, o2, o3⟩ := hcut
    have hb02 := below_step hb01 hbc
    have DA2 := DA1.below hbc DA1.lt
    have DG2 := DG1.below hbc DG1.lt
    have DK2 := DK1.below hbc DK1.lt
    obtain ⟨w2, hw2⟩ : ∃ w2, w2 = wc := ⟨wc, rfl⟩
    subst hw2
    have HCs := Lib.hid (fun W (h : Below w2.heap.size w2 W) => slideOwnC_any w.heap.size p1 (w.heap.size + 1) p2 (w.heap.size + 1 + 1) p3 A n c a A1 d1 G gn gc g A2 d2 K kn kc b A3 d3 W (DA2.below h DA2.lt) (B1.below h B1.lt) (DG2.below h DG2.lt) (B2.below h B2.lt) (DK2.below h DK2.lt) (B3.below h B3.lt)
      ((hr.below (below_step hb02 h)).more (below_step hb02 h).size) (Reads.of_own (own_below o1 h)) ((hr2.below (below_step hb02 h)).more (below_step hb02 h).size) (Reads.of_own (own_below o2 h)) ((hr3.below (below_step hb02 h)).more (below_step hb02 h).size) (Reads.of_own (own_below o3 h)) (by omega) (by omega) (by omega))
    have hqc := fun (w9 : World) => (plain_of (fn := Try.f26) Try.func26 (by kernel_rfl) (by kernel_rfl)) #[.pointer (some ⟨w.heap.size, 0, none⟩), .pointer (some ⟨p1, 0, none⟩), .pointer (some ⟨w.heap.size + 1, 0, none⟩), .pointer (some ⟨p2, 0, none⟩), .pointer (some ⟨w.heap.size + 1 + 1, 0, none⟩), .pointer (some ⟨p3, 0, none⟩)] w9
    clear o1 o2 o3 B1 B2 B3 C1 C2 C3
    have HDA := Lib.hid (fun W (h : Below w2.heap.size w2 W) => (DA2.below h DA2.lt).cell 0)
    have HDG := Lib.hid (fun W (h : Below w2.heap.size w2 W) => (DG2.below h DG2.lt).cell 0)
    have HDK := Lib.hid (fun W (h : Below w2.heap.size w2 W) => (DK2.below h DK2.lt).cell 0)
    have s0 := HDA.out w2 (Below.refl _ _)
    have s1 := HDG.out w2 (Below.refl _ _)
    have s2 := HDK.out w2 (Below.refl _ _)
    simp only [List.getElem?_toArray, List.getElem?_cons_zero] at s0 s1 s2
    clear DA1 DG1 DK1 DA2 DG2 DK2 hr hr2 hr3
    go_wp2_with fail
    refine (HCl.out _ hb02).mono ?_
    rintro e w3 ⟨hb3, X1, m1, e1, Y1, n1, f1, r1', rfl, F1, F3⟩
    have hb03 := below_step hb02 hb3
    have h23 := hb3
    have s0 := HDA.out w3 h23
    have s1 := HDG.out w3 h23
    have s2 := HDK.out w3 h23
    simp only [List.getElem?_toArray, List.getElem?_cons_zero] at s0 s1 s2
    go_wp2_with fail
    refine (HCp.out _ hb03).mono ?_
    rintro e w4 ⟨hb4, X2, m2, e2, Y2, n2, f2, Y3, n3, f3, r2', rfl, F2, F4, F5⟩
    have hb04 := below_step hb03 hb4
    have h24 := below_step h23 hb4
    have F1 := F1.below hb4
    have F3 := F3.below hb4
    have s0 := HDA.out w4 h24
    have s1 := HDG.out w4 h24
    have s2 := HDK.out w4 h24
    simp only [List.getElem?_toArray, List.getElem?_cons_zero] at s0 s1 s2
    go_wp2_with fail
    refine (HRe.out _ hb04).mono ?_
    rintro e w5 ⟨hb5, Y4, n4, f4, r3', rfl, F6⟩
    have h25 := below_step h24 hb5
    have F1 := F1.below hb5
    have F2 := F2.below hb5
    have F3 := F3.below hb5
    have F4 := F4.below hb5
    have F5 := F5.below hb5
    have HC5 := Lib.hid (HCs.out w5 h25)
    go_wp2_with fail
    refine HC5.out.mono ?_
    rintro e w7 ⟨rfl, hb7⟩
    have hb27 := below_step h25 hb7
    have F1 : FullG isU 1 37 w7 w2.heap.size X1 e1 := (FullG.mono F1 (Nat.le_refl _)).below hb7
    have F2 : FullG isU 1 37 w7 w2.heap.size X2 e2 := (FullG.mono F2 h23.size).below hb7
    have F3 : FullG isN 1 3 w7 w2.heap.size Y1 f1 := (FullG.mono F3 (Nat.le_refl _)).below hb7
    have F4 : FullG isN 1 3 w7 w2.heap.size Y2 f2 := (FullG.mono F4 h23.size).below hb7
    have F5 : FullG isN 1 3 w7 w2.heap.size Y3 f3 := (FullG.mono F5 h23.size).below hb7
    have F6 : FullG isN 1 3 w7 w2.heap.size Y4 f4 := (FullG.mono F6 h24.size).below hb7
    have HB02 := Lib.hid hb02
    clear HCl HCp HRe HDA HDG HDK s0 s1 s2 hb3 hb4 hb5 hb7 hb03 hb04 h23 h24 h25 HC5 hb02 hbc hb01 h1 h2 h3
    go_wp2_with fail
    go_loopw [22, 23, 65] (fun _ _ i wr => ∃ j : Nat, j ≤ 2 ∧ i = .int .i64 j ∧ Below w2.heap.size w2 wr ∧ FullG isU 1 37 wr w2.heap.size X1 e1 ∧ FullG isU 1 37 wr w2.heap.size X2 e2 ∧ FullG isN 1 3 wr w2.heap.size Y1 f1 ∧ FullG isN 1 3 wr w2.heap.size Y2 f2 ∧ FullG isN 1 3 wr w2.heap.size Y3 f3 ∧ FullG isN 1 3 wr w2.heap.size Y4 f4) (fun _ _ i _ => 2 - (intOf i).toNat)
    case atStart => exact ⟨0, by omega, rfl, hb27, F1, F2, F3, F4, F5, F6⟩
    case round =>
      obtain ⟨j, hj, rfl, hb, F1, F2, F3, F4, F5, F6⟩ := hrel
      have hjc : j = 0 ∨ j = 1 ∨ j = 2 := by omega
      rcases hjc with rfl | rfl | rfl
      · clear hj
        have hX : (Instr.index 72 (.agg #[.slice X1 m1 e1, .slice X2 m2 e2]) (.int .i64 0)).run Try.prog wr = .ok (.slice X1 m1 e1) wr := idxG 2 72 23 37 Try.underlying72 Try.underlying23 (size_ofG (by kernel_rfl)) #[.slice X1 m1 e1, .slice X2 m2 e2] 0 (by decide) rfl wr
        have hcap0 := F1.cap
        obtain ⟨wo, hwo⟩ : ∃ x, x = wr := ⟨wr, rfl⟩
        subst hwo
        go_wp2
        go_loopw [23, 74] (fun _ i wr => ∃ ji : Nat, ji ≤ e1 ∧ i = .int .i64 ji ∧ Below w2.heap.size w2 wr ∧ FullG isU 1 37 wr w2.heap.size X1 e1 ∧ FullG isU 1 37 wr w2.heap.size X2 e2 ∧ FullG isN 1 3 wr w2.heap.size Y1 f1 ∧ FullG isN 1 3 wr w2.heap.size Y2 f2 ∧ FullG isN 1 3 wr w2.heap.size Y3 f3 ∧ FullG isN 1 3 wr w2.heap.size Y4 f4) (fun _ i _ => e1 - (intOf i).toNat)
        case atStart => exact ⟨0, Nat.zero_le _, rfl, hb, F1, F2, F3, F4, F5, F6⟩
        case round =>
          obtain ⟨ji, hj2, rfl, hb, F1, F2, F3, F4, F5, F6⟩ := hrel
          by_cases hlt : ji < e1
          · obtain ⟨gx, v, hB, hg, hcell, hok, hfr⟩ := F1.cell (j := ji) (by omega)
            obtain ⟨y, rfl⟩ : ∃ y, v = .int .u64 y := hok
            subst hB
            have hj3 : ji + 1 ≤ e1 := hlt
            have hbz := hb.setCell (p := ⟨gx, ji, none⟩) hg (.int .u64 (IntKind.u64.wrap (y + 1)))
            have F1z := Lib.hid (F1.put (g := gx) (j := ji) (u := .int .u64 (IntKind.u64.wrap (y + 1))) ⟨_, rfl⟩)
            have F2z := Lib.hid (F2.put (g := gx) (j := ji) (u := .int .u64 (IntKind.u64.wrap (y + 1))) ⟨_, rfl⟩)
            have F3z := Lib.hid (F3.far (g := gx) (j := ji) (u := .int .u64 (IntKind.u64.wrap (y + 1))) F1 (by decide))
            have F4z := Lib.hid (F4.far (g := gx) (j := ji) (u := .int .u64 (IntKind.u64.wrap (y + 1))) F1 (by decide))
            have F5z := Lib.hid (F5.far (g := gx) (j := ji) (u := .int .u64 (IntKind.u64.wrap (y + 1))) F1 (by decide))
            have F6z := Lib.hid (F6.far (g := gx) (j := ji) (u := .int .u64 (IntKind.u64.wrap (y + 1))) F1 (by decide))
            clear F1 F2 F3 F4 F5 F6
            go_wp2
            go_roundw
            case rel => exact ⟨ji + 1, hj3, by go_num, hbz, F1z.out, F2z.out, F3z.out, F4z.out, F5z.out, F6z.out⟩
            case measure => simp [intOf]; omega
          · have g0 : decide (ji < e1) = false := decide_eq_false hlt
            go_wp2
            go_roundw
            case rel => exact ⟨1, by omega, by go_num, hb, F1, F2, F3, F4, F5, F6⟩
            case measure => simp [intOf]; try omega
      · clear hj
        have hX : (Instr.index 72 (.agg #[.slice X1 m1 e1, .slice X2 m2 e2]) (.int .i64 1)).run Try.prog wr = .ok (.slice X2 m2 e2) wr := idxG 2 72 23 37 Try.underlying72 Try.underlying23 (size_ofG (by kernel_rfl)) #[.slice X1 m1 e1, .slice X2 m2 e2] 1 (by decide) rfl wr
        have hcap0 := F2.cap
        obtain ⟨wo, hwo⟩ : ∃ x, x = wr := ⟨wr, rfl⟩
        subst hwo
        go_wp2
        go_loopw [23, 74] (fun _ i wr => ∃ ji : Nat, ji ≤ e2 ∧ i = .int .i64 ji ∧ Below w2.heap.size w2 wr ∧ FullG isU 1 37 wr w2.heap.size X1 e1 ∧ FullG isU 1 37 wr w2.heap.size X2 e2 ∧ FullG isN 1 3 wr w2.heap.size Y1 f1 ∧ FullG isN 1 3 wr w2.heap.size Y2 f2 ∧ FullG isN 1 3 wr w2.heap.size Y3 f3 ∧ FullG isN 1 3 wr w2.heap.size Y4 f4) (fun _ i _ => e2 - (intOf i).toNat)
        case atStart => exact ⟨0, Nat.zero_le _, rfl, hb, F1, F2, F3, F4, F5, F6⟩
        case round =>
          obtain ⟨ji, hj2, rfl, hb, F1, F2, F3, F4, F5, F6⟩ := hrel
          by_cases hlt : ji < e2
          · obtain ⟨gx, v, hB, hg, hcell, hok, hfr⟩ := F2.cell (j := ji) (by omega)
            obtain ⟨y, rfl⟩ : ∃ y, v = .int .u64 y := hok
            subst hB
            have hj3 : ji + 1 ≤ e2 := hlt
            have hbz := hb.setCell (p := ⟨gx, ji, none⟩) hg (.int .u64 (IntKind.u64.wrap (y + 1)))
            have F1z := Lib.hid (F1.put (g := gx) (j := ji) (u := .int .u64 (IntKind.u64.wrap (y + 1))) ⟨_, rfl⟩)
            have F2z := Lib.hid (F2.put (g := gx) (j := ji) (u := .int .u64 (IntKind.u64.wrap (y + 1))) ⟨_, rfl⟩)
            have F3z := Lib.hid (F3.far (g := gx) (j := ji) (u := .int .u64 (IntKind.u64.wrap (y + 1))) F2 (by decide))
            have F4z := Lib.hid (F4.far (g := gx) (j := ji) (u := .int .u64 (IntKind.u64.wrap (y + 1))) F2 (by decide))
            have F5z := Lib.hid (F5.far (g := gx) (j := ji) (u := .int .u64 (IntKind.u64.wrap (y + 1))) F2 (by decide))
            have F6z := Lib.hid (F6.far (g := gx) (j := ji) (u := .int .u64 (IntKind.u64.wrap (y + 1))) F2 (by decide))
            clear F1 F2 F3 F4 F5 F6
            go_wp2
            go_roundw
            case rel => exact ⟨ji + 1, hj3, by go_num, hbz, F1z.out, F2z.out, F3z.out, F4z.out, F5z.out, F6z.out⟩
            case measure => simp [intOf]; omega
          · have g0 : decide (ji < e2) = false := decide_eq_false hlt
            go_wp2
            go_roundw
            case rel => exact ⟨2, by omega, by go_num, hb, F1, F2, F3, F4, F5, F6⟩
            case measure => simp [intOf]; try omega
      · clear hj
        obtain ⟨w8, hw8⟩ : ∃ x, x = wr := ⟨wr, rfl⟩
        subst hw8
        have hb27 := hb
        go_wp2_with fail
        go_loopw [25, 26, 90] (fun _ _ i wr => ∃ j : Nat, j ≤ 4 ∧ i = .int .i64 j ∧ Below w2.heap.size w2 wr ∧ FullG isU 1 37 wr w2.heap.size X1 e1 ∧ FullG isU 1 37 wr w2.heap.size X2 e2 ∧ FullG isN 1 3 wr w2.heap.size Y1 f1 ∧ FullG isN 1 3 wr w2.heap.size Y2 f2 ∧ FullG isN 1 3 wr w2.heap.size Y3 f3 ∧ FullG isN 1 3 wr w2.heap.size Y4 f4) (fun _ _ i _ => 4 - (intOf i).toNat)
        case atStart => exact ⟨0, by omega, rfl, hb27, F1, F2, F3, F4, F5, F6⟩
        case round =>
          obtain ⟨j, hj, rfl, hb, F1, F2, F3, F4, F5, F6⟩ := hrel
          have hjc : j = 0 ∨ j = 1 ∨ j = 2 ∨ j = 3 ∨ j = 4 := by omega
          rcases hjc with rfl | rfl | rfl | rfl | rfl
          · clear hj
            have hX : (Instr.index 73 (.agg #[.slice Y1 n1 f1, .slice Y2 n2 f2, .slice Y3 n3 f3, .slice Y4 n4 f4]) (.int .i64 0)).run Try.prog wr = .ok (.slice Y1 n1 f1) wr := idxG 4 73 24 3 Try.underlying73 Try.underlying24 (size_ofG (by kernel_rfl)) #[.slice Y1 n1 f1, .slice Y2 n2 f2, .slice Y3 n3 f3, .slice Y4 n4 f4] 0 (by decide) rfl wr
            have hcap0 := F3.cap
            obtain ⟨wo, hwo⟩ : ∃ x, x = wr := ⟨wr, rfl⟩
            subst hwo
            go_wp2
            go_loopw [26, 99] (fun _ i wr => ∃ ji : Nat, ji ≤ f1 ∧ i = .int .i64 ji ∧ Below w2.heap.size w2 wr ∧ FullG isU 1 37 wr w2.heap.size X1 e1 ∧ FullG isU 1 37 wr w2.heap.size X2 e2 ∧ FullG isN 1 3 wr w2.heap.size Y1 f1 ∧ FullG isN 1 3 wr w2.heap.size Y2 f2 ∧ FullG isN 1 3 wr w2.heap.size Y3 f3 ∧ FullG isN 1 3 wr w2.heap.size Y4 f4) (fun _ i _ => f1 - (intOf i).toNat)
            case atStart => exact ⟨0, Nat.zero_le _, rfl, hb, F1, F2, F3, F4, F5, F6⟩
            case round =>
              obtain ⟨ji, hj2, rfl, hb, F1, F2, F3, F4, F5, F6⟩ := hrel
              by_cases hlt : ji < f1
              · obtain ⟨gx, v, hB, hg, hcell, hok, hfr⟩ := F3.cell (j := ji) (by omega)
                obtain ⟨y, rfl⟩ : ∃ y, v = .int .i64 y := hok
                subst hB
                have hj3 : ji + 1 ≤ f1 := hlt
                have hbz := hb.setCell (p := ⟨gx, ji, none⟩) hg (.int .i64 (wrap64 (y + 1)))
                have F1z := Lib.hid (F1.far (g := gx) (j := ji) (u := .int .i64 (wrap64 (y + 1))) F3 (by decide))
                have F2z := Lib.hid (F2.far (g := gx) (j := ji) (u := .int .i64 (wrap64 (y + 1))) F3 (by decide))
                have F3z := Lib.hid (F3.put (g := gx) (j := ji) (u := .int .i64 (wrap64 (y + 1))) ⟨_, rfl⟩)
                have F4z := Lib.hid (F4.put (g := gx) (j := ji) (u := .int .i64 (wrap64 (y + 1))) ⟨_, rfl⟩)
                have F5z := Lib.hid (F5.put (g := gx) (j := ji) (u := .int .i64 (wrap64 (y + 1))) ⟨_, rfl⟩)
                have F6z := Lib.hid (F6.put (g := gx) (j := ji) (u := .int .i64 (wrap64 (y + 1))) ⟨_, rfl⟩)
                clear F1 F2 F3 F4 F5 F6
                go_wp2
                go_roundw
                case rel => exact ⟨ji + 1, hj3, by go_num, hbz, F1z.out, F2z.out, F3z.out, F4z.out, F5z.out, F6z.out⟩
                case measure => simp [intOf]; omega
              · have g0 : decide (ji < f1) = false := decide_eq_false hlt
                go_wp2
                go_roundw
                case rel => exact ⟨1, by omega, by go_num, hb, F1, F2, F3, F4, F5, F6⟩
                case measure => simp [intOf]; try omega
          · clear hj
            have hX : (Instr.index 73 (.agg #[.slice Y1 n1 f1, .slice Y2 n2 f2, .slice Y3 n3 f3, .slice Y4 n4 f4]) (.int .i64 1)).run Try.prog wr = .ok (.slice Y2 n2 f2) wr := idxG 4 73 24 3 Try.underlying73 Try.underlying24 (size_ofG (by kernel_rfl)) #[.slice Y1 n1 f1, .slice Y2 n2 f2, .slice Y3 n3 f3, .slice Y4 n4 f4] 1 (by decide) rfl wr
            have hcap0 := F4.cap
            obtain ⟨wo, hwo⟩ : ∃ x, x = wr := ⟨wr, rfl⟩
            subst hwo
            go_wp2
            go_loopw [26, 99] (fun _ i wr => ∃ ji : Nat, ji ≤ f2 ∧ i = .int .i64 ji ∧ Below w2.heap.size w2 wr ∧ FullG isU 1 37 wr w2.heap.size X1 e1 ∧ FullG isU 1 37 wr w2.heap.size X2 e2 ∧ FullG isN 1 3 wr w2.heap.size Y1 f1 ∧ FullG isN 1 3 wr w2.heap.size Y2 f2 ∧ FullG isN 1 3 wr w2.heap.size Y3 f3 ∧ FullG isN 1 3 wr w2.heap.size Y4 f4) (fun _ i _ => f2 - (intOf i).toNat)
            case atStart => exact ⟨0, Nat.zero_le _, rfl, hb, F1, F2, F3, F4, F5, F6⟩
            case round =>
              obtain ⟨ji, hj2, rfl, hb, F1, F2, F3, F4, F5, F6⟩ := hrel
              by_cases hlt : ji < f2
              · obtain ⟨gx, v, hB, hg, hcell, hok, hfr⟩ := F4.cell (j := ji) (by omega)
                obtain ⟨y, rfl⟩ : ∃ y, v = .int .i64 y := hok
                subst hB
                have hj3 : ji + 1 ≤ f2 := hlt
                have hbz := hb.setCell (p := ⟨gx, ji, none⟩) hg (.int .i64 (wrap64 (y + 1)))
                have F1z := Lib.hid (F1.far (g := gx) (j := ji) (u := .int .i64 (wrap64 (y + 1))) F4 (by decide))
                have F2z := Lib.hid (F2.far (g := gx) (j := ji) (u := .int .i64 (wrap64 (y + 1))) F4 (by decide))
                have F3z := Lib.hid (F3.put (g := gx) (j := ji) (u := .int .i64 (wrap64 (y + 1))) ⟨_, rfl⟩)
                have F4z := Lib.hid (F4.put (g := gx) (j := ji) (u := .int .i64 (wrap64 (y + 1))) ⟨_, rfl⟩)
                have F5z := Lib.hid (F5.put (g := gx) (j := ji) (u := .int .i64 (wrap64 (y + 1))) ⟨_, rfl⟩)
                have F6z := Lib.hid (F6.put (g := gx) (j := ji) (u := .int .i64 (wrap64 (y + 1))) ⟨_, rfl⟩)
                clear F1 F2 F3 F4 F5 F6
                go_wp2
                go_roundw
                case rel => exact ⟨ji + 1, hj3, by go_num, hbz, F1z.out, F2z.out, F3z.out, F4z.out, F5z.out, F6z.out⟩
                case measure => simp [intOf]; omega
              · have g0 : decide (ji < f2) = false := decide_eq_false hlt
                go_wp2
                go_roundw
                case rel => exact ⟨2, by omega, by go_num, hb, F1, F2, F3, F4, F5, F6⟩
                case measure => simp [intOf]; try omega
          · clear hj
            have hX : (Instr.index 73 (.agg #[.slice Y1 n1 f1, .slice Y2 n2 f2, .slice Y3 n3 f3, .slice Y4 n4 f4]) (.int .i64 2)).run Try.prog wr = .ok (.slice Y3 n3 f3) wr := idxG 4 73 24 3 Try.underlying73 Try.underlying24 (size_ofG (by kernel_rfl)) #[.slice Y1 n1 f1, .slice Y2 n2 f2, .slice Y3 n3 f3, .slice Y4 n4 f4] 2 (by decide) rfl wr
            have hcap0 := F5.cap
            obtain ⟨wo, hwo⟩ : ∃ x, x = wr := ⟨wr, rfl⟩
            subst hwo
            go_wp2
            go_loopw [26, 99] (fun _ i wr => ∃ ji : Nat, ji ≤ f3 ∧ i = .int .i64 ji ∧ Below w2.heap.size w2 wr ∧ FullG isU 1 37 wr w2.heap.size X1 e1 ∧ FullG isU 1 37 wr w2.heap.size X2 e2 ∧ FullG isN 1 3 wr w2.heap.size Y1 f1 ∧ FullG isN 1 3 wr w2.heap.size Y2 f2 ∧ FullG isN 1 3 wr w2.heap.size Y3 f3 ∧ FullG isN 1 3 wr w2.heap.size Y4 f4) (fun _ i _ => f3 - (intOf i).toNat)
            case atStart => exact ⟨0, Nat.zero_le _, rfl, hb, F1, F2, F3, F4, F5, F6⟩
            case round =>
              obtain ⟨ji, hj2, rfl, hb, F1, F2, F3, F4, F5, F6⟩ := hrel
              by_cases hlt : ji < f3
              · obtain ⟨gx, v, hB, hg, hcell, hok, hfr⟩ := F5.cell (j := ji) (by omega)
                obtain ⟨y, rfl⟩ : ∃ y, v = .int .i64 y := hok
                subst hB
                have hj3 : ji + 1 ≤ f3 := hlt
                have hbz := hb.setCell (p := ⟨gx, ji, none⟩) hg (.int .i64 (wrap64 (y + 1)))
                have F1z := Lib.hid (F1.far (g := gx) (j := ji) (u := .int .i64 (wrap64 (y + 1))) F5 (by decide))
                have F2z := Lib.hid (F2.far (g := gx) (j := ji) (u := .int .i64 (wrap64 (y + 1))) F5 (by decide))
                have F3z := Lib.hid (F3.put (g := gx) (j := ji) (u := .int .i64 (wrap64 (y + 1))) ⟨_, rfl⟩)
                have F4z := Lib.hid (F4.put (g := gx) (j := ji) (u := .int .i64 (wrap64 (y + 1))) ⟨_, rfl⟩)
                have F5z := Lib.hid (F5.put (g := gx) (j := ji) (u := .int .i64 (wrap64 (y + 1))) ⟨_, rfl⟩)
                have F6z := Lib.hid (F6.put (g := gx) (j := ji) (u := .int .i64 (wrap64 (y + 1))) ⟨_, rfl⟩)
                clear F1 F2 F3 F4 F5 F6
                go_wp2
                go_roundw
                case rel => exact ⟨ji + 1, hj3, by go_num, hbz, F1z.out, F2z.out, F3z.out, F4z.out, F5z.out, F6z.out⟩
                case measure => simp [intOf]; omega
              · have g0 : decide (ji < f3) = false := decide_eq_false hlt
                go_wp2
                go_roundw
                case rel => exact ⟨3, by omega, by go_num, hb, F1, F2, F3, F4, F5, F6⟩
                case measure => simp [intOf]; try omega
          · clear hj
            have hX : (Instr.index 73 (.agg #[.slice Y1 n1 f1, .slice Y2 n2 f2, .slice Y3 n3 f3, .slice Y4 n4 f4]) (.int .i64 3)).run Try.prog wr = .ok (.slice Y4 n4 f4) wr := idxG 4 73 24 3 Try.underlying73 Try.underlying24 (size_ofG (by kernel_rfl)) #[.slice Y1 n1 f1, .slice Y2 n2 f2, .slice Y3 n3 f3, .slice Y4 n4 f4] 3 (by decide) rfl wr
            have hcap0 := F6.cap
            obtain ⟨wo, hwo⟩ : ∃ x, x = wr := ⟨wr, rfl⟩
            subst hwo
            go_wp2
            go_loopw [26, 99] (fun _ i wr => ∃ ji : Nat, ji ≤ f4 ∧ i = .int .i64 ji ∧ Below w2.heap.size w2 wr ∧ FullG isU 1 37 wr w2.heap.size X1 e1 ∧ FullG isU 1 37 wr w2.heap.size X2 e2 ∧ FullG isN 1 3 wr w2.heap.size Y1 f1 ∧ FullG isN 1 3 wr w2.heap.size Y2 f2 ∧ FullG isN 1 3 wr w2.heap.size Y3 f3 ∧ FullG isN 1 3 wr w2.heap.size Y4 f4) (fun _ i _ => f4 - (intOf i).toNat)
            case atStart => exact ⟨0, Nat.zero_le _, rfl, hb, F1, F2, F3, F4, F5, F6⟩
            case round =>
              obtain ⟨ji, hj2, rfl, hb, F1, F2, F3, F4, F5, F6⟩ := hrel
              by_cases hlt : ji < f4
              · obtain ⟨gx, v, hB, hg, hcell, hok, hfr⟩ := F6.cell (j := ji) (by omega)
                obtain ⟨y, rfl⟩ : ∃ y, v = .int .i64 y := hok
                subst hB
                have hj3 : ji + 1 ≤ f4 := hlt
                have hbz := hb.setCell (p := ⟨gx, ji, none⟩) hg (.int .i64 (wrap64 (y + 1)))
                have F1z := Lib.hid (F1.far (g := gx) (j := ji) (u := .int .i64 (wrap64 (y + 1))) F6 (by decide))
                have F2z := Lib.hid (F2.far (g := gx) (j := ji) (u := .int .i64 (wrap64 (y + 1))) F6 (by decide))
                have F3z := Lib.hid (F3.put (g := gx) (j := ji) (u := .int .i64 (wrap64 (y + 1))) ⟨_, rfl⟩)
                have F4z := Lib.hid (F4.put (g := gx) (j := ji) (u := .int .i64 (wrap64 (y + 1))) ⟨_, rfl⟩)
                have F5z := Lib.hid (F5.put (g := gx) (j := ji) (u := .int .i64 (wrap64 (y + 1))) ⟨_, rfl⟩)
                have F6z := Lib.hid (F6.put (g := gx) (j := ji) (u := .int .i64 (wrap64 (y + 1))) ⟨_, rfl⟩)
                clear F1 F2 F3 F4 F5 F6
                go_wp2
                go_roundw
                case rel => exact ⟨ji + 1, hj3, by go_num, hbz, F1z.out, F2z.out, F3z.out, F4z.out, F5z.out, F6z.out⟩
                case measure => simp [intOf]; omega
              · have g0 : decide (ji < f4) = false := decide_eq_false hlt
                go_wp2
                go_roundw
                case rel => exact ⟨4, by omega, by go_num, hb, F1, F2, F3, F4, F5, F6⟩
                case measure => simp [intOf]; try omega
          · clear hj
            have HC9 := Lib.hid (HCs.out wr hb)
            have HB9 := Lib.hid (below_step HB02.out hb)
            go_wp2_with fail
            refine HC9.out.mono ?_
            rintro e w9 ⟨rfl, hb9⟩
            go_wp2
            go_ret
            exact ⟨by first | rfl | simp, below_step HB9.out hb9⟩
end Go.Proofs.Ytbmkbnalembbjaa

namespace Go.Proofs.Ytbmkbnalembbjaa
open Go.ChangeShapes Go.WideShapes Go.ChangeAt Go.RowKit
theorem trodAll_below {H : Type} {enc : TypeId × Value → H} {P : Program} (hl : laidOutB P = true) {W W' : World} (hb : Below W.heap.size W W') :
    ∀ {ts : List TypeId} {vs : List Value} {ds : List (DataW H)} {ps : List MemPlace}, ts.all (fun t => P.readableRec t && decide (t < P.types.size)) = true →
      (∀ x ∈ ps, x.block < W.heap.size) → DataW.TrodAll enc P W 0 (fun _ => true) true ts vs ds ps → DataW.TrodAll enc P W' 0 (fun b => decide (b < W.heap.size)) true ts vs ds ps
  | [], [], [], _, _, _, h => h
  | t :: ts, v :: vs, d :: ds, ps, hr, hlt, h => by
    obtain ⟨p, q, h1, h2, rfl⟩ := h
    simp only [List.all_cons, Bool.and_eq_true, decide_eq_true_eq] at hr
    exact ⟨p, q, Below.trod hl hr.1.1 hr.1.2 h1 hb (fun x hx => hlt x (List.mem_append_left _ hx)), trodAll_below hl hb hr.2 (fun x hx => hlt x (List.mem_append_right _ hx)) h2, rfl⟩
  | [], _ :: _, _, _, _, _, h => h.elim
  | [], [], _ :: _, _, _, _, h => h.elim
  | _ :: _, [], _, _, _, _, h => h.elim
  | _ :: _, _ :: _, [], _, _, _, h => h.elim
theorem law_post {H : Type} {enc : TypeId × Value → H} {P : Program} {f : Func} {s : ChangeSpec} {tb : TypeId} {W W' : World} {args : Array Value} {ds gs : List (DataW H)} {before : List MemPlace}
    (hl : laidOutB P = true) (hu : P.underlying tb = some .bool) (hrt : f.resultTypes = #[tb]) (hts : f.params.toList.all (fun t => P.readableRec t && decide (t < P.types.size)) = true)
    (hv : s.vars = []) (hfn : s.fn H ds = { results := [.lit (.bool true)], args := ds })
    (hW : DataW.Whole enc P f.params.toList s.vars false W args.toList ds gs before) (hb : Below W.heap.size W W') :
    s.post enc P f false true false false W args (.bool true) W' := by
  have hW' := hW
  obtain ⟨p, q, hA, hV, rfl, hz, hn⟩ := hW
  rw [hv] at hV
  obtain ⟨rfl, rfl⟩ := trodVars_none hV
  refine ⟨ds, [], _, [], p, [], hW', ?_, ?_, ?_, hb.frame _, fun h => by cases h⟩
  · rw [List.append_nil, hfn, hrt]
    exact trodAll_mk1 (shut_bool hu true)
  · rw [List.append_nil, hfn]
    exact trodAll_below hl hb hts (fun x hx => hW'.lt x (List.mem_append_left _ hx)) hA
  · rw [hv, List.append_nil, hfn]
    rfl
theorem open_nums {H : Type} {enc : TypeId × Value → H} {P : Program} {t e : TypeId} {k : IntKind} {W : World} {r : Reach} {base : Nat} {sp : Nat → Bool} {v : Value} {d : DataW H} {ps : List MemPlace} (ht : P.underlying t = some (.slice e)) (he : P.underlying e = some (.int k)) (hc : P.cellsOf e = 1)
    (hval : Value.okWide P W r base t v) (hlt : ∀ x ∈ ps, x.block < W.heap.size) (h : DataW.Trod enc P W 0 sp true t v d ps) :
    ∃ (A : Option Addr) (n c : Nat) (xs : List Int), v = .slice A n c ∧ n ≤ c ∧ c ≤ maxLen ∧ Reads W W.heap.size 1 A n (xs.map (.int k)) ∧ (∀ x ∈ xs, (Lit.int k x).wf = true) := by
  obtain ⟨a0, len0, cap0, rfl⟩ := okWide_slice ht hval
  obtain ⟨fuel, hf⟩ := h
  rcases open_ints ht he hc hf with ⟨hcs, hx⟩ | ⟨a, len, cap, zs, hcs, hb, hlc, hm, hzl, hx, hcell, hwf⟩
  · simp [Value.cells] at hcs
    obtain ⟨rfl, rfl, rfl⟩ := hcs
    exact ⟨none, 0, 0, [], rfl, Nat.le_refl _, Nat.zero_le _, Reads.none_, fun x hx => by cases hx⟩
  · simp [Value.cells] at hcs
    obtain ⟨rfl, rfl, rfl⟩ := hcs
    simp only [Prod.mk.injEq] at hx
    obtain ⟨rfl, rfl⟩ := hx
    have hlz : len0 ≤ zs.length := by rw [hzl]; split <;> omega
    refine ⟨some a, len0, cap0, zs.take len0, rfl, hlc, hm, ⟨by simp; omega, fun hn => ⟨a, rfl, ?_, fun j u hu => ?_⟩⟩, fun x hx => hwf x (List.mem_of_mem_take hx)⟩
    · have := hlt (.cell a.block (a.off + 0)) (by
        unfold MemPlace.row
        exact List.mem_map.2 ⟨0, List.mem_range.2 (by omega), rfl⟩)
      exact this
    · have hj : j < len0 := by
        have := (List.getElem?_eq_some_iff.1 hu).1
        simp at this; omega
      rw [hcell j (by omega)]
      rw [List.getElem?_map, List.getElem?_take, if_pos hj, List.getElem?_eq_getElem (by omega)] at hu
      rw [← hu, List.getD_eq_getElem?_getD, List.getElem?_eq_getElem (by omega)]
      rfl
end Go.Proofs.Ytbmkbnalembbjaa

namespace Go.Proofs.Ytbmkbnalembbjaa
open Go.ChangeShapes Go.WideShapes Go.ChangeAt Go.RowKit
theorem k_int_bytes : Try.prog.bytesOf 3 = 8 := by kernel_rfl
theorem open_nums2 {H : Type} {enc : TypeId × Value → H} {P : Program} {t e : TypeId} {k : IntKind} {W : World} {r : Reach} {base : Nat} {sp : Nat → Bool} {v : Value} {d : DataW H} {ps : List MemPlace} (ht : P.underlying t = some (.slice e)) (he : P.underlying e = some (.int k)) (hc : P.cellsOf e = 1)
    (hval : Value.okWide P W r base t v) (hlt : ∀ x ∈ ps, x.block < W.heap.size) (h : DataW.Trod enc P W 0 sp true t v d ps) :
    ∃ (A : Option Addr) (n c : Nat) (xs : List Int), v = .slice A n c ∧ n ≤ c ∧ c ≤ maxLen ∧ Reads W W.heap.size 1 A n (xs.map (.int k)) ∧ (∀ x ∈ xs, (Lit.int k x).wf = true) ∧ (n = 0 ∨ ∃ D E, d = .slice D E ∧ D.length = n) := by
  have hk := open_nums ht he hc hval hlt h
  obtain ⟨A, n, c, xs, h1, h2, h3, h4, h5⟩ := hk
  refine ⟨A, n, c, xs, h1, h2, h3, h4, h5, ?_⟩
  subst h1
  obtain ⟨fuel, hf⟩ := h
  rcases open_ints ht he hc hf with ⟨hcs, hx⟩ | ⟨a, len, cap, zs, hcs, hb, hlc, hm, hzl, hx, hcell, hwf⟩
  · simp [Value.cells] at hcs
    exact .inl hcs.2.1
  · simp [Value.cells] at hcs
    obtain ⟨rfl, rfl, rfl⟩ := hcs
    simp only [Prod.mk.injEq] at hx
    obtain ⟨rfl, rfl⟩ := hx
    have hlz : n ≤ zs.length := by rw [hzl]; split <;> omega
    exact .inr ⟨_, _, rfl, by simp [lits]; omega⟩
end Go.Proofs.Ytbmkbnalembbjaa
