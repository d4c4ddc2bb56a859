/-
  Texts joined: StepStep StepStart MapRange StepDone StepSteps LawTri.
-/
import Derived.Deep.CutRange
import Derived.Maps.RangeWalk
import Derived.Lib.SmallJoins
import Derived.Test.YtgkoaambdejkdaaG0
import Derived.Test.YtgkoaambdejkdaaG2
import Derived.Test.YtgkoaambdejkdaaG3
import Derived.Test.YtgkoaambdejkdaaG6
import Derived.Test.YtgkoaambdejkdaaG9
namespace Go.Proofs.Ytgkoaambdejkdaa
open Go.RowKit
theorem TriOk.lens {a g b : List Int} (h : TriOk a g b) : b.length + g.length ≤ 256 ∧ a.length ≤ 256 := by
  have h0 := (checkE_ok.1 h.ok).1
  have h1 := h.black_le
  have h2 : (begsL (spotsL a)).length ≤ 256 := by
    unfold begsL
    rw [List.length_map]
    have := List.length_filter_le (fun s : Spot => !s.f) (spotsL a)
    have := spotsL_length a
    omega
  exact ⟨by omega, (parse_ok h0).1⟩
set_option maxRecDepth 100000 in
set_option maxHeartbeats 1000000 in
theorem stepStep_bad (A : Option Addr) (n c : Nat) (G : Option Addr) (gn gc : Nat) (K : Option Addr) (kn kc : Nat) (a g b : List Int) (w : World) (hr : Reads w w.heap.size 1 A n (a.map (.int .u64))) (hnc : n ≤ c) (ha : ∀ x ∈ a, (Lit.int .u64 x).wf = true)
    (hg : Reads w w.heap.size 1 G gn (g.map (.int .i64))) (hgx : ∀ x ∈ g, (Lit.int .i64 x).wf = true) (hk : Reads w w.heap.size 1 K kn (b.map (.int .i64))) (hkx : ∀ x ∈ b, (Lit.int .i64 x).wf = true) (hq : gn + kn ≤ 35184372088832) (hT : ¬ TriOk a g b) :
    Calls Try.prog 10 #[.agg #[.slice A n c, .slice G gn gc, .slice K kn kc]] w fun e w' => Below w.heap.size w w' ∧ ∃ E, E ≠ 0 ∧ e = .returned (.tuple #[.agg #[.slice none 0 0, .slice none 0 0, .slice none 0 0], .bool false, .int .i64 E]) := by
  have hb0 := (below_new w (.cells #[.slice A n c, .slice G gn gc, .slice K kn kc] 25)).alloc (by simp) (.cells #[.slice none 0 0, .slice none 0 0, .slice none 0 0] 25)
  have DS := (Blk.new w 25 #[.slice A n c, .slice G gn gc, .slice K kn kc]).alloc (.cells #[.slice none 0 0, .slice none 0 0, .slice none 0 0] 25)
  have DR := Blk.new (w.alloc (.cells #[.slice A n c, .slice G gn gc, .slice K kn kc] 25)) 25 #[.slice none 0 0, .slice none 0 0, .slice none 0 0]
  rw [World.size_alloc] at DR
  obtain ⟨s0, s1, s2⟩ := DS.three
  have HC := Lib.hid (stepCheck_any A n c G gn gc K kn kc a g b _ ((hr.below hb0).more hb0.size) hnc ha ((hg.below hb0).more hb0.size) hgx ((hk.below hb0).more hb0.size) hkx hq)
  clear ha hgx hkx hr hg hk
  go_enter Try.func10, Try.ntmps10
  go_wp2_with fail
  refine HC.out.mono ?_
  rintro e w1 ⟨⟨E, rfl, hE⟩, hb1⟩
  have hE0 : E ≠ 0 := fun h => hT (hE.1 h)
  have hE1 : (E != 0) = true := by simpa using hE0
  have HE := Lib.hid hE0
  have DR1 := DR.below hb1 DR.lt
  have f0 := DR1.frozen 0
  have f1 := DR1.frozen 1
  have f2 := DR1.frozen 2
  obtain ⟨r0, r1, r2⟩ := DR1.three
  have hbb := below_step hb0 hb1
  clear hE hE0 hb1
  go_wp2
  refine bodyPost_ret (v := .tuple #[.agg #[.slice none 0 0, .slice none 0 0, .slice none 0 0], .bool false, .int .i64 E]) ?_ rfl ⟨below_block3 hbb (Nat.le_succ _) _ _ _, E, HE.out, rfl⟩
  obtain ⟨z0, z1, z2⟩ := (DR1.store3 (.slice none 0 0) (.slice none 0 0) (.slice none 0 0)).three
  simp only [results, Try.results10]
  go_simp
set_option maxRecDepth 100000 in
set_option maxHeartbeats 2000000 in
theorem stepStep_done (A : Option Addr) (n c : Nat) (G : Option Addr) (gn gc : Nat) (K : Option Addr) (kn kc : Nat) (a b : List Int) (w : World) (hr : Reads w w.heap.size 1 A n (a.map (.int .u64))) (hnc : n ≤ c) (ha : ∀ x ∈ a, (Lit.int .u64 x).wf = true)
    (hg : Reads w w.heap.size 1 G gn (([] : List Int).map (.int .i64))) (hk : Reads w w.heap.size 1 K kn (b.map (.int .i64))) (hkx : ∀ x ∈ b, (Lit.int .i64 x).wf = true) (hT : TriOk a [] b) :
    Calls Try.prog 10 #[.agg #[.slice A n c, .slice G gn gc, .slice K kn kc]] w fun e w' => Below w.heap.size w w' ∧ ∃ (A1 : Option Addr) (c1 : Nat) (A2 : Option Addr) (c2 : Nat) (A3 : Option Addr) (c3 : Nat),
      e = .returned (.tuple #[.agg #[.slice A1 n c1, .slice A2 0 c2, .slice A3 kn c3], .bool false, .int .i64 0]) ∧ TriO w' w.heap.size A1 n c1 A2 0 c2 A3 kn c3 a [] b := by
  obtain ⟨l1, l2⟩ := hT.lens
  have hkl : b.length = kn := by have := hk.1; simpa using this
  have hal : a.length = n := by have := hr.1; simpa using this
  obtain rfl : gn = 0 := by have := hg.1; simp at this; omega
  have hb0 := (below_new w (.cells #[.slice A n c, .slice G 0 gc, .slice K kn kc] 25)).alloc (by simp) (.cells #[.slice none 0 0, .slice none 0 0, .slice none 0 0] 25)
  have DS := (Blk.new w 25 #[.slice A n c, .slice G 0 gc, .slice K kn kc]).alloc (.cells #[.slice none 0 0, .slice none 0 0, .slice none 0 0] 25)
  have DR := Blk.new (w.alloc (.cells #[.slice A n c, .slice G 0 gc, .slice K kn kc] 25)) 25 #[.slice none 0 0, .slice none 0 0, .slice none 0 0]
  rw [World.size_alloc] at DR
  obtain ⟨s0, s1, s2⟩ := DS.three
  have HC := Lib.hid (stepCheck_any A n c G 0 gc K kn kc a [] b _ ((hr.below hb0).more hb0.size) hnc ha ((hg.below hb0).more hb0.size) (by simp) ((hk.below hb0).more hb0.size) hkx (by simp at l1; omega))
  have HCo := Lib.hid (fun w hr hg hk => stepCopied_any A n c G 0 gc K kn kc a [] b w hr ha hg (by simp) hk hkx (by omega) (by omega) (by simp at l1; omega))
  have HT := Lib.hid hT
  clear ha hkx hT hkl hal
  go_enter Try.func10, Try.ntmps10
  go_wp2_with fail
  refine HC.out.mono ?_
  rintro e w1 ⟨⟨E, rfl, hE⟩, hb1⟩
  obtain rfl := hE.2 HT.out
  have DR1 := DR.below hb1 DR.lt
  have DS1 := DS.below hb1 DS.lt
  have hb01 := below_step hb0 hb1
  obtain ⟨s0, s1, s2⟩ := DS1.three
  have f0 := DS1.frozen 0
  have HCo := Lib.hid (HCo.out w1 ((hr.below hb01).more hb01.size) ((hg.below hb01).more hb01.size) ((hk.below hb01).more hb01.size))
  clear hE hb1 HC hr hg hk
  go_wp2_with fail
  refine HCo.out.mono ?_
  rintro e w2 ⟨hb2, A1, c1, A2, c2, A3, c3, rfl, hO⟩
  have DS2 := DS1.below hb2 DS1.lt
  have DR2 := DR1.below hb2 DR1.lt
  have f0 := DS2.frozen 0
  have f1 := DS2.frozen 1
  have f2 := DS2.frozen 2
  obtain ⟨u0, u1, u2⟩ := DS2.three
  have hb02 := below_step hb01 hb2
  have DS3 := DS2.store3 (.slice A1 n c1) (.slice A2 0 c2) (.slice A3 kn c3)
  have DR3 := DR2.far3 (g' := w.heap.size) (by omega) (.slice A1 n c1) (.slice A2 0 c2) (.slice A3 kn c3)
  have hb03 := below_block3 hb02 (Nat.le_refl _) (.slice A1 n c1) (.slice A2 0 c2) (.slice A3 kn c3)
  have HO := Lib.hid (((hO.store DS2 (by decide) (by decide) (.slice A1 n c1) (.slice A2 0 c2) (.slice A3 kn c3)).mono (base := w.heap.size) hb01.size).store DR3 (by decide) (by decide) (.slice A1 n c1) (.slice A2 0 c2) (.slice A3 kn c3))
  have HB := Lib.hid (below_block3 (g := w.heap.size + 1) hb03 (Nat.le_succ _) (.slice A1 n c1) (.slice A2 0 c2) (.slice A3 kn c3))
  have z3 := (DR3.store3 (.slice A1 n c1) (.slice A2 0 c2) (.slice A3 kn c3)).three
  have hq0 := DR3.frozen 0
  have hq1 := DR3.frozen 1
  have hq2 := DR3.frozen 2
  obtain ⟨p0, p1, p2⟩ := DS3.three
  obtain ⟨r0, r1, r2⟩ := DR3.three
  clear hO hb02 hb2 hb03
  go_wp2
  refine bodyPost_ret (v := .tuple #[.agg #[.slice A1 n c1, .slice A2 0 c2, .slice A3 kn c3], .bool false, .int .i64 0]) ?_ rfl ⟨HB.out, A1, c1, A2, c2, A3, c3, rfl, HO.out⟩
  obtain ⟨z0, z1, z2⟩ := z3
  simp only [results, Try.results10]
  go_simp
set_option maxRecDepth 100000 in
set_option maxHeartbeats 4000000 in
theorem stepStep_ok (A : Option Addr) (n c : Nat) (G : Option Addr) (gn gc : Nat) (K : Option Addr) (kn kc : Nat) (a : List Int) (x : Int) (g b : List Int) (w : World) (hr : Reads w w.heap.size 1 A n (a.map (.int .u64))) (hnc : n ≤ c) (ha : ∀ x ∈ a, (Lit.int .u64 x).wf = true)
    (hg : Reads w w.heap.size 1 G gn ((x :: g).map (.int .i64))) (hgx : ∀ y ∈ x :: g, (Lit.int .i64 y).wf = true) (hk : Reads w w.heap.size 1 K kn (b.map (.int .i64))) (hkx : ∀ x ∈ b, (Lit.int .i64 x).wf = true) (hT : TriOk a (x :: g) b) :
    Calls Try.prog 10 #[.agg #[.slice A n c, .slice G gn gc, .slice K kn kc]] w fun e w' => Below w.heap.size w w' ∧ ∃ (A1 : Option Addr) (c1 : Nat) (A2 : Option Addr) (c2 : Nat) (A3 : Option Addr) (c3 : Nat),
      e = .returned (.tuple #[.agg #[.slice A1 n c1, .slice A2 (stepG a g b x).length c2, .slice A3 (stepB b x).length c3], .bool true, .int .i64 0]) ∧ TriO w' w.heap.size A1 n c1 A2 (stepG a g b x).length c2 A3 (stepB b x).length c3 a (stepG a g b x) (stepB b x) := by
  obtain ⟨GG, hGG⟩ : ∃ GG, GG = stepG a g b x := ⟨_, rfl⟩
  obtain ⟨BB, hBB⟩ : ∃ BB, BB = stepB b x := ⟨_, rfl⟩
  obtain ⟨kb, hkb⟩ : ∃ kb, kb = BB.length := ⟨_, rfl⟩
  obtain ⟨km, hkm⟩ : ∃ km, km = GG.length := ⟨_, rfl⟩
  rw [← hGG, ← hBB, ← hkb, ← hkm]
  have HGG := Lib.hid hGG
  have HBB := Lib.hid hBB
  have HKB := Lib.hid hkb
  have HKM := Lib.hid hkm
  clear hGG hBB hkb hkm
  obtain ⟨l1, l2⟩ := hT.lens
  have h0 := (checkE_ok.1 hT.ok).1
  have hkl : b.length = kn := by have := hk.1; simpa using this
  have hal : a.length = n := by have := hr.1; simpa using this
  obtain ⟨m, hm⟩ : ∃ m, m = g.length := ⟨_, rfl⟩
  obtain rfl : gn = m + 1 := by have := hg.1; simp at this; omega
  simp only [List.length_cons] at l1
  have hn256 : n ≤ 256 := by omega
  have hm256 : m ≤ 256 := by omega
  have hk256 : kn ≤ 256 := by omega
  have hb0 := (below_new w (.cells #[.slice A n c, .slice G (m + 1) gc, .slice K kn kc] 25)).alloc (by simp) (.cells #[.slice none 0 0, .slice none 0 0, .slice none 0 0] 25)
  have DS := (Blk.new w 25 #[.slice A n c, .slice G (m + 1) gc, .slice K kn kc]).alloc (.cells #[.slice none 0 0, .slice none 0 0, .slice none 0 0] 25)
  have DR := Blk.new (w.alloc (.cells #[.slice A n c, .slice G (m + 1) gc, .slice K kn kc] 25)) 25 #[.slice none 0 0, .slice none 0 0, .slice none 0 0]
  rw [World.size_alloc] at DR
  obtain ⟨s0, s1, s2⟩ := DS.three
  have HC := Lib.hid (stepCheck_any A n c G (m + 1) gc K kn kc a (x :: g) b _ ((hr.below hb0).more hb0.size) hnc ha ((hg.below hb0).more hb0.size) hgx ((hk.below hb0).more hb0.size) hkx (by omega))
  have HCo := Lib.hid (fun w hr hg hk => stepCopied_any A n c G (m + 1) gc K kn kc a (x :: g) b w hr ha hg hgx hk hkx (by omega) (by omega) (by omega))
  have HT := Lib.hid hT
  have HA := Lib.hid ha
  have hxw := hgx x List.mem_cons_self
  have HGX := Lib.hid hgx
  have HXW := Lib.hid hxw
  have HKL := Lib.hid hkl
  have HML := Lib.hid hm
  have HBr := Lib.hid hT.br
  clear ha hkx hT hkl hal hgx hxw hm
  go_enter Try.func10, Try.ntmps10
  go_wp2_with fail
  refine HC.out.mono ?_
  rintro e w1 ⟨⟨E, rfl, hE⟩, hb1⟩
  obtain rfl := hE.2 HT.out
  have DR1 := DR.below hb1 DR.lt
  have DS1 := DS.below hb1 DS.lt
  have hb01 := below_step hb0 hb1
  obtain ⟨s0, s1, s2⟩ := DS1.three
  have f0 := DS1.frozen 0
  have HCo := Lib.hid (HCo.out w1 ((hr.below hb01).more hb01.size) ((hg.below hb01).more hb01.size) ((hk.below hb01).more hb01.size))
  clear hE hb1 HC hr hg hk hb0
  go_wp2_with fail
  refine HCo.out.mono ?_
  rintro e w2 ⟨hb2, A1, c1, A2, c2, A3, c3, rfl, hO⟩
  have DS2 := DS1.below hb2 DS1.lt
  have DR2 := DR1.below hb2 DR1.lt
  have f0 := DS2.frozen 0
  have f1 := DS2.frozen 1
  have f2 := DS2.frozen 2
  obtain ⟨u0, u1, u2⟩ := DS2.three
  have hb02 := below_step hb01 hb2
  obtain ⟨q, e0, e1⟩ : ∃ q, A2 = some ⟨q, 0, none⟩ ∧ w.heap.size ≤ q := by
    obtain ⟨q, cap, e⟩ := ownsRow_succ hO.g.1
    injection e with e
    exact ⟨q, e, by have := (hO.g.1.lt q (by rw [e]; rfl)).1; have := hb01.size; omega⟩
  subst e0
  have DS3 := DS2.store3 (.slice A1 n c1) (.slice (some ⟨q, 0, none⟩) (m + 1) c2) (.slice A3 kn c3)
  have DR3 := DR2.far3 (g' := w.heap.size) (by omega) (.slice A1 n c1) (.slice (some ⟨q, 0, none⟩) (m + 1) c2) (.slice A3 kn c3)
  have hb03 := below_block3 hb02 (Nat.le_refl _) (.slice A1 n c1) (.slice (some ⟨q, 0, none⟩) (m + 1) c2) (.slice A3 kn c3)
  have hO3 := ((hO.store DS2 (by decide) (by decide) (.slice A1 n c1) (.slice (some ⟨q, 0, none⟩) (m + 1) c2) (.slice A3 kn c3)).mono (base := w.heap.size) hb01.size)
  obtain ⟨W3, hW3⟩ : ∃ W3, W3 = (((w2.setCell ⟨w.heap.size, 0, none⟩ (.slice A1 n c1)).setCell ⟨w.heap.size, 1, none⟩ (.slice (some ⟨q, 0, none⟩) (m + 1) c2)).setCell ⟨w.heap.size, 2, none⟩ (.slice A3 kn c3)) := ⟨_, rfl⟩
  have hx3 := hO3.g.1.cells (g := q) rfl 0 (.int .i64 x) rfl
  rw [Addr.add_lit, Nat.add_zero] at hx3
  have p1 := DS3.three.2.1
  rw [← hW3] at DS3 DR3 hb03 hO3
  have HW3 := Lib.hid hW3
  have HDe := delete_oneT w.heap.size (some ⟨q, 0, none⟩) (m + 1) c2 0 (x :: g) W3 hO3.g HGX.out (by omega)
  simp only [Int.natCast_zero, Int.zero_add, List.take_zero, List.drop_succ_cons, List.drop_zero, List.nil_append, Nat.add_sub_cancel, Nat.zero_add] at HDe
  have HDe := Lib.hid HDe
  clear hO hb02 hb2 HCo hW3
  go_wp2_with fail
  rw [← HW3.out]
  refine HDe.out.mono ?_
  rintro e w4 ⟨rfl, hg4, hgr4⟩
  have hO4 := hO3.putG hg4 hgr4 (fun k hk => .inl hk)
  have DS4 := DS3.grown hgr4 (own_blk hO3.g.1 DS3 (by decide)).symm
  have DR4 := DR3.grown hgr4 (own_blk hO3.g.1 DR3 (by decide)).symm
  have hb04 := hb03.grown hgr4 hb03.size (fun k hk => (hO3.g.1.lt k hk).1)
  have f1 := DS4.frozen 1
  have v1 := DS4.three.2.1
  have hO5 := hO4.set DS4 (by decide) (by decide) 1 (.slice (some ⟨q, 0, none⟩) m c2)
  have DS5 : Blk (w4.setCell ⟨w.heap.size, 1, none⟩ (.slice (some ⟨q, 0, none⟩) m c2)) w.heap.size 25 #[.slice A1 n c1, .slice (some ⟨q, 0, none⟩) m c2, .slice A3 kn c3] := by simpa using DS4.set_ 1 (.slice (some ⟨q, 0, none⟩) m c2)
  have DR5 := DR4.far (p := ⟨w.heap.size, 1, none⟩) (by dsimp only; omega) (.slice (some ⟨q, 0, none⟩) m c2)
  have hb05 := hb04.setCell (p := ⟨w.heap.size, 1, none⟩) (Nat.le_refl _) (.slice (some ⟨q, 0, none⟩) m c2)
  obtain ⟨W5, hW5⟩ : ∃ W5, W5 = w4.setCell ⟨w.heap.size, 1, none⟩ (.slice (some ⟨q, 0, none⟩) m c2) := ⟨_, rfl⟩
  have q2 := DS5.three.2.2
  rw [← hW5] at DS5 DR5 hb05 hO5
  have HW5 := Lib.hid hW5
  have HPu := Lib.hid (stepPut_any w.heap.size A3 kn c3 b x W5 hO5.b hb05.size (by omega) HBr.out HXW.out)
  clear hW5 hO4 DS4 DR4 hb04 hg4 hgr4 HDe DS3 DR3 hO3 hb03
  go_wp2_with fail
  rw [← HW5.out]
  refine HPu.out.mono ?_
  rintro e w6 ⟨A6, c6, rfl, hp6, -, hgr6, hbl6⟩
  rw [show putL b x = BB from HBB.out.symm, ← HKB.out] at hp6 hbl6 ⊢
  have hO6 := hO5.putB hp6 hgr6 hbl6
  have DS6 := DS5.grown hgr6 (own_blk hO5.b.1 DS5 (by decide)).symm
  have DR6 := DR5.grown hgr6 (own_blk hO5.b.1 DR5 (by decide)).symm
  have hb06 := hb05.grown hgr6 hb05.size (fun k hk => (hO5.b.1.lt k hk).1)
  have f2 := DS6.frozen 2
  have v2 := DS6.three.2.2
  have hO7 := hO6.set DS6 (by decide) (by decide) 2 (.slice A6 kb c6)
  have DS7 : Blk (w6.setCell ⟨w.heap.size, 2, none⟩ (.slice A6 kb c6)) w.heap.size 25 #[.slice A1 n c1, .slice (some ⟨q, 0, none⟩) m c2, .slice A6 kb c6] := by simpa using DS6.set_ 2 (.slice A6 kb c6)
  have DR7 := DR6.far (p := ⟨w.heap.size, 2, none⟩) (by dsimp only; omega) (.slice A6 kb c6)
  have hb07 := hb06.setCell (p := ⟨w.heap.size, 2, none⟩) (Nat.le_refl _) (.slice A6 kb c6)
  obtain ⟨W7, hW7⟩ : ∃ W7, W7 = w6.setCell ⟨w.heap.size, 2, none⟩ (.slice A6 kb c6) := ⟨_, rfl⟩
  have HW7 := Lib.hid hW7
  have t0 := DS7.three.1
  rw [← hW7] at DS7 DR7 hb07 hO7
  clear hO6 DS6 DR6 hb06 hp6 hgr6 hbl6 HPu DS5 DR5 hO5 hb05 hW7
  have hxB : x ∈ begsL (spotsL a) := HT.out.gb x List.mem_cons_self
  obtain ⟨s, hs⟩ := begsL_iff.1 hxB
  have e1' : headF (spotsL a) x = some (headC s) := by unfold headF; rw [hs]; rfl
  obtain ⟨hsS, -, hsl⟩ := spotAt_some hs
  have hok := (parse_mem (parse_ok h0).2 s hsS).1
  have hlk : linksAt a (spotsL a) x = linksL a s := by unfold linksAt; rw [hs]
  have hbd : ∀ v ∈ refsOf a s, v = 0 ∨ 1 ≤ v ∧ v ≤ 256 := fun v hv => by
    by_cases hv0 : v = 0
    · exact .inl hv0
    · have h1 : v - 1 ∈ linksL a s := List.mem_map.2 ⟨v, List.mem_filter.2 ⟨hv, by simpa using hv0⟩, rfl⟩
      have := begsL_bounds h0 _ (links_begs HT.out.ok hsS _ h1)
      exact .inr (by omega)
  have hlinks : ∀ y ∈ linksL a s, (Lit.int .i64 y).wf = true := fun y hy => by
    have := begsL_bounds h0 y (links_begs HT.out.ok hsS y hy)
    simp [Lit.wf, IntKind.min, IntKind.max, IntKind.signed, IntKind.bits]; omega
  have hlen : (linksL a s).length ≤ 256 := by
    have h1 : (linksL a s).length ≤ (refsOf a s).length := by
      unfold linksL
      rw [List.length_map]
      exact List.length_filter_le _ _
    have h2 := refsOf_length hok
    have h3 := hok.fits
    have h4 := hok.loc0
    have h5 := hok.b0
    unfold Spot.long at h3
    omega
  have hnc1 := own_cap hO7.a.1
  have HOb := Lib.hid (fun w hr => stepObjects_any A1 n c1 a w hr HA.out h0)
  have HN := fun w hr => stepNamed_any A1 n c1 a s s.f w hr hnc1 hn256 hok hbd
  rw [hsl] at HN
  have HE1 := Lib.hid e1'
  have HLK := Lib.hid hlk
  have HLW := Lib.hid hlinks
  have hSG : Hid (GG = (linksL a s).foldl (greyL BB) g) := by show _ = _; rw [HGG.out, HBB.out]; unfold stepG; rw [hlk]
  have HFall := Lib.hid (fun M => greyF (b := BB) M g (List.pairwise_cons.1 HT.out.gr).2)
  have hGL : ∀ M : List Int, M.length ≤ 256 → (M.foldl (greyL BB) g).length ≤ 600 := fun M hM => by
    have : ∀ (M : List Int) (l : List Int), (M.foldl (greyL BB) l).length ≤ l.length + M.length := by
      intro M
      induction M with
      | nil => intro l; simp
      | cons y t ih =>
        intro l
        have h1 := ih (greyL BB l y)
        have h2 : (greyL BB l y).length ≤ l.length + 1 := by
          unfold greyL
          split
          · omega
          · rw [insL_length]; exact Nat.le_refl _
        simp only [List.foldl_cons, List.length_cons]
        omega
    have h1 := this M g
    have := HML.out
    omega
  have HGL := Lib.hid hGL
  have HGr := Lib.hid (List.pairwise_cons.1 HT.out.gr).2
  generalize linksL a s = L at *
  obtain ⟨loc, r, bb, tg, fr⟩ := s
  dsimp only at HN
  have HN := Lib.hid HN
  have hkb256 : kb ≤ 300 := by
    have h1 := (step_ok HT.out).2.1
    have h2 := HKB.out
    rw [← HBB.out] at h1
    have h3 := HKL.out
    omega
  clear hs hsS hsl hok hlk hbd hlinks e1' hxB hGL
  go_upto_region 10 with fail
  rw [← HW7.out]
  go_cut [43, 44, 45] from 35 to 42 (fun s43 s44 s45 wc => ∃ A8 c8, s43 = .slice A8 L.length c8 ∧ s44 = .int .i64 L.length ∧ s45 = .int .i64 0 ∧ wc.ownsRow W7.heap.size 3 1 (.slice A8 L.length c8) L.length (L.map (.int .i64)) ∧ Below W7.heap.size W7 wc)
  case first =>
    obtain ⟨d0, d1, d2⟩ := DS7.drew.three
    have hbz := (Below.refl W7.heap.size W7).drew
    have hrA := (Reads.of_own hO7.a.1).below hbz
    go_region_held3 (fun w' => w'.cell? ⟨w.heap.size, 0, none⟩ = some (.slice A1 n c1)) (go_keep)
      (first
        | (go_at_call 40; (with_reducible refine (HOb.out _ hrA).mono ?_); rintro e wz ⟨bm, rfl, hbm, hM, hby⟩; have hbz := hbz.trans hby; have hlook := hM.look (k := 3) (t := 79) Try.underlying3 Try.underlying79 (zero_head _) HXW.out; rw [HE1.out] at hlook; have hlook2 : (Instr.lookup 79 (.map (some bm)) (.int .i64 x) false).run Try.prog wz = .ok (.agg #[.int .i64 r, .int .i64 bb, .int .i64 tg, .bool fr]) wz := hlook; clear hlook hby; have DS8 := DS7.below hbz DS7.lt; obtain ⟨d0, d1, d2⟩ := DS8.three)
        | (go_at_call 39; have hrN := ((Reads.of_own hO7.a.1).below hbz).more hbz.size; refine (HN.out _ hrN).mono ?_; rintro e wy ⟨hby, A8, c8, rfl, hown8⟩; have hbw := hbz.trans (hby.mono hbz.size); have hown9 := own_mono hown8 hbz.size; clear hby hown8; have DS8 := DS7.below hbw DS7.lt; obtain ⟨d0, d1, d2⟩ := DS8.three))
    all_goals
      go_wp2_with fail
      go_meet
      exact ⟨_, _, rfl, rfl, rfl, hown9, hbw⟩
  case rest =>
    obtain ⟨A8, c8, rfl, rfl, rfl, hown8, hb8⟩ := hcut
    have hO8 := hO7.below hb8
    have DS8 := DS7.below hb8 DS7.lt
    have DR8 := DR7.below hb8 DR7.lt
    have hb08 := below_step hb07 hb8
    have hwS := hb07.size
    have HOW := Lib.hid hown8
    have HAp : Hid (∀ k, (Value.slice (some ⟨q, 0, none⟩) m c2).ownBlock = some k → (Value.slice A8 L.length c8).ownBlock ≠ some k) := fun k h1 h2 => by
      have h3 := (hO7.g.1.lt k h1).2
      have h4 := (hown8.lt k h2).1
      omega
    have HLL := Lib.hid hlen
    clear hO7 DS7 DR7 hb07 hb8 hown8
    go_wp2
    go_loopw [8, 45] (fun _ i wr => ∃ (j : Nat) (G' : Option Addr) (gn' gc' : Nat), j ≤ L.length ∧ i = .int .i64 j ∧ Hid (gn' = ((L.take j).foldl (greyL BB) g).length) ∧ TriO wr w.heap.size A1 n c1 G' gn' gc' A6 kb c6 a ((L.take j).foldl (greyL BB) g) BB ∧
        Blk wr w.heap.size 25 #[.slice A1 n c1, .slice G' gn' gc', .slice A6 kb c6] ∧ Blk wr (w.heap.size + 1) 25 #[.slice none 0 0, .slice none 0 0, .slice none 0 0] ∧ Below w.heap.size w wr ∧ wr.ownsRow w.heap.size 3 1 (.slice A8 L.length c8) L.length (L.map (.int .i64)) ∧ Hid (∀ k, (Value.slice G' gn' gc').ownBlock = some k → (Value.slice A8 L.length c8).ownBlock ≠ some k)) (fun _ i _ => L.length - (intOf i).toNat)
    case atStart => exact ⟨0, some ⟨q, 0, none⟩, m, c2, Nat.zero_le _, rfl, HML.out, hO8, DS8, DR8, hb08, own_mono HOW.out hwS, HAp⟩
    case round =>
      obtain ⟨j, G', gn', gc', hj, rfl, HGN, hO, DS, DR, hb, hL, HApr⟩ := hrel
      obtain ⟨d0, d1, d2⟩ := DS.three
      have hws := hb.size
      have hdl := DS.lt
      by_cases hlt : j < L.length
      · obtain ⟨ad, y, rfl, had, hy, cy⟩ := (Reads.of_own hL).num hlt
        have hyw := HLW.out y (List.mem_of_getElem? hy)
        have HT2 : Hid ((L.take (j + 1)).foldl (greyL BB) g = greyL BB ((L.take j).foldl (greyL BB) g) y) := by
          show _ = _
          obtain ⟨h1, rfl⟩ := List.getElem?_eq_some_iff.1 hy
          rw [List.take_succ_eq_append_getElem h1, List.foldl_append]
          rfl
        have hgl6 := HGL.out (L.take j) (by rw [List.length_take]; have := HLL.out; omega)
        have HRise := Lib.hid (HFall.out (L.take j)).1
        have hgn6 : gn' ≤ 600 := by rw [HGN.out]; exact hgl6
        have hj1 : j + 1 ≤ L.length := hlt
        have HJ1 := Lib.hid hj1
        have hjL : j < 300 := by have := HLL.out; omega
        have HYW := Lib.hid hyw
        generalize (L.take j).foldl (greyL BB) g = gl at *
        clear hy hgl6 hyw
        by_cases hwh : y ∈ gl ∨ y ∈ BB
        · have HW := Lib.hid (stepWhite_any A1 n c1 G' gn' gc' A6 kb c6 wr.heap.size gl BB y wr (Reads.of_own hO.g.1) (Reads.of_own hO.b.1) (by omega) (by omega) (Nat.le_refl _) false (by
            rcases hwh with h | h <;> simp [h]))
          have HS : Hid (greyL BB gl y = gl) := by show _ = _; unfold greyL; rw [if_pos hwh]
          have HO := Lib.hid hO
          have HL := Lib.hid hL
          clear hO hL hwh
          go_wp2_with fail
          refine HW.out.mono ?_
          rintro e w9 ⟨rfl, hb9⟩
          go_wp2
          go_roundw
          case rel => exact ⟨j + 1, G', gn', gc', HJ1.out, by go_num, by rw [HT2.out, HS.out]; exact HGN.out, by rw [HT2.out, HS.out]; exact HO.out.below hb9, DS.below hb9 DS.lt, DR.below hb9 DR.lt, below_step hb hb9, own_below HL.out hb9, HApr⟩
          case measure => simp [intOf]; omega
        · have HW := Lib.hid (stepWhite_any A1 n c1 G' gn' gc' A6 kb c6 wr.heap.size gl BB y wr (Reads.of_own hO.g.1) (Reads.of_own hO.b.1) (by omega) (by omega) (Nat.le_refl _) true (by
            have h1 : y ∉ gl := fun h => hwh (.inl h)
            have h2 : y ∉ BB := fun h => hwh (.inr h)
            simp [h1, h2]))
          have HS : Hid (greyL BB gl y = putL gl y) := by show _ = _; exact greyL_put BB gl y (fun h => hwh (.inr h))
          have HO := Lib.hid hO
          have HL := Lib.hid hL
          clear hO hL hwh
          go_wp2_with fail
          refine HW.out.mono ?_
          rintro e w9 ⟨rfl, hb9⟩
          have DS9 := DS.below hb9 DS.lt
          have DR9 := DR.below hb9 DR.lt
          have hO9 := HO.out.below hb9
          have hb09 := below_step hb hb9
          obtain ⟨e0, e1, e2⟩ := DS9.three
          have HP := Lib.hid (stepPut_any w.heap.size G' gn' gc' gl y w9 hO9.g hb09.size (by omega) HRise.out HYW.out)
          have HO9 := Lib.hid hO9
          have HL9 := Lib.hid (own_below HL.out hb9)
          clear hO9 HW hb9
          go_wp2_with fail
          refine HP.out.mono ?_
          rintro e w10 ⟨A11, c11, rfl, hp, -, hgr, hbl⟩
          have hO10 := HO9.out.putG hp hgr hbl
          have DS10 := DS9.grown hgr (own_blk HO9.out.g.1 DS9 (by decide)).symm
          have DR10 := DR9.grown hgr (own_blk HO9.out.g.1 DR9 (by decide)).symm
          have hb10 := hb09.grown hgr hb09.size (fun k hk => (HO9.out.g.1.lt k hk).1)
          have HL10 := Lib.hid (own_grown HL9.out hgr (fun k h1 h2 => HApr.out k h2 h1))
          have HAp2 : Hid (∀ k, (Value.slice A11 (putL gl y).length c11).ownBlock = some k → (Value.slice (some ad) L.length c8).ownBlock ≠ some k) := fun k h1 h2 => by
            rcases hbl k h1 with h3 | h3
            · exact HApr.out k h3 h2
            · have := (HL9.out.lt k h2).2; omega
          obtain ⟨gz, hgz⟩ : ∃ gz, gz = (putL gl y).length := ⟨_, rfl⟩
          rw [← hgz] at hO10 HAp2 ⊢
          have HGZ : Hid (gz = ((L.take (j + 1)).foldl (greyL BB) g).length) := by show _ = _; rw [HT2.out, HS.out]; exact hgz
          have hO11 := hO10.set DS10 (by decide) (by decide) 1 (.slice A11 gz c11)
          have DS11 : Blk (w10.setCell ⟨w.heap.size, 1, none⟩ (.slice A11 gz c11)) w.heap.size 25 #[.slice A1 n c1, .slice A11 gz c11, .slice A6 kb c6] := by simpa using DS10.set_ 1 (.slice A11 gz c11)
          have DR11 := DR10.far (p := ⟨w.heap.size, 1, none⟩) (by dsimp only; omega) (.slice A11 gz c11)
          have hb11 := hb10.setCell (p := ⟨w.heap.size, 1, none⟩) (Nat.le_refl _) (.slice A11 gz c11)
          have HL11 := Lib.hid (own_apart HL10.out (p := ⟨w.heap.size, 1, none⟩) (own_blk HL10.out DS10 (by decide)) (.slice A11 gz c11))
          have HO11 : Hid (TriO (w10.setCell ⟨w.heap.size, 1, none⟩ (.slice A11 gz c11)) w.heap.size A1 n c1 A11 gz c11 A6 kb c6 a ((L.take (j + 1)).foldl (greyL BB) g) BB) := by
            show TriO _ _ _ _ _ _ _ _ _ _ _ _ _ _
            rw [HT2.out, HS.out]
            exact hO11
          have f1 := DS10.frozen 1
          have v1 := DS10.three.2.1
          clear hO10 hO11 hp hgr hbl HP hgz
          go_wp2
          go_roundw
          case rel => exact ⟨j + 1, A11, gz, c11, HJ1.out, by go_num, HGZ, HO11.out, DS11, DR11, hb11, HL11.out, HAp2⟩
          case measure => simp [intOf]; omega
      · have hjm : j = L.length := by omega
        rw [hjm, List.take_of_length_le (Nat.le_refl _)] at HGN hO
        have hO' : TriO wr w.heap.size A1 n c1 G' km gc' A6 kb c6 a GG BB := by
          rw [hSG.out, HKM.out, hSG.out, ← HGN.out]
          exact hO
        have hgk : gn' = km := by rw [HGN.out, HKM.out, hSG.out]
        subst hgk
        have g0 : decide (j < L.length) = false := decide_eq_false hlt
        have f0 := DR.frozen 0
        have f1 := DR.frozen 1
        have f2 := DR.frozen 2
        obtain ⟨r0, r1, r2⟩ := DR.three
        have HOf := Lib.hid (hO'.store DR (by decide) (by decide) (.slice A1 n c1) (.slice G' gn' gc') (.slice A6 kb c6))
        have HBf := Lib.hid (below_block3 (g := w.heap.size + 1) hb (Nat.le_succ _) (.slice A1 n c1) (.slice G' gn' gc') (.slice A6 kb c6))
        have HZf := Lib.hid (DR.store3 (.slice A1 n c1) (.slice G' gn' gc') (.slice A6 kb c6)).three
        clear hO hO' hjm hL HGN
        go_wp2
        refine bodyPost_ret (v := .tuple #[.agg #[.slice A1 n c1, .slice G' gn' gc', .slice A6 kb c6], .bool true, .int .i64 0]) ?_ rfl ⟨HBf.out, A1, c1, G', gc', A6, c6, rfl, HOf.out⟩
        obtain ⟨z0, z1, z2⟩ := HZf.out
        simp only [results, Try.results10]
        go_simp
end Go.Proofs.Ytgkoaambdejkdaa

namespace Go.Proofs.Ytgkoaambdejkdaa
open Go.RowKit
def onceL (f : List Int) : List Int := Lib.compact (sortL f)
theorem onceL_mem {f : List Int} {x : Int} : x ∈ onceL f ↔ x ∈ f := by unfold onceL; rw [compact_mem, sortL_mem]
theorem onceL_rise (f : List Int) : (onceL f).Pairwise (fun x y => x < y) := compact_strict (sortL_sorted f)
theorem start_tri {a f : List Int} (h : checkE a = 0) (hf : ∀ x ∈ f, x ∈ begsL (spotsL a)) : TriOk a (onceL f) [] ∧ From a (onceL f) [] f ∧ Least a (onceL f) [] f :=
  ⟨⟨h, onceL_rise f, List.Pairwise.nil, fun x hx => hf x (onceL_mem.1 hx), by simp, by simp, by simp⟩, ⟨fun x hx => .inl (onceL_mem.2 hx)⟩, fun X hX _ x hx => hX x (hx.elim (fun h => onceL_mem.1 h) (fun h => by simp at h))⟩
set_option maxRecDepth 100000 in
set_option maxHeartbeats 1000000 in
theorem stepStart_bad (A : Option Addr) (n c : Nat) (a : List Int) (A2 : Option Addr) (n2 c2 : Nat) (w : World) (hr : Reads w w.heap.size 1 A n (a.map (.int .u64))) (hnc : n ≤ c) (ha : ∀ x ∈ a, (Lit.int .u64 x).wf = true) (hE : checkE a ≠ 0) :
    Calls Try.prog 15 #[.slice A n c, .slice A2 n2 c2] w fun e w' => Below w.heap.size w w' ∧ ∃ E, E ≠ 0 ∧ e = .returned (.tuple #[.agg #[.slice none 0 0, .slice none 0 0, .slice none 0 0], .int .i64 E]) := by
  have hb0 := below_new w (.cells #[.slice none 0 0, .slice none 0 0, .slice none 0 0] 25)
  have DR := Blk.new w 25 #[.slice none 0 0, .slice none 0 0, .slice none 0 0]
  have H := Lib.hid (reach_bad A n c a A2 n2 c2 _ ((hr.below hb0).more hb0.size) hnc ha hE)
  have hE1 : (checkE a != 0) = true := by simpa using hE
  have HE : Hid (checkE a ≠ 0) := hE
  generalize checkE a = E at *
  clear hE hr
  go_enter Try.func15, Try.ntmps15
  go_wp2_with fail
  refine H.out.mono ?_
  rintro e w1 ⟨rfl, hb1⟩
  have DR1 := DR.below hb1 DR.lt
  have f0 := DR1.frozen 0
  have f1 := DR1.frozen 1
  have f2 := DR1.frozen 2
  obtain ⟨r0, r1, r2⟩ := DR1.three
  have hbb := below_step hb0 hb1
  clear hb1
  go_wp2
  refine bodyPost_ret (v := .tuple #[.agg #[.slice none 0 0, .slice none 0 0, .slice none 0 0], .int .i64 E]) ?_ rfl ⟨below_block3 hbb (Nat.le_refl _) _ _ _, E, HE.out, rfl⟩
  obtain ⟨z0, z1, z2⟩ := (DR1.store3 (.slice none 0 0) (.slice none 0 0) (.slice none 0 0)).three
  simp only [results, Try.results15]
  go_simp
set_option maxRecDepth 100000 in
set_option maxHeartbeats 2000000 in
theorem stepStart_ok (A : Option Addr) (n c : Nat) (a : List Int) (A2 : Option Addr) (n2 c2 : Nat) (f : List Int) (w : World) (hr : Reads w w.heap.size 1 A n (a.map (.int .u64))) (hnc : n ≤ c) (ha : ∀ x ∈ a, (Lit.int .u64 x).wf = true)
    (hr2 : Reads w w.heap.size 1 A2 n2 (f.map (.int .i64))) (hn2 : n2 * 8 ≤ 140737488355328) (hx2 : ∀ x ∈ f, (Lit.int .i64 x).wf = true) (hE : checkE a = 0) :
    Calls Try.prog 15 #[.slice A n c, .slice A2 n2 c2] w fun e w' => Below w.heap.size w w' ∧
      (((∀ x ∈ f, x ∈ begsL (spotsL a)) ∧ ∃ (A1 : Option Addr) (c1 : Nat) (G : Option Addr) (gc : Nat), e = .returned (.tuple #[.agg #[.slice A1 n c1, .slice G (onceL f).length gc, .slice none 0 0], .int .i64 0]) ∧ TriO w' w.heap.size A1 n c1 G (onceL f).length gc none 0 0 a (onceL f) []) ∨
       (∃ x ∈ f, x ∉ begsL (spotsL a)) ∧ e = .returned (.tuple #[.agg #[.slice none 0 0, .slice none 0 0, .slice none 0 0], .int .i64 5])) := by
  have hal : a.length = n := by have := hr.1; simpa using this
  have hn : n ≤ 256 := by have := (parse_ok (checkE_ok.1 hE).1).1; omega
  have hb0 := below_new w (.cells #[.slice none 0 0, .slice none 0 0, .slice none 0 0] 25)
  have DR := Blk.new w 25 #[.slice none 0 0, .slice none 0 0, .slice none 0 0]
  have H := Lib.hid (reach_ok A n c a A2 n2 c2 f _ ((hr.below hb0).more hb0.size) hnc ha ((hr2.below hb0).more hb0.size) (by omega) hx2 hE)
  have HCl := Lib.hid (fun W r hB => clone_u64T A n c w.heap.size (a.map (.int .u64)) W r hB (u64s_one _) (nums_num ha 1) (by omega))
  have HX := Lib.hid hx2
  clear ha hx2 hal
  go_enter Try.func15, Try.ntmps15
  go_wp2_with fail
  refine H.out.mono ?_
  rintro e w1 ⟨hb1, ⟨L, A', c', hL, rfl, -⟩ | ⟨hex, rfl⟩⟩
  · have HLr := Lib.hid hL.roots
    have HLb := Lib.hid hL.begs
    have hb01 := below_step hb0 hb1
    have DR1 := DR.below hb1 DR.lt
    have HC1 := Lib.hid (HCl.out w1 (hr.below hb01) hb01.size)
    generalize L.length = ln
    clear hL hb1 H hb0
    go_wp2_with fail
    refine HC1.out.mono ?_
    rintro e w2 ⟨A1, c1, rfl, hO1, hb2⟩
    have hb02 := below_step hb01 hb2
    have DR2 := DR1.below hb2 DR1.lt
    have HO1 := Lib.hid (hO1.mono hb01.size)
    have HV := Lib.hid (values_any A2 n2 c2 w2)
    clear hO1 hb2 HC1
    go_wp2_with fail
    refine HV.out.mono ?_
    rintro e w3 ⟨rfl, rfl⟩
    have hb03 := below_step hb02 (below_new w2 (.cells #[.slice A2 n2 c2] 23))
    have HSo := Lib.hid (sorted_any w2.heap.size w.heap.size A2 n2 c2 f hn2 HX.out (w2.alloc (.cells #[.slice A2 n2 c2] 23)) (by simp) (by have := hb02.size; simp; omega) ((Blk.new w2 23 #[.slice A2 n2 c2]).cell 0) (hr2.below hb03))
    clear HV
    go_wp2_with fail
    refine HSo.out.mono ?_
    rintro e w4 ⟨A5, c5, rfl, hO5, hb5⟩
    have hb04 := below_step hb03 hb5
    have DR4 := (DR2.alloc (.cells #[.slice A2 n2 c2] 23)).below hb5 (DR2.alloc (.cells #[.slice A2 n2 c2] 23)).lt
    have HO4 := Lib.hid ((HO1.out.alloc (.cells #[.slice A2 n2 c2] 23)).below hb5)
    have HCp := Lib.hid (compact_intT _ A5 n2 c5 (sortL f) w4 hO5 (fun x hx => HX.out x (sortL_mem.1 hx)) hn2)
    have HO5 := Lib.hid hO5
    clear hO5 hb5 hb03 HSo
    go_wp2_with fail
    refine HCp.out.mono ?_
    rintro e w5 ⟨rfl, hO6, hg6⟩
    have DR5 := DR4.grown hg6 (own_blk HO5.out.1 DR4 (by decide)).symm
    have hsz2 := hb02.size
    have hb05 := hb04.grown hg6 hb04.size (fun k hk => by have := (HO5.out.1.lt k hk).1; simp at this; omega)
    have hO1 := HO4.out.kept hg6 (by
      cases hk : (Value.slice A5 n2 c5).ownBlock with
      | none => cases ha : (Value.slice A1 n c1).ownBlock with
        | none => exact .inl rfl
        | some _ => exact .inr (by simp)
      | some k => exact .inr (own_kinds HO5.out.1 HO4.out.1 (by decide) hk))
    rw [show Lib.compact (sortL f) = onceL f from rfl] at hO6 ⊢
    have hO : TriO w5 w.heap.size A1 n c1 A5 (onceL f).length c5 none 0 0 a (onceL f) [] := ⟨hO1, hO6.mono (by simp; omega), OwnT.nil _ _ _ _ _, fun k _ h => by simp [Value.ownBlock] at h⟩
    obtain ⟨gz, hgz⟩ : ∃ gz, gz = (onceL f).length := ⟨_, rfl⟩
    rw [← hgz] at hO ⊢
    have HGZ := Lib.hid hgz
    have f0 := DR5.frozen 0
    have f1 := DR5.frozen 1
    have f2 := DR5.frozen 2
    obtain ⟨r0, r1, r2⟩ := DR5.three
    have HOf := Lib.hid (hO.store DR5 (by decide) (by decide) (.slice A1 n c1) (.slice A5 gz c5) (.slice none 0 0))
    have HBf := Lib.hid (below_block3 (g := w.heap.size) hb05 (Nat.le_refl _) (.slice A1 n c1) (.slice A5 gz c5) (.slice none 0 0))
    have HZf := Lib.hid (DR5.store3 (.slice A1 n c1) (.slice A5 gz c5) (.slice none 0 0)).three
    clear hO hO1 hO6 hgz hg6
    go_wp2
    refine bodyPost_ret (v := .tuple #[.agg #[.slice A1 n c1, .slice A5 gz c5, .slice none 0 0], .int .i64 0]) ?_ rfl ⟨HBf.out, .inl ⟨fun x hx => HLb.out x (HLr.out x hx), A1, c1, A5, c5, by rw [← HGZ.out], by rw [← HGZ.out]; exact HOf.out⟩⟩
    obtain ⟨z0, z1, z2⟩ := HZf.out
    simp only [results, Try.results15]
    go_simp
  · have HEX := Lib.hid hex
    have DR1 := DR.below hb1 DR.lt
    have f0 := DR1.frozen 0
    have f1 := DR1.frozen 1
    have f2 := DR1.frozen 2
    obtain ⟨r0, r1, r2⟩ := DR1.three
    have hbb := below_step hb0 hb1
    clear hb1 hex
    go_wp2
    refine bodyPost_ret (v := .tuple #[.agg #[.slice none 0 0, .slice none 0 0, .slice none 0 0], .int .i64 5]) ?_ rfl ⟨below_block3 hbb (Nat.le_refl _) _ _ _, .inr ⟨HEX.out, rfl⟩⟩
    obtain ⟨z0, z1, z2⟩ := (DR1.store3 (.slice none 0 0) (.slice none 0 0) (.slice none 0 0)).three
    simp only [results, Try.results15]
    go_simp
end Go.Proofs.Ytgkoaambdejkdaa

namespace Go.Proofs.Ytgkoaambdejkdaa
open Go.RowKit Go.Maps
def RangeSt (w : World) (P : Program) (k : TypeId) (q : IntKind) (b r n : Nat) (f : Int → Option Value) (done : List Int) (cnt : Nat) : Prop :=
  ∃ (D : DataW Value) (left : Lit → Bool), w.ranges P k (fun v => some (.held v, [])) b r n D left cnt ∧ (∀ x, (Lit.int q x).wf = true → Maps.has D (.int q x) = (f x).isSome ∧ ∀ z, D.atKey (.int q x) (.held z) = .held ((f x).getD z)) ∧
    (∀ x, (Lit.int q x).wf = true → left (.int q x) = ((f x).isSome && !decide (x ∈ done))) ∧ done.Nodup ∧ ∀ x ∈ done, (Lit.int q x).wf = true ∧ (f x).isSome = true
section
variable {P : Program} {w : World} {k : TypeId} {q : IntKind} {b r n cnt : Nat} {f : Int → Option Value} {done : List Int}
theorem RangeSt.kept {w' : World} {row : Option Nat} (h : RangeSt w P k q b r n f done cnt) (hg : w.grownBy w' row) (hb : some b ≠ row) (hr : some r ≠ row) : RangeSt w' P k q b r n f done cnt := by
  obtain ⟨D, left, h1, h2⟩ := h
  exact ⟨D, left, h1.kept hg hb hr, h2⟩
theorem RangeSt.alloc (h : RangeSt w P k q b r n f done cnt) (o : Obj) : RangeSt (w.alloc o) P k q b r n f done cnt := by
  obtain ⟨D, left, h1, h2⟩ := h
  exact ⟨D, left, h1.alloc o, h2⟩
theorem RangeSt.left_eq (h : RangeSt w P k q b r n f done cnt) : w.rangeLeft b r = cnt := by
  obtain ⟨D, left, h1, h2⟩ := h
  exact h1.left_eq
theorem RangeSt.lt (h : RangeSt w P k q b r n f done cnt) : r < w.heap.size ∧ b < w.heap.size := by
  obtain ⟨D, left, h1, h2⟩ := h
  exact ⟨h1.lt, h1.owns.lt⟩
theorem RangeSt.below {w' : World} (h : RangeSt w P k q b r n f done cnt) (hb : Below w.heap.size w w') : RangeSt w' P k q b r n f done cnt :=
  h.kept (row := none) ⟨hb.os, hb.tape, hb.output, hb.size, fun i hi _ => hb.block i hi⟩ (by simp) (by simp)
theorem RangeSt.ne_row {base e size m : _} {v : Value} {xs : List Value} (h : RangeSt w P k q b r n f done cnt) (ho : w.ownsRow base e size v m xs) : some b ≠ v.ownBlock ∧ some r ≠ v.ownBlock := by
  obtain ⟨D, left, h1, h2⟩ := h
  obtain ⟨es, clock, since, seen, c0, hb, -, -, -, hr, -⟩ := h1
  rcases ho.2 with ⟨rfl, _⟩ | ⟨g, cap, cur, rfl, _, hg, _⟩
  · simp [Value.ownBlock]
  · refine ⟨fun e => ?_, fun e => ?_⟩
    · simp only [Value.ownBlock, Option.some.injEq] at e
      rw [e, hg] at hb
      cases hb
    · simp only [Value.ownBlock, Option.some.injEq] at e
      rw [e, hg] at hr
      cases hr
theorem sameKey_int (q : IntKind) (x y : Int) : (Lit.int q y).sameKey (.int q x) = decide (y = x) := by
  simp [Lit.sameKey]
end
section
variable {P : Program} (w : World) {ops : Array Oper} {rest : List Oper} {o : Oper} {a : Act} {Q : Exit → Act → World → Prop}
theorem wpList_range_is (hg : o.guard = none) (m : Operand) (t : TypeId) (hop : o.op = Op.range t m) (k e : TypeId) (q : IntKind) (hk : P.underlying k = some (.int q)) (ht : P.underlying t = some (.map k e)) (b n : Nat) (f : Int → Option Value)
    (hm : a.eval m = .map (some b)) (h : MapIs w P k q b n f)
    (hK : ∀ w' cnt, RangeSt w' P k q b w.heap.size n f [] cnt → w.grownBy w' none → w'.heap.size = w.heap.size + 1 → wpList P ops Q rest (a.put o.dst (.pointer (some ⟨w.heap.size, 0, none⟩))) w') :
    wpList P ops Q (o :: rest) a w := by
  obtain ⟨D, h1, h2⟩ := h
  refine wpList_range_own w hg m t hop k e (int_keyed hk) ht _ b n D hm h1 (fun w' r1 r2 r3 => hK w' _ ⟨D, _, r1, h2, fun x hx => ?_, List.nodup_nil, by simp⟩ r2 r3)
  rw [(h2 x hx).1]
  simp
theorem wpList_next_is (hg : o.guard = none) (it : Operand) (hop : o.op = Op.next it false) (k : TypeId) (q : IntKind) (hk : P.underlying k = some (.int q)) (b r n : Nat) (f : Int → Option Value) (done : List Int) (cnt : Nat)
    (hit : a.eval it = .pointer (some ⟨r, 0, none⟩)) (h : RangeSt w P k q b r n f done cnt)
    (hDone : (∀ x, (Lit.int q x).wf = true → (f x).isSome = true → x ∈ done) → wpList P ops Q rest (a.put o.dst (.tuple #[.bool false])) w)
    (hMore : ∀ (x : Int) (c : Value) (w' : World) (cnt' : Nat), (Lit.int q x).wf = true → f x = some c → x ∉ done → RangeSt w' P k q b r n f (done ++ [x]) cnt' → cnt' < cnt →
      w.grownBy w' (some r) → w'.heap.size = w.heap.size → (Instr.entry (.pointer (some ⟨r, 0, none⟩))).run P w' = .ok (.tuple #[.int q x, c]) w' → wpList P ops Q rest (a.put o.dst (.tuple #[.bool true, .int q x, c])) w') :
    wpList P ops Q (o :: rest) a w := by
  obtain ⟨D, left, h1, h2, h3, h4, h5⟩ := h
  refine wpList_next_ranges w hg it hop k (int_keyed hk) _ (Value.int q) id (fun key kl hkey => by obtain ⟨x, rfl, _⟩ := Maps.keyOf_int_inv hk hkey; exact ⟨x, rfl⟩) (fun v _ _ => ⟨v, rfl⟩) b r n D left cnt hit h1 (fun _ hl => hDone (fun x hx hs => ?_)) ?_
  · have := h3 x hx
    rw [hl, hs] at this
    simpa using this.symm
  · intro x c kl y w' cnt' hkey hlk hv hat hrg hlt hgr hsz hen
    obtain ⟨x', ex, rfl, hwx⟩ := Maps.keyOf_int_inv hk hkey
    cases ex
    simp only [id, Option.some.injEq] at hv
    subst hv
    have hl := h3 x hwx
    rw [hlk] at hl
    have hl : (f x).isSome = true ∧ x ∉ done := by simpa using hl.symm
    have hc : f x = some c := by
      have := (h2 x hwx).2 (.bool false)
      rw [hat] at this
      obtain ⟨v, hv⟩ := Option.isSome_iff_exists.1 hl.1
      rw [hv] at this ⊢
      simp only [Option.getD_some, DataW.held.injEq] at this
      rw [this]
    refine hMore x c w' cnt' hwx hc hl.2 ⟨D, _, hrg, h2, fun y hy => ?_, ?_, ?_⟩ hlt hgr hsz hen
    · rw [h3 y hy, sameKey_int]
      by_cases hyx : y = x <;> by_cases hyd : y ∈ done <;> simp [hyx, hyd]
    · exact List.nodup_append.2 ⟨h4, by simp, by rintro a ha b hb rfl; simp at hb; subst hb; exact hl.2 ha⟩
    · intro y hy
      rcases List.mem_append.1 hy with h | h
      · exact h5 y h
      · rw [List.mem_singleton] at h; subst h; exact ⟨hwx, hl.1⟩
end
end Go.Proofs.Ytgkoaambdejkdaa

namespace Go.Proofs.Ytgkoaambdejkdaa
open Go.RowKit
def whiteL (a b : List Int) : List Int := (begsL (spotsL a)).filter fun x => !decide (x ∈ b)
theorem begsL_rise {a : List Int} (h : spotsE a = 0) : (begsL (spotsL a)).Pairwise (fun x y => x < y) := by
  have h1 := spots_rise h
  unfold begsL
  rw [List.pairwise_map]
  exact h1.sublist List.filter_sublist
theorem collected_white {a b done : List Int} (h : spotsE a = 0) (hn : done.Nodup) (h1 : ∀ x ∈ done, (headF (spotsL a) x).isSome = true) (h2 : ∀ x, (Lit.int .i64 x).wf = true → (headF (spotsL a) x).isSome = true → x ∈ done) :
    sortL (done.filter fun x => !decide (x ∈ b)) = whiteL a b := by
  have hr := begsL_rise h
  refine sorted_unique (sortL_sorted _) ((sortL_perm _).nodup_iff.2 (hn.sublist List.filter_sublist)) ((rise_le hr).sublist List.filter_sublist) ((rise_nodup hr).sublist List.filter_sublist) (fun x => ?_)
  unfold whiteL
  rw [sortL_mem, List.mem_filter, List.mem_filter]
  refine and_congr_left fun _ => ⟨fun hx => headF_isSome.1 (h1 x hx), fun hx => ?_⟩
  have := begsL_bounds h x hx
  exact h2 x (by simp [Lit.wf, IntKind.min, IntKind.max, IntKind.signed, IntKind.bits]; omega) (headF_isSome.2 hx)
set_option maxRecDepth 100000 in
set_option maxHeartbeats 2000000 in
theorem stepDone_ok (A : Option Addr) (n c : Nat) (G : Option Addr) (gn gc : Nat) (K : Option Addr) (kn kc : Nat) (a b : List Int) (w : World) (hr : Reads w w.heap.size 1 A n (a.map (.int .u64))) (hnc : n ≤ c) (ha : ∀ x ∈ a, (Lit.int .u64 x).wf = true)
    (hg : Reads w w.heap.size 1 G gn (([] : List Int).map (.int .i64))) (hk : Reads w w.heap.size 1 K kn (b.map (.int .i64))) (hkx : ∀ x ∈ b, (Lit.int .i64 x).wf = true) (hT : TriOk a [] b) :
    Calls Try.prog 16 #[.agg #[.slice A n c, .slice G gn gc, .slice K kn kc]] w fun e w' => Below w.heap.size w w' ∧ ∃ (A1 : Option Addr) (c1 : Nat),
      e = .returned (.tuple #[.slice A1 (whiteL a b).length c1, .int .i64 0]) ∧ w'.ownsRow w.heap.size 3 1 (.slice A1 (whiteL a b).length c1) (whiteL a b).length ((whiteL a b).map (.int .i64)) := by
  obtain ⟨l1, l2⟩ := hT.lens
  have h0 := (checkE_ok.1 hT.ok).1
  have hkl : b.length = kn := by have := hk.1; simpa using this
  obtain rfl : gn = 0 := by have := hg.1; simp at this; omega
  have hb0 := below_new w (.cells #[.slice A n c, .slice G 0 gc, .slice K kn kc] 25)
  have DS := Blk.new w 25 #[.slice A n c, .slice G 0 gc, .slice K kn kc]
  obtain ⟨s0, s1, s2⟩ := DS.three
  have HC := Lib.hid (stepCheck_any A n c G 0 gc K kn kc a [] b _ ((hr.below hb0).more hb0.size) hnc ha ((hg.below hb0).more hb0.size) (by simp) ((hk.below hb0).more hb0.size) hkx (by simp at l1; omega))
  have HOb := Lib.hid (fun w hr => stepObjects_any A n c a w hr ha h0)
  have HT := Lib.hid hT
  have H0 := Lib.hid h0
  have hk300 : kn ≤ 300 := by simp at l1; omega
  have hB256 := begsL_bounds h0
  have HFB : Hid (∀ x v, headF (spotsL a) x = some v → x ∈ begsL (spotsL a)) := fun x v h => headF_isSome.1 (by rw [h]; rfl)
  have HB := Lib.hid hB256
  obtain ⟨i0, hi, hz0, hz1, hz2⟩ := info_parts info_int
  clear ha hkx hT hkl h0 hB256
  go_enter Try.func16, Try.ntmps16
  go_wp2_with fail
  refine HC.out.mono ?_
  rintro e w1 ⟨⟨E, rfl, hE⟩, hb1⟩
  obtain rfl := hE.2 HT.out
  have DS1 := DS.below hb1 DS.lt
  have hb01 := below_step hb0 hb1
  obtain ⟨s0, s1, s2⟩ := DS1.three
  have HO1 := Lib.hid (HOb.out w1 ((hr.below hb01).more hb01.size))
  clear hE hb1 HC hr hg hb0 HOb
  have hkw := hk
  go_wp2_with fail
  refine HO1.out.mono ?_
  rintro e w2 ⟨bm, rfl, hbm, hM, hb2⟩
  have hb02 := below_step hb01 hb2
  have DS2 := DS1.below hb2 DS1.lt
  clear hb2 HO1
  go_wp2_with (first | (at_range; refine wpList_range_is _ rfl _ 79 rfl 3 78 .i64 Try.underlying3 Try.underlying79 bm 300 _ rfl hM ?_; intro w3 cnt hrg hg3 hs3) | go_in)
  go_frame
  have DS3 := DS2.grown hg3 (by simp)
  have hb03 := hb02.grown hg3 hb02.size (by simp)
  have hw2 := hb02.size
  obtain ⟨rp, hrp⟩ : ∃ rp, rp = w2.heap.size := ⟨_, rfl⟩
  rw [← hrp] at hrg ⊢
  have hsp : w.heap.size < rp := by have := DS2.lt; omega
  clear hM hg3 hs3 DS2 hb02 hw2 hrp
  go_loopw [5, 6] (fun o _ wr => ∃ (done : List Int) (cnt k co : Nat) (Ao : Option Addr), RangeSt wr Try.prog 3 .i64 bm rp 300 (headF (spotsL a)) done cnt ∧ o = .slice Ao k co ∧ Hid (k = (done.filter fun x => !decide (x ∈ b)).length) ∧ wr.ownsRow w.heap.size 3 1 (.slice Ao k co) k ((done.filter fun x => !decide (x ∈ b)).map (.int .i64)) ∧
      Blk wr w.heap.size 25 #[.slice A n c, .slice G 0 gc, .slice K kn kc] ∧ Below w.heap.size w wr) (fun _ _ wr => wr.rangeLeft bm rp)
  case atStart => exact ⟨[], cnt, 0, 0, none, hrg, rfl, rfl, World.ownsRow_nil _ _ _ _, DS3, hb03⟩
  case round =>
    obtain ⟨done, cnt, k, co, Ao, hrg, rfl, HK, hO, DS, hb⟩ := hrel
    obtain ⟨d0, d1, d2⟩ := DS.three
    have HD : Hid (done.Nodup ∧ ∀ x ∈ done, (headF (spotsL a) x).isSome = true) := by
      obtain ⟨D, left, -, -, -, h4, h5⟩ := hrg
      exact ⟨h4, fun x hx => (h5 x hx).2⟩
    have hkl : k ≤ 256 := by
      rw [HK.out]
      refine nodup_bound 256 _ (HD.out.1.sublist List.filter_sublist) (fun x hx => ?_)
      obtain ⟨v, hv⟩ := Option.isSome_iff_exists.1 (HD.out.2 x (List.mem_filter.1 hx).1)
      exact HB.out x (HFB.out x v hv)
    go_wp2_with (first | (at_next; refine wpList_next_is _ rfl _ rfl 3 .i64 Try.underlying3 bm rp 300 _ done cnt rfl hrg ?_ ?_) | go_in)
    · intro hall
      have HW : Hid (sortL (done.filter fun x => !decide (x ∈ b)) = whiteL a b) := collected_white H0.out HD.out.1 HD.out.2 hall
      have HS := Lib.hid (sort_int w.heap.size Ao k co _ wr hO (by omega))
      have HO := Lib.hid hO
      clear hO hall hrg
      go_wp2_with fail
      refine HS.out.mono ?_
      rintro e w5 ⟨rfl, hO5, hg5⟩
      have hb5 := hb.grown hg5 hb.size (fun g hg => (HO.out.lt g hg).1)
      rw [HW.out] at hO5
      have hkW : k = (whiteL a b).length := by rw [HK.out, ← HW.out, sortL_length]
      have HKW := Lib.hid hkW
      clear hg5 hkW
      go_wp2
      go_ret2
      exact ⟨hb5, Ao, co, by rw [← HKW.out]; rfl, by rw [← HKW.out]; exact hO5⟩
    · intro x v w5 cnt5 hxw hfx hxd hrg5 hlt5 hg5 hs5 hen
      have hO5 := own_grown hO hg5 (fun g h1 h2 => (hrg.ne_row hO).2 (by rw [h1]; exact h2))
      have DS5 := DS.grown hg5 (fun e => by injection e with e; omega)
      have hb5 := hb.grown hg5 hb.size (fun g hg => by injection hg with hg; omega)
      obtain ⟨d0, d1, d2⟩ := DS5.three
      have hle := hrg.left_eq
      have HLE := Lib.hid hle
      clear hs5 hO DS hb hg5 hrg hle
      by_cases hxb : x ∈ b
      · have HCo := Lib.hid (contains_int K kn kc w.heap.size b x true w5 (hk.below hb5) (by omega) (decide_eq_true hxb))
        have HF : Hid ((done ++ [x]).filter (fun x => !decide (x ∈ b)) = done.filter (fun x => !decide (x ∈ b))) := by show _ = _; rw [List.filter_append]; simp [hxb]
        have HO := Lib.hid hO5
        clear hxb hO5
        go_wp2_with (go_at_call 20; refine HCo.out.mono ?_; rintro e w6 ⟨rfl, rfl⟩)
        go_roundw
        case rel => exact ⟨done ++ [x], cnt5, k, co, Ao, hrg5, rfl, by rw [HF.out]; exact HK.out, by rw [HF.out]; exact HO.out, DS5, hb5⟩
        case measure => rw [hrg5.left_eq, HLE.out]; exact hlt5
      · have HCo := Lib.hid (contains_int K kn kc w.heap.size b x false w5 (hk.below hb5) (by omega) (decide_eq_false hxb))
        have HF : Hid ((done ++ [x]).filter (fun x => !decide (x ∈ b)) = done.filter (fun x => !decide (x ∈ b)) ++ [x]) := by show _ = _; rw [List.filter_append]; simp [hxb]
        have hrn := reads_new w5 [.int .i64 x] 3 1 1 rfl
        have hOy := hO5.alloc (.cells #[.int .i64 x] 3)
        have hby := hb5.alloc hb5.size (.cells #[.int .i64 x] 3)
        have hRy := hrg5.alloc (.cells #[.int .i64 x] 3)
        have DSy := DS5.alloc (.cells #[.int .i64 x] 3)
        have hws := hb5.size
        clear hxb hO5
        go_wp2_with (first
          | (go_at_call 20; refine HCo.out.mono ?_; rintro e w6 ⟨rfl, rfl⟩)
          | (at_builtin; refine wpList_append_any _ rfl (.tmp 29) (.tmp 31) 23 rfl w.heap.size 3 i0 (.int .i64 0) 1 8 Try.underlying23 hi hz0 hz1 hz2 rfl (by decide) (.slice Ao k co) k _ rfl hOy _ (some ⟨w5.heap.size, 0, none⟩) 1 1 [.int .i64 x] rfl hrn (by simp [Value.oneCell']) (by unfold maxLen; omega) (by omega) (by simp; omega) ?_; rintro v' w7 hown7 hgr - -; obtain ⟨A5, c5, rfl⟩ := own_slice hown7))
        have hR7 := hRy.kept hgr (hRy.ne_row hOy).1 (hRy.ne_row hOy).2
        go_roundw
        case rel =>
          refine ⟨done ++ [x], cnt5, k + 1, c5, A5, hR7, rfl, ?_, ?_, DSy.grown hgr (own_blk hOy DSy (by decide)).symm, hby.grown hgr hby.size (fun g hg => (hOy.lt g hg).1)⟩
          · show _ = _
            rw [HF.out, List.length_append, ← HK.out]
            rfl
          · rw [HF.out, List.map_append]
            exact hown7
        case measure => rw [hR7.left_eq, HLE.out]; exact hlt5
end Go.Proofs.Ytgkoaambdejkdaa

namespace Go.Proofs.Ytgkoaambdejkdaa
open Go.RowKit
theorem threes_facts : checkE [1, 1] = 0 := tints_facts.1
set_option maxHeartbeats 1000000 in
theorem threes_true (w : World) : Calls Try.prog 9 #[] w fun e w' => e = .returned (.bool true) ∧ Below w.heap.size w w' := by
  have H := Lib.hid (fun A A2 w hr hr2 => stepStart_ok A 2 2 [1, 1] A2 1 1 [0] w hr (by decide) (by decide) hr2 (by decide) (by decide) threes_facts)
  have hlen : (onceL [0]).length = 1 := by
    have h1 := nodup_len (rise_nodup (onceL_rise [0])) (M := [0]) (fun x hx => onceL_mem.1 hx)
    have h2 := nodup_len (L := [0]) (M := onceL [0]) (by simp) (fun x hx => onceL_mem.2 hx)
    simp only [List.length_cons, List.length_nil] at h1 h2
    omega
  have hbg : (0 : Int) ∈ begsL (spotsL [1, 1]) := tints_reached.begs 0 (by simp)
  rw [hlen] at H
  have hn1 := reads_new w [.int .u64 1, .int .u64 1] 43 2 1 rfl
  have hb1 := below_new w (.cells #[.int .u64 1, .int .u64 1] 43)
  have hn2 := reads_new (w.alloc (.cells #[.int .u64 1, .int .u64 1] 43)) [.int .i64 0] 3 1 1 rfl
  have hb2 := below_new (w.alloc (.cells #[.int .u64 1, .int .u64 1] 43)) (.cells #[.int .i64 0] 3)
  have hn3 := (hn1.below (hb2.mono (by simp))).more (show w.heap.size + 1 ≤ ((w.alloc (.cells #[.int .u64 1, .int .u64 1] 43)).alloc (.cells #[.int .i64 0] 3)).heap.size by simp)
  simp only [World.size_alloc] at hn2
  have HS := fun w : World => (show Calls Try.prog 35 #[] w fun e w' => e = .returned (.slice (some ⟨w.heap.size, 0, none⟩) 2 2) ∧ w' = w.alloc (.cells #[.int .u64 1, .int .u64 1] 43) by
    go_enter Try.func35, Try.ntmps35
    go_wp2
    go_ret
    exact ⟨rfl, rfl⟩)
  have HS := Lib.hid HS
  have HB := Lib.hid hbg
  clear hlen hbg
  go_enter Try.func9, Try.ntmps9
  go_wp2_with fail
  refine (HS.out _).mono ?_
  rintro e w1 ⟨rfl, rfl⟩
  go_wp2_with fail
  refine (H.out _ _ _ (by simpa using hn3) (by simpa using hn2)).mono ?_
  rintro e w2 ⟨hb3, ⟨-, A1, c1, G, gc, rfl, -⟩ | ⟨⟨x, hx, hn⟩, -⟩⟩
  · have hbz := (below_step (below_step hb1 hb2) hb3).alloc (below_step (below_step hb1 hb2) hb3).size (.cells #[.slice A1 2 c1, .slice G 1 gc, .slice none 0 0] 25)
    have k1 := (Blk.new w2 25 #[.slice A1 2 c1, .slice G 1 gc, .slice none 0 0]).three.2.1
    go_wp2
    go_ret
    exact ⟨by first | rfl | simp, hbz⟩
  · rw [List.mem_singleton] at hx
    subst hx
    exact absurd HB.out hn
structure TriR (w : World) (B : Nat) (A : Option Addr) (n c : Nat) (G : Option Addr) (gn : Nat) (K : Option Addr) (kn : Nat) (a g b : List Int) : Prop where
  ra : Reads w B 1 A n (a.map (.int .u64))
  rg : Reads w B 1 G gn (g.map (.int .i64))
  rb : Reads w B 1 K kn (b.map (.int .i64))
  nc : n ≤ c
  aw : ∀ x ∈ a, (Lit.int .u64 x).wf = true
  gw : ∀ x ∈ g, (Lit.int .i64 x).wf = true
  bw : ∀ x ∈ b, (Lit.int .i64 x).wf = true
theorem TriR.below {w w' : World} {B : Nat} {A : Option Addr} {n c : Nat} {G : Option Addr} {gn : Nat} {K : Option Addr} {kn : Nat} {a g b : List Int} (h : TriR w B A n c G gn K kn a g b) (hb : Below B w w') : TriR w' B A n c G gn K kn a g b :=
  ⟨h.ra.below hb, h.rg.below hb, h.rb.below hb, h.nc, h.aw, h.gw, h.bw⟩
theorem TriR.more {w : World} {B B' : Nat} {A : Option Addr} {n c : Nat} {G : Option Addr} {gn : Nat} {K : Option Addr} {kn : Nat} {a g b : List Int} (h : TriR w B A n c G gn K kn a g b) (hb : B ≤ B') : TriR w B' A n c G gn K kn a g b :=
  ⟨h.ra.more hb, h.rg.more hb, h.rb.more hb, h.nc, h.aw, h.gw, h.bw⟩
theorem TriO.reads {w : World} {base : Nat} {A : Option Addr} {n c : Nat} {G : Option Addr} {gn gc : Nat} {K : Option Addr} {kn kc : Nat} {a g b : List Int} (h : TriO w base A n c G gn gc K kn kc a g b) : TriR w w.heap.size A n c G gn K kn a g b :=
  ⟨Reads.of_own h.a.1, Reads.of_own h.g.1, Reads.of_own h.b.1, own_cap h.a.1, own_u64_ok h.a, own_i64_ok h.g, own_i64_ok h.b⟩
set_option maxRecDepth 100000 in
set_option maxHeartbeats 4000000 in
theorem steps_any (A : Option Addr) (n c : Nat) (G : Option Addr) (gn gc : Nat) (K : Option Addr) (kn kc : Nat) (a g b : List Int) (w : World) (hR : TriR w w.heap.size A n c G gn K kn a g b) (hT : TriOk a g b)
    (Inv : List Int → List Int → Prop) (hI : Inv g b) (hs : ∀ x g b, TriOk a (x :: g) b → Inv (x :: g) b → Inv (stepG a g b x) (stepB b x)) :
    Calls Try.prog 11 #[.agg #[.slice A n c, .slice G gn gc, .slice K kn kc]] w fun e w' => Below w.heap.size w w' ∧ ∃ (A1 : Option Addr) (c1 : Nat) (A2 : Option Addr) (c2 : Nat) (A3 : Option Addr) (c3 N : Nat) (bF : List Int),
      e = .returned (.tuple #[.agg #[.slice A1 n c1, .slice A2 0 c2, .slice A3 bF.length c3], .int .i64 N, .bool true]) ∧ TriO w' w.heap.size A1 n c1 A2 0 c2 A3 bF.length c3 a [] bF ∧ TriOk a [] bF ∧ Inv [] bF ∧ N + b.length = bF.length := by
  have hb0 := below_new w (.cells #[.slice A n c, .slice G gn gc, .slice K kn kc] 25)
  have hb1 := hb0.alloc hb0.size (.cells #[.slice none 0 0, .slice none 0 0, .slice none 0 0] 25)
  have DS := (Blk.new w 25 #[.slice A n c, .slice G gn gc, .slice K kn kc]).alloc (.cells #[.slice none 0 0, .slice none 0 0, .slice none 0 0] 25)
  have DR := Blk.new (w.alloc (.cells #[.slice A n c, .slice G gn gc, .slice K kn kc] 25)) 25 #[.slice none 0 0, .slice none 0 0, .slice none 0 0]
  rw [World.size_alloc] at DR
  have HR := Lib.hid ((hR.below hb1).more hb1.size)
  have HT := Lib.hid hT
  have HI := Lib.hid hI
  have HS := Lib.hid hs
  clear hR hT hI hs hb0
  go_enter Try.func11, Try.ntmps11
  go_wp2
  go_loopw [5, 6, 7, 8] (fun nv _ _ _ wr => ∃ (N : Nat) (A' : Option Addr) (c' : Nat) (G' : Option Addr) (gn' gc' : Nat) (K' : Option Addr) (kn' kc' : Nat) (gl bl : List Int), nv = .int .i64 N ∧ Blk wr w.heap.size 25 #[.slice A' n c', .slice G' gn' gc', .slice K' kn' kc'] ∧ Blk wr (w.heap.size + 1) 25 #[.slice none 0 0, .slice none 0 0, .slice none 0 0] ∧
      Hid (TriR wr wr.heap.size A' n c' G' gn' K' kn' a gl bl) ∧ Hid (TriOk a gl bl) ∧ Hid (Inv gl bl) ∧ Hid (N + b.length = bl.length) ∧ Below w.heap.size w wr) (fun nv _ _ _ _ => 600 - (intOf nv).toNat)
  case atStart => exact ⟨0, A, c, G, gn, gc, K, kn, kc, g, b, rfl, DS, DR, HR, HT, HI, Nat.zero_add _, hb1⟩
  case round =>
    obtain ⟨N, A', c', G', gn', gc', K', kn', kc', gl, bl, rfl, DS, DR, HR, HT, HI, HN, hb⟩ := hrel
    obtain ⟨s0, s1, s2⟩ := DS.three
    have hN : N ≤ 256 := by have := HT.out.lens.1; have := HN.out; omega
    have hws := hb.size
    have hdl := DR.lt
    cases gl with
    | nil =>
      have hg0 : gn' = 0 := by have := HR.out.rg.1; simpa using this.symm
      subst hg0
      have hk0 : kn' = bl.length := by have := HR.out.rb.1; simpa using this.symm
      have HKZ := Lib.hid hk0
      clear hk0
      have H := Lib.hid (stepStep_done A' n c' G' 0 gc' K' kn' kc' a bl wr HR.out.ra HR.out.nc HR.out.aw HR.out.rg HR.out.rb HR.out.bw HT.out)
      go_wp2_with fail
      refine H.out.mono ?_
      rintro e w2 ⟨hb2, A1, c1, A2, c2, A3, c3, rfl, hO⟩
      have hb02 := below_step hb hb2
      have DR2 := (DR.below hb2 DR.lt).alloc (.cells #[.slice A1 n c1, .slice A2 0 c2, .slice A3 kn' c3] 25)
      have DX := Blk.new w2 25 #[.slice A1 n c1, .slice A2 0 c2, .slice A3 kn' c3]
      have hb3 := hb02.alloc hb02.size (.cells #[.slice A1 n c1, .slice A2 0 c2, .slice A3 kn' c3] 25)
      have hO3 := (hO.mono hb.size).alloc (.cells #[.slice A1 n c1, .slice A2 0 c2, .slice A3 kn' c3] 25)
      have f0 := DR2.frozen 0
      have f1 := DR2.frozen 1
      have f2 := DR2.frozen 2
      obtain ⟨r0, r1, r2⟩ := DR2.three
      obtain ⟨x0, x1, x2⟩ := DX.three
      have HOf := Lib.hid (hO3.store DR2 (by decide) (by decide) (.slice A1 n c1) (.slice A2 0 c2) (.slice A3 kn' c3))
      have HBf := Lib.hid (below_block3 (g := w.heap.size + 1) hb3 (Nat.le_succ _) (.slice A1 n c1) (.slice A2 0 c2) (.slice A3 kn' c3))
      have HZf := Lib.hid (DR2.store3 (.slice A1 n c1) (.slice A2 0 c2) (.slice A3 kn' c3)).three
      have hN3 : decide ((300 : Int) < N) = false := decide_eq_false (by omega)
      have hN4 : decide (300 < N) = false := decide_eq_false (by omega)
      clear hO hO3 hb2 H
      go_wp2
      refine bodyPost_ret (v := .tuple #[.agg #[.slice A1 n c1, .slice A2 0 c2, .slice A3 kn' c3], .int .i64 N, .bool true]) ?_ rfl ⟨HBf.out, A1, c1, A2, c2, A3, c3, N, bl, by rw [← HKZ.out], by rw [← HKZ.out]; exact HOf.out, HT.out, HI.out, HN.out⟩
      obtain ⟨z0, z1, z2⟩ := HZf.out
      simp only [results, Try.results11]
      go_simp
    | cons x gt =>
      have H := Lib.hid (stepStep_ok A' n c' G' gn' gc' K' kn' kc' a x gt bl wr HR.out.ra HR.out.nc HR.out.aw HR.out.rg HR.out.gw HR.out.rb HR.out.bw HT.out)
      obtain ⟨h1, h2, -⟩ := step_ok HT.out
      have HT2 := Lib.hid h1
      have HI2 := Lib.hid (HS.out x gt bl HT.out HI.out)
      have HN2 : Hid (N + 1 + b.length = (stepB bl x).length) := by show _ = _; rw [h2]; have := HN.out; omega
      generalize stepG a gt bl x = gz at *
      generalize stepB bl x = bz at *
      obtain ⟨gm, hgm⟩ : ∃ gm, gm = gz.length := ⟨_, rfl⟩
      obtain ⟨bm, hbm⟩ : ∃ bm, bm = bz.length := ⟨_, rfl⟩
      rw [← hgm, ← hbm] at H
      clear h1 h2 hgm hbm
      go_wp2_with fail
      refine H.out.mono ?_
      rintro e w2 ⟨hb2, A1, c1, A2, c2, A3, c3, rfl, hO⟩
      have hb02 := below_step hb hb2
      have DR2 := (DR.below hb2 DR.lt).alloc (.cells #[.slice A1 n c1, .slice A2 gm c2, .slice A3 bm c3] 25)
      have DS2 := (DS.below hb2 DS.lt).alloc (.cells #[.slice A1 n c1, .slice A2 gm c2, .slice A3 bm c3] 25)
      have DX := Blk.new w2 25 #[.slice A1 n c1, .slice A2 gm c2, .slice A3 bm c3]
      have hb3 := hb02.alloc hb02.size (.cells #[.slice A1 n c1, .slice A2 gm c2, .slice A3 bm c3] 25)
      have hO3 := (hO.mono hb.size).alloc (.cells #[.slice A1 n c1, .slice A2 gm c2, .slice A3 bm c3] 25)
      have f0 := DS2.frozen 0
      have f1 := DS2.frozen 1
      have f2 := DS2.frozen 2
      obtain ⟨r0, r1, r2⟩ := DS2.three
      obtain ⟨x0, x1, x2⟩ := DX.three
      have DS3 := DS2.store3 (.slice A1 n c1) (.slice A2 gm c2) (.slice A3 bm c3)
      have DR3 := DR2.far3 (g' := w.heap.size) (by omega) (.slice A1 n c1) (.slice A2 gm c2) (.slice A3 bm c3)
      have HRf := Lib.hid (hO3.store DS2 (by decide) (by decide) (.slice A1 n c1) (.slice A2 gm c2) (.slice A3 bm c3)).reads
      have HBf := Lib.hid (below_block3 (g := w.heap.size) hb3 (Nat.le_refl _) (.slice A1 n c1) (.slice A2 gm c2) (.slice A3 bm c3))
      have hN3 : decide ((300 : Int) < N) = false := decide_eq_false (by omega)
      have hN4 : decide (300 < N) = false := decide_eq_false (by omega)
      clear hO hO3 hb2 H
      go_wp2
      go_roundw
      case rel => exact ⟨N + 1, A1, c1, A2, gm, c2, A3, bm, c3, gz, bz, by go_num, DS3, DR3, HRf, HT2, HI2, HN2, HBf.out⟩
      case measure => simp [intOf]; omega
end Go.Proofs.Ytgkoaambdejkdaa

namespace Go.Proofs.Ytgkoaambdejkdaa
open Go.ChangeShapes Go.WideShapes Go.ChangeAt Go.RowKit Go.Joins Go.Deep
theorem trod_nums2 {H : Type} {enc : TypeId × Value → H} {P : Program} {t e : TypeId} {k : IntKind} {W : World} {sp : Nat → Bool} {fuel : Nat} {v : Value} {x : DataW H × List MemPlace} (ht : P.underlying t = some (.slice e)) (he : P.underlying e = some (.int k)) (hc : P.cellsOf e = 1)
    (hlt : ∀ p ∈ x.2, p.block < W.heap.size) (h : DataW.trod enc P W 0 sp true fuel t [v] = some x) :
    ∃ (A : Option Addr) (n c : Nat) (xs : List Int), v = .slice A n c ∧ n ≤ c ∧ c ≤ maxLen ∧ Reads W W.heap.size 1 A n (xs.map (.int k)) ∧ (∀ x ∈ xs, (Lit.int k x).wf = true) ∧ (n = 0 ∨ ∃ D E, x.1 = .slice D E ∧ D.length = n) := by
  obtain ⟨A, n, c, xs, h1, h2, h3, -, h4, h5⟩ := trod_nums ht he hc hlt h
  refine ⟨A, n, c, xs, h1, h2, h3, h4, h5, ?_⟩
  subst h1
  rcases open_ints ht he hc h with ⟨hcs, hx⟩ | ⟨a, len, cap, zs, hcs, hb, hlc, hm, hzl, hx, hcell, hwf⟩
  · simp at hcs
    exact .inl hcs.2.1
  · simp at hcs
    obtain ⟨rfl, rfl, rfl⟩ := hcs
    subst hx
    have hlz : n ≤ zs.length := by rw [hzl]; split <;> omega
    exact .inr ⟨_, _, rfl, by simp [lits]; omega⟩
theorem nums_weight {H : Type} {P : Program} {t e : TypeId} {d : DataW H} {n : Nat} (hu : P.underlying t = some (.slice e)) (hb : P.bytesOf e = 8) (hd : n = 0 ∨ ∃ D E, d = .slice D E ∧ D.length = n) (hw : ∀ m ∈ d.weights P t, m ≤ reachBytes) : n * 8 ≤ 140737488351232 := by
  rcases hd with h0 | ⟨D, E, rfl, hD⟩
  · omega
  · have := hw ((D.length + E.length) * P.bytesOf e) (by simp [DataW.weights, hu])
    rw [hb, hD] at this
    simp only [reachBytes] at this
    omega
set_option maxRecDepth 100000 in
theorem open_tri {H : Type} {enc : TypeId × Value → H} {W : World} {r : Reach} {base : Nat} {sp : Nat → Bool} {v : Value} {d : DataW H} {ps : List MemPlace}
    (hval : Value.okWide Try.prog W r base 25 v) (hlt : ∀ x ∈ ps, x.block < W.heap.size) (h : DataW.Trod enc Try.prog W 0 sp true 25 v d ps) (hw : ∀ m ∈ d.weights Try.prog 25, m ≤ reachBytes) :
    ∃ (A : Option Addr) (n c : Nat) (G : Option Addr) (gn gc : Nat) (K : Option Addr) (kn kc : Nat) (a g b : List Int), v = .agg #[.slice A n c, .slice G gn gc, .slice K kn kc] ∧ TriR W W.heap.size A n c G gn K kn a g b ∧ n ≤ 140737488355328 ∧ gn + kn ≤ 35184372087808 := by
  obtain ⟨c0, c1, c2, y0, y1, y2, m, rfl, rfl, rfl, hy0, hy1, hy2⟩ := open_agg3 Try.underlying25 (by kernel_rfl) (by kernel_rfl) hval h
  have k4 : Try.prog.cellsOf 43 = 1 := by kernel_rfl
  have k0 : Try.prog.cellsOf 3 = 1 := by kernel_rfl
  have k8 : Try.prog.bytesOf 43 = 8 := by kernel_rfl
  obtain ⟨A, n, c, a, rfl, a1, a2, a3, a4, a5⟩ := trod_nums2 Try.underlying22 Try.underlying43 k4 (fun x hx => hlt x (by simp [hx])) hy0
  obtain ⟨G, gn, gc, g, rfl, g1, g2, g3, g4, g5⟩ := trod_nums2 Try.underlying23 Try.underlying3 k0 (fun x hx => hlt x (by simp [hx])) hy1
  obtain ⟨K, kn, kc, b, rfl, b1, b2, b3, b4, b5⟩ := trod_nums2 Try.underlying23 Try.underlying3 k0 (fun x hx => hlt x (by simp [hx])) hy2
  have hw0 := nums_weight Try.underlying22 k8 a5 (fun m hm => hw m (by simp [DataW.weights, Try.underlying25, DataW.weightsEach, hm]))
  have hw1 := nums_weight Try.underlying23 k_int_bytes g5 (fun m hm => hw m (by simp [DataW.weights, Try.underlying25, DataW.weightsEach, hm]))
  have hw2 := nums_weight Try.underlying23 k_int_bytes b5 (fun m hm => hw m (by simp [DataW.weights, Try.underlying25, DataW.weightsEach, hm]))
  exact ⟨A, n, c, G, gn, gc, K, kn, kc, a, g, b, rfl, ⟨a3, g3, b3, a1, a4, g4, b4⟩, by omega, by omega⟩
end Go.Proofs.Ytgkoaambdejkdaa
