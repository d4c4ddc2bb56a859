/-
  Texts joined: FillT YoungGrow YoungAges LawOwn YoungPut YoungCopied.
-/
import Derived.Deep.RegionHeld3
import Derived.StillTailTactics
import Derived.Test.YtgkoaambdejkdaaG1
import Derived.Test.YtgkoaambdejkdaaG4
import Derived.Test.YtgkoaambdejkdaaG8
import Derived.Test.YtgkoaambdejkdaaG9
import Derived.Test.YtgkoaambdejkdaaG10
import Derived.Test.YtgkoaambdejkdaaG11
import Derived.Test.YtgkoaambdejkdaaG12
namespace Go.Proofs.Ytgkoaambdejkdaa
open Go.RowKit
set_option maxHeartbeats 400000 in
theorem fill_okT (A : Option Addr) (n c B : Nat) (xs : List Int) (at_ k v : Int) (w : World) (hr : Reads w B 1 A n (xs.map (.int .u64))) (hB : B ≤ w.heap.size) (hok : fillE n at_ k = 0) (hxs : ∀ x ∈ xs, (Lit.int .u64 x).wf = true) (hv : (Lit.int .u64 v).wf = true) :
    Calls Try.prog 61 #[.slice A n c, .int .i64 at_, .int .i64 k, .int .u64 v] w fun e w' => Below w.heap.size w w' ∧
      ∃ A' c', e = .returned (.tuple #[.slice A' n c', .int .i64 0]) ∧ OwnT w' w.heap.size 43 1 (isNum .u64) (.slice A' n c') n ((fillL xs at_.toNat k.toNat v).map (.int .u64)) := by
  obtain ⟨h1, h2, h3, h4, h5⟩ := fillE_ok.1 hok
  have hS : stretchF n k [at_] = 0 := by unfold fillE at hok; rwa [if_neg (by omega)] at hok
  have HS := Lib.hid hS
  clear hok hS
  obtain ⟨at0, rfl⟩ := Int.eq_ofNat_of_zero_le h3
  obtain ⟨k0, rfl⟩ := Int.eq_ofNat_of_zero_le h2
  have hxl : xs.length = n := by have := hr.1; simpa using this
  have HX := Lib.hid hxl
  have HXS := Lib.hid hxs
  have HV := Lib.hid hv
  clear hxl hxs hv
  go_enter Try.func61, Try.ntmps61
  go_wp2_with (first
    | (go_at_call 84; refine (stretches_any _ _ _ _ _ _ 1 _ [↑at0] _ (by omega) (by omega) (reads_new w [.int .i64 at0] 3 1 1 rfl) (by omega) (by simp; omega)).mono ?_; rw [HS.out]; rintro e w' ⟨rfl, rfl⟩)
    | (go_at_call 31; refine (clone_u64T _ _ _ _ _ _ (hr.alloc hB _) (by simp; omega) (u64s_one _) (nums_num HXS.out 1) (by omega)).mono ?_; rintro e w1 ⟨A', c', rfl, hown, hb⟩))
  go_loopw [24] (fun i wr => ∃ j : Nat, j ≤ k0 ∧ i = .int .i64 j ∧ OwnT wr w.heap.size 43 1 (isNum .u64) (.slice A' n c') n ((fillL xs at0 j v).map (.int .u64)) ∧ Below w.heap.size w wr) (fun i _ => k0 - (intOf i).toNat)
  case atStart => exact ⟨0, Nat.zero_le _, rfl, by rw [fillL_zero]; exact (hown.mono (by simp)), ((Below.refl _ _).alloc (Nat.le_refl _) _).trans (hb.mono (by simp))⟩
  case round =>
    obtain ⟨j, hj, rfl, hown1, hb1⟩ := hrel
    by_cases hlt : j < k0
    · obtain ⟨g, cap, hv, hg, -⟩ := hown1.1.form (by omega)
      obtain ⟨rfl, -, rfl⟩ : A' = some ⟨g, 0, none⟩ ∧ n = n ∧ c' = cap := by simpa using hv
      have hcell := hown1.1.cellAt (at0 + j) (by omega)
      have hfl := fillL_length xs at0 j v (by rw [HX.out]; omega)
      rw [List.getElem?_eq_getElem (by simp [hfl, HX.out]; omega)] at hcell
      generalize ((fillL xs at0 j v).map (Value.int .u64))[at0 + j]'_ = u0 at hcell
      have hfr := hown1.1.frozenAt (at0 + j)
      clear hfl
      go_wp2
      go_roundw
      case rel => exact ⟨j + 1, by omega, by go_num, by rw [← fillL_succ _ _ _ _ (by rw [HX.out]; omega), List.map_set]; exact (hown1.setElem (i := at0 + j) (u := .int .u64 v) (by omega) ⟨v, rfl, HV.out⟩).1, hb1.setCell (p := ⟨g, at0 + j, none⟩) (hown1.1.lt g rfl).1 _⟩
      case measure => simp [intOf]; omega
    · have hjk : j = k0 := by omega
      subst hjk
      go_wp2
      go_ret2
      exact ⟨hb1, A', c', rfl, hown1⟩
end Go.Proofs.Ytgkoaambdejkdaa

namespace Go.Proofs.Ytgkoaambdejkdaa
open Go.RowKit
set_option maxRecDepth 100000 in
set_option maxHeartbeats 1000000 in
theorem youngGrow_bad (A : Option Addr) (n c : Nat) (G : Option Addr) (gn gc : Nat) (K : Option Addr) (kn kc : Nat) (a g b : List Int) (A2 : Option Addr) (n2 c2 : Nat) (w : World) (hr : Reads w w.heap.size 1 A n (a.map (.int .u64))) (hnc : n ≤ c) (ha : ∀ x ∈ a, (Lit.int .u64 x).wf = true)
    (hg : Reads w w.heap.size 1 G gn (g.map (.int .i64))) (hgx : ∀ x ∈ g, (Lit.int .i64 x).wf = true) (hk : Reads w w.heap.size 1 K kn (b.map (.int .i64))) (hkx : ∀ x ∈ b, (Lit.int .i64 x).wf = true) (hgn : gn ≤ 1000000000000000000) (hkn : kn ≤ 1000000000000000000) (hT : ¬ AgesOk a g b) :
    Calls Try.prog 25 #[.agg #[.slice A n c, .slice G gn gc, .slice K kn kc], .slice A2 n2 c2] w fun e w' => Below w.heap.size w w' ∧ ∃ E, E ≠ 0 ∧ e = .returned (.tuple #[.agg #[.slice none 0 0, .slice none 0 0, .slice none 0 0], .int .i64 E]) := by
  have hb0 := (below_new w (.cells #[.slice A n c, .slice G gn gc, .slice K kn kc] 52)).alloc (by simp) (.cells #[.slice none 0 0, .slice none 0 0, .slice none 0 0] 52)
  have DS := (Blk.new w 52 #[.slice A n c, .slice G gn gc, .slice K kn kc]).alloc (.cells #[.slice none 0 0, .slice none 0 0, .slice none 0 0] 52)
  have DR := Blk.new (w.alloc (.cells #[.slice A n c, .slice G gn gc, .slice K kn kc] 52)) 52 #[.slice none 0 0, .slice none 0 0, .slice none 0 0]
  rw [World.size_alloc] at DR
  obtain ⟨s0, s1, s2⟩ := DS.three
  have HC := Lib.hid (youngKeep_bad A n c G gn gc K kn kc a g b A2 n2 c2 _ ((hr.below hb0).more hb0.size) hnc ha ((hg.below hb0).more hb0.size) hgx ((hk.below hb0).more hb0.size) hkx hgn hkn hT)
  clear ha hgx hkx hr hg hk
  go_enter Try.func25, Try.ntmps25
  go_wp2_with fail
  refine HC.out.mono ?_
  rintro e w1 ⟨hb1, E, hE0, rfl⟩
  have hE1 : (E != 0) = true := by simpa using hE0
  have DR1 := DR.below hb1 DR.lt
  have hb01 := below_step hb0 hb1
  have HE := Lib.hid hE0
  have f0 := DR1.frozen 0
  have f1 := DR1.frozen 1
  have f2 := DR1.frozen 2
  obtain ⟨r0, r1, r2⟩ := DR1.three
  have HBf := Lib.hid (below_block3 (g := w.heap.size + 1) hb01 (Nat.le_succ _) (.slice none 0 0) (.slice none 0 0) (.slice none 0 0))
  have HZf := Lib.hid (DR1.store3 (.slice none 0 0) (.slice none 0 0) (.slice none 0 0)).three
  clear hE0
  go_wp2
  refine bodyPost_ret (v := .tuple #[.agg #[.slice none 0 0, .slice none 0 0, .slice none 0 0], .int .i64 E]) ?_ rfl ⟨HBf.out, E, HE.out, rfl⟩
  obtain ⟨z0, z1, z2⟩ := HZf.out
  simp only [results, Try.results25]
  go_simp
def GrowRet (a g b f : List Int) (base : Nat) (e : Ending) (w' : World) : Prop :=
  ((∃ x ∈ f, x ∉ begsL (spotsL a)) ∧ e = .returned (.tuple #[.agg #[.slice none 0 0, .slice none 0 0, .slice none 0 0], .int .i64 5])) ∨
  ((∀ x ∈ f, x ∈ begsL (spotsL a)) ∧ ∃ (L a' D : List Int) (A1 : Option Addr) (n1 c1 : Nat) (A2 : Option Addr) (n2 c2 : Nat), KeptY a g b f L ∧ Freed a a' D ∧ (∀ x ∈ begsL (spotsL a), x ∈ D ↔ x ∉ olderL g L) ∧
    e = .returned (.tuple #[.agg #[.slice A1 n1 c1, .slice A2 n2 c2, .slice none 0 0], .int .i64 0]) ∧ TriO w' base A1 n1 c1 A2 n2 c2 none 0 0 a' (olderL g L) [])
structure GrowSt (w : World) (A : Option Addr) (n c : Nat) (G : Option Addr) (gn gc : Nat) (K : Option Addr) (kn kc : Nat) (kb : Nat) (Ak : Option Addr) (m ck : Nat) (L : List Int) (W : World) : Prop where
  b : Below w.heap.size w W
  s : Blk W w.heap.size 52 #[.slice A n c, .slice G gn gc, .slice K kn kc]
  r : Blk W (w.heap.size + 1) 52 #[.slice none 0 0, .slice none 0 0, .slice none 0 0]
  k : W.ownsRow kb 3 1 (.slice Ak m ck) m (L.map (.int .i64))
section
variable {w W W' : World} {A : Option Addr} {n c : Nat} {G : Option Addr} {gn gc : Nat} {K : Option Addr} {kn kc kb : Nat} {Ak : Option Addr} {m ck : Nat} {L : List Int}
theorem GrowSt.drew (h : GrowSt w A n c G gn gc K kn kc kb Ak m ck L W) : GrowSt w A n c G gn gc K kn kc kb Ak m ck L W.drew := ⟨h.b.drew, h.s.drew, h.r.drew, own_below h.k (Below.refl _ _).drew⟩
theorem GrowSt.alloc (h : GrowSt w A n c G gn gc K kn kc kb Ak m ck L W) (o : Obj) : GrowSt w A n c G gn gc K kn kc kb Ak m ck L (W.alloc o) := ⟨h.b.alloc h.b.size o, h.s.alloc o, h.r.alloc o, h.k.alloc o⟩
theorem GrowSt.below (h : GrowSt w A n c G gn gc K kn kc kb Ak m ck L W) (hb : Below W.heap.size W W') : GrowSt w A n c G gn gc K kn kc kb Ak m ck L W' := ⟨below_step h.b hb, h.s.below hb h.s.lt, h.r.below hb h.r.lt, own_below h.k hb⟩
end
theorem Blk.step {w w' : World} {g : Nat} {t : TypeId} {cs : Array Value} (h : Blk w g t cs) (hb : Below w.heap.size w w') : Blk w' g t cs := h.below hb h.lt
structure GrowLp (w : World) (A : Option Addr) (n c : Nat) (G : Option Addr) (gn gc : Nat) (K : Option Addr) (kn kc : Nat) (qb : Nat) (A1 : Option Addr) (c1 : Nat) (A3 : Option Addr) (N c3 : Nat) (a' OL : List Int) (W : World) : Prop where
  b : Below w.heap.size w W
  s : Blk W w.heap.size 52 #[.slice A n c, .slice G gn gc, .slice K kn kc]
  r : Blk W (w.heap.size + 1) 52 #[.slice none 0 0, .slice none 0 0, .slice none 0 0]
  q : Blk W qb 52 #[.slice A1 n c1, .slice A3 N c3, .slice none 0 0]
  lo : w.heap.size + 1 < qb
  a : OwnT W w.heap.size 43 1 (isNum .u64) (.slice A1 n c1) n (a'.map (.int .u64))
  o : OwnT W w.heap.size 3 1 (isNum .i64) (.slice A3 N c3) N (OL.map (.int .i64))
section
variable {w W W' : World} {A : Option Addr} {n c : Nat} {G : Option Addr} {gn gc : Nat} {K : Option Addr} {kn kc qb : Nat} {A1 : Option Addr} {c1 : Nat} {A3 : Option Addr} {N c3 : Nat} {a' OL : List Int}
theorem GrowLp.below (h : GrowLp w A n c G gn gc K kn kc qb A1 c1 A3 N c3 a' OL W) (hb : Below W.heap.size W W') : GrowLp w A n c G gn gc K kn kc qb A1 c1 A3 N c3 a' OL W' :=
  ⟨below_step h.b hb, h.s.below hb h.s.lt, h.r.below hb h.r.lt, h.q.below hb h.q.lt, h.lo, h.a.below hb, h.o.below hb⟩
theorem GrowLp.alloc (h : GrowLp w A n c G gn gc K kn kc qb A1 c1 A3 N c3 a' OL W) (o : Obj) : GrowLp w A n c G gn gc K kn kc qb A1 c1 A3 N c3 a' OL (W.alloc o) :=
  ⟨h.b.alloc h.b.size o, h.s.alloc o, h.r.alloc o, h.q.alloc o, h.lo, h.a.alloc o, h.o.alloc o⟩
theorem GrowLp.grown {row : Option Nat} (h : GrowLp w A n c G gn gc K kn kc qb A1 c1 A3 N c3 a' OL W) (hg : W.grownBy W' row) (h1 : some w.heap.size ≠ row) (h2 : some (w.heap.size + 1) ≠ row) (h3 : some qb ≠ row)
    (h4 : (Value.slice A1 n c1).ownBlock = none ∨ (Value.slice A1 n c1).ownBlock ≠ row) (h5 : (Value.slice A3 N c3).ownBlock = none ∨ (Value.slice A3 N c3).ownBlock ≠ row) (hlo : ∀ k, row = some k → w.heap.size ≤ k) : GrowLp w A n c G gn gc K kn kc qb A1 c1 A3 N c3 a' OL W' :=
  ⟨h.b.grown hg h.b.size hlo, h.s.grown hg h1, h.r.grown hg h2, h.q.grown hg h3, h.lo, h.a.kept hg h4, h.o.kept hg h5⟩
theorem GrowLp.laid {A6 : Option Addr} {c6 : Nat} {x : List Int} (h : GrowLp w A n c G gn gc K kn kc qb A1 c1 A3 N c3 a' OL W) (ho : OwnT W w.heap.size 43 1 (isNum .u64) (.slice A6 n c6) n (x.map (.int .u64))) :
    GrowLp w A n c G gn gc K kn kc qb A6 c6 A3 N c3 x OL (W.setCell ⟨qb, 0, none⟩ (.slice A6 n c6)) := by
  have hlo := h.lo
  exact ⟨h.b.setCell (p := ⟨qb, 0, none⟩) (by dsimp only; omega) _, h.s.far (p := ⟨qb, 0, none⟩) (by dsimp only; omega) _, h.r.far (p := ⟨qb, 0, none⟩) (by dsimp only; omega) _, by simpa using h.q.set_ 0 (.slice A6 n c6), h.lo, ho.apart (own_blk ho.1 h.q (by decide)) _, h.o.apart (own_blk h.o.1 h.q (by decide)) _⟩
theorem GrowLp.word {q6 c6 i : Nat} (h : GrowLp w A n c G gn gc K kn kc qb (some ⟨q6, 0, none⟩) c6 A3 N c3 a' OL W) (hi : i < n) {v : Int} (hv : (Lit.int .u64 v).wf = true) :
    GrowLp w A n c G gn gc K kn kc qb (some ⟨q6, 0, none⟩) c6 A3 N c3 (a'.set i v) OL (W.setCell ⟨q6, i, none⟩ (.int .u64 v)) := by
  have hb := (h.a.1.lt q6 rfl).1
  have e1 := own_blk h.a.1 h.s (by decide)
  have e2 := own_blk h.a.1 h.r (by decide)
  have e3 := own_blk h.a.1 h.q (by decide)
  simp only [Value.ownBlock, ne_eq, Option.some.injEq] at e1 e2 e3
  have h1 := (h.a.setElem hi (u := .int .u64 v) ⟨v, rfl, hv⟩).1
  rw [← List.map_set] at h1
  exact ⟨h.b.setCell (p := ⟨q6, i, none⟩) hb _, h.s.far (p := ⟨q6, i, none⟩) (fun e => e1 e.symm) _, h.r.far (p := ⟨q6, i, none⟩) (fun e => e2 e.symm) _, h.q.far (p := ⟨q6, i, none⟩) (fun e => e3 e.symm) _, h.lo, h1, h.o.apart (p := ⟨q6, i, none⟩) (own_kinds (g := q6) h.a.1 h.o.1 (by decide) rfl) _⟩
end
theorem grown_set (w : World) (g i : Nat) (u : Value) : w.grownBy (w.setCell ⟨g, i, none⟩ u) (some g) :=
  ⟨rfl, rfl, rfl, by simp, fun k hk hne => Below.heap_setCell w ⟨g, i, none⟩ u k (fun e => hne (by rw [e]))⟩
theorem RangeSt.ne_blk {P : Program} {w : World} {k : TypeId} {q : IntKind} {b r n cnt : Nat} {f : Int → Option Value} {done : List Int} {g : Nat} {t : TypeId} {cs : Array Value} (h : RangeSt w P k q b r n f done cnt) (hB : Blk w g t cs) : some b ≠ some g := by
  obtain ⟨D, left, h1, h2⟩ := h
  obtain ⟨es, clock, since, seen, c0, hb, -, -, -, hr, -⟩ := h1
  intro e
  injection e with e
  unfold Blk at hB
  rw [e, hB] at hb
  cases hb
def ZB (B : Nat) (W : World) (g : Nat) : Prop := Blk W g 52 #[.slice none 0 0, .slice none 0 0, .slice none 0 0] ∧ B + 1 < g
section
variable {w W W' : World} {A : Option Addr} {n c : Nat} {G : Option Addr} {gn gc : Nat} {K : Option Addr} {kn kc kb : Nat} {Ak : Option Addr} {m ck : Nat} {L : List Int} {B q : Nat}
theorem ZB.new (h : GrowSt w A n c G gn gc K kn kc kb Ak m ck L W) : ZB w.heap.size (W.alloc (.cells #[.slice none 0 0, .slice none 0 0, .slice none 0 0] 52)) W.heap.size := ⟨Blk.new _ _ _, h.r.lt⟩
theorem ZB.blk (h : ZB B W q) : Blk W q 52 #[.slice none 0 0, .slice none 0 0, .slice none 0 0] := h.1
theorem ZB.lo (h : ZB B W q) : B + 1 < q := h.2
theorem ZB.alloc (h : ZB B W q) (o : Obj) : ZB B (W.alloc o) q := ⟨h.1.alloc o, h.2⟩
theorem ZB.drew (h : ZB B W q) : ZB B W.drew q := h
theorem ZB.step (h : ZB B W q) (hb : Below W.heap.size W W') : ZB B W' q := ⟨h.1.step hb, h.2⟩
theorem ZB.ne (h : ZB B W q) : B ≠ q := by have := h.2; omega
theorem ZB.ne' (h : ZB B W q) : q ≠ B := by have := h.2; omega
theorem OwnT.store3 {base : Nat} {e t : TypeId} {size : Nat} {ok : Nat → Value → Prop} {v : Value} {n : Nat} {xs : List Value} {x y z : Value} (h : OwnT W base e size ok v n xs) (hB : Blk W q t #[x, y, z]) (he : e ≠ t) (x0 x1 x2 : Value) :
    OwnT (((W.setCell ⟨q, 0, none⟩ x0).setCell ⟨q, 1, none⟩ x1).setCell ⟨q, 2, none⟩ x2) base e size ok v n xs :=
  ((h.apart (p := ⟨q, 0, none⟩) (own_blk h.1 hB he) x0).apart (p := ⟨q, 1, none⟩) (own_blk h.1 hB he) x1).apart (p := ⟨q, 2, none⟩) (own_blk h.1 hB he) x2
theorem GrowSt.store3 (h : GrowSt w A n c G gn gc K kn kc kb Ak m ck L W) (hz : ZB w.heap.size W q) (x0 x1 x2 : Value) : GrowSt w A n c G gn gc K kn kc kb Ak m ck L (((W.setCell ⟨q, 0, none⟩ x0).setCell ⟨q, 1, none⟩ x1).setCell ⟨q, 2, none⟩ x2) := by
  have h2 := hz.2
  have hk := own_blk h.k hz.1 (by decide)
  exact ⟨below_block3 h.b (by omega) _ _ _, h.s.far3 (by omega) _ _ _, h.r.far3 (by omega) _ _ _, own_apart (p := ⟨q, 2, none⟩) (own_apart (p := ⟨q, 1, none⟩) (own_apart (p := ⟨q, 0, none⟩) h.k hk _) hk _) hk _⟩
end
theorem Blk.new1 (w : World) (o : Obj) (t : TypeId) (cs : Array Value) : Blk ((w.alloc o).alloc (.cells cs t)) (w.heap.size + 1) t cs := by
  have := Blk.new (w.alloc o) t cs
  rwa [World.size_alloc] at this
theorem Blk.reads {w : World} {g : Nat} {t : TypeId} {cs : List Value} (h : Blk w g t cs.toArray) {n size : Nat} (hl : cs.length = n * size) : Reads w w.heap.size size (some ⟨g, 0, none⟩) n cs :=
  ⟨hl, fun _ => ⟨_, rfl, h.lt, fun j u hu => by
    rw [Addr.add_lit, Nat.zero_add, h.cell]
    simpa using hu⟩⟩
set_option maxRecDepth 100000 in
set_option maxHeartbeats 4000000 in
theorem youngGrow_ok (A : Option Addr) (n c : Nat) (G : Option Addr) (gn gc : Nat) (K : Option Addr) (kn kc : Nat) (a g b : List Int) (A2 : Option Addr) (n2 c2 : Nat) (f : List Int) (w : World) (hr : Reads w w.heap.size 1 A n (a.map (.int .u64))) (hnc : n ≤ c) (ha : ∀ x ∈ a, (Lit.int .u64 x).wf = true)
    (hg : Reads w w.heap.size 1 G gn (g.map (.int .i64))) (hgx : ∀ x ∈ g, (Lit.int .i64 x).wf = true) (hk : Reads w w.heap.size 1 K kn (b.map (.int .i64))) (hkx : ∀ x ∈ b, (Lit.int .i64 x).wf = true)
    (hr2 : Reads w w.heap.size 1 A2 n2 (f.map (.int .i64))) (hn2 : n2 ≤ 1000000000000000000) (hx2 : ∀ x ∈ f, (Lit.int .i64 x).wf = true) (hT : AgesOk a g b) :
    Calls Try.prog 25 #[.agg #[.slice A n c, .slice G gn gc, .slice K kn kc], .slice A2 n2 c2] w fun e w' => Below w.heap.size w w' ∧ GrowRet a g b f w.heap.size e w' := by
  obtain ⟨l1, l1', l2⟩ := hT.lens
  have h0 := (checkE_ok.1 hT.ok).1
  have hkl : b.length = kn := by have := hk.1; simpa using this
  have hgl : g.length = gn := by have := hg.1; simpa using this
  have hal : a.length = n := by have := hr.1; simpa using this
  have hn256 : n ≤ 256 := by omega
  have hg256 : gn ≤ 256 := by omega
  have hk256 : kn ≤ 256 := by omega
  have hb0 := (below_new w (.cells #[.slice A n c, .slice G gn gc, .slice K kn kc] 52)).alloc (by simp) (.cells #[.slice none 0 0, .slice none 0 0, .slice none 0 0] 52)
  have DS := (Blk.new w 52 #[.slice A n c, .slice G gn gc, .slice K kn kc]).alloc (.cells #[.slice none 0 0, .slice none 0 0, .slice none 0 0] 52)
  have DR := Blk.new (w.alloc (.cells #[.slice A n c, .slice G gn gc, .slice K kn kc] 52)) 52 #[.slice none 0 0, .slice none 0 0, .slice none 0 0]
  rw [World.size_alloc] at DR
  obtain ⟨s0, s1, s2⟩ := DS.three
  have HC := Lib.hid (youngKeep_ok A n c G gn gc K kn kc a g b A2 n2 c2 f _ ((hr.below hb0).more hb0.size) hnc ha ((hg.below hb0).more hb0.size) hgx ((hk.below hb0).more hb0.size) hkx ((hr2.below hb0).more hb0.size) hn2 hx2 hT)
  have HOb := Lib.hid (fun w hr => youngObjects_any A n c a w hr ha h0)
  have HCl := Lib.hid (fun W r hB => clone_u64T A n c w.heap.size (a.map (.int .u64)) W r hB (u64s_one _) (nums_num ha 1) (by omega))
  have HGr := Lib.hid (fun W hb => hg.below (w' := W) hb)
  have HRr := Lib.hid (fun W hb => hr.below (w' := W) hb)
  have HT := Lib.hid hT
  have HA := Lib.hid ha
  have HGX := Lib.hid hgx
  have H0 := Lib.hid h0
  have HGL := Lib.hid hgl
  have HAL := Lib.hid hal
  clear ha hgx hkx hx2 hT h0 hkl hgl hal
  go_enter Try.func25, Try.ntmps25
  go_wp2_with fail
  refine HC.out.mono ?_
  rintro e w1 ⟨hb1, ⟨hall, L, Ak, ck, hL, rfl, hown⟩ | ⟨hex, rfl⟩⟩
  · have hLl : L.length ≤ 256 := nodup_bound 256 _ hL.once (fun x hx => begsL_bounds H0.out x (hL.begs x hx))
    obtain ⟨m, hm⟩ : ∃ m, m = L.length := ⟨_, rfl⟩
    rw [← hm] at hown hLl ⊢
    have HM := Lib.hid hm
    have HL := Lib.hid hL
    have HAll := Lib.hid hall
    have GS1 : GrowSt w A n c G gn gc K kn kc (w.heap.size + 2) Ak m ck L w1 := ⟨below_step hb0 hb1, DS.below hb1 DS.lt, DR.below hb1 DR.lt, own_mono hown (by simp)⟩
    have HCl2 : Hid (∀ W, GrowSt w A n c G gn gc K kn kc (w.heap.size + 2) Ak m ck L W → Calls Try.prog 31 #[.slice A n c] W fun e w' => ∃ A' c', e = .returned (.slice A' n c') ∧ OwnT w' w.heap.size 43 1 (isNum .u64) (.slice A' n c') n (a.map (.int .u64)) ∧ Below W.heap.size W w') := fun W hS =>
      Calls.mono (HCl.out W (HRr.out W hS.b) hS.b.size) (fun e w' ⟨A', c', h1, h2, h3⟩ => ⟨A', c', h1, h2.mono hS.b.size, h3⟩)
    have HCc : Hid (∀ W bs, GrowSt w A n c G gn gc K kn kc (w.heap.size + 2) Ak m ck L W → Blk W bs 23 #[.slice G gn gc, .slice Ak m ck] → Calls Try.prog 30 #[.slice (some ⟨bs, 0, none⟩) 2 2] W fun e w' => ∃ A' c', e = .returned (.slice A' (gn + m) c') ∧ w'.ownsRow w.heap.size 3 1 (.slice A' (gn + m) c') (gn + m) ((g ++ L).map (.int .i64)) ∧ Below W.heap.size W w') := fun W bs hS hB => by
      have h1 := concat2_int G gn gc (g.map (.int .i64)) Ak m ck (L.map (.int .i64)) (some ⟨bs, 0, none⟩) 2 W (hB.reads (cs := [.slice G gn gc, .slice Ak m ck]) rfl) ((HGr.out W hS.b).more hS.b.size) (Reads.of_own hS.k) (ints_one _) (ints_one _) (by omega)
      refine Calls.mono h1 (fun e w' ⟨A', c', h1, h2, h3⟩ => ⟨A', c', h1, ?_, h3⟩)
      rw [List.map_append]
      exact own_mono h2 hS.b.size
    have HVa : Hid (∀ W A5 c5, Calls Try.prog 50 #[.slice A5 (gn + m) c5] W fun e w' => ∃ bs, e = .returned (.func (.func 78) #[] #[.pointer (some ⟨bs, 0, none⟩)]) ∧ Blk w' bs 23 #[.slice A5 (gn + m) c5] ∧ Below W.heap.size W w') := fun W A5 c5 =>
      Calls.mono (values_any A5 (gn + m) c5 W) (fun e w' ⟨h1, h2⟩ => by subst h2; exact ⟨_, h1, Blk.new W _ _, below_new W _⟩)
    have HSo : Hid (∀ W bs A5 c5, GrowSt w A n c G gn gc K kn kc (w.heap.size + 2) Ak m ck L W → Blk W bs 23 #[.slice A5 (gn + m) c5] → W.ownsRow w.heap.size 3 1 (.slice A5 (gn + m) c5) (gn + m) ((g ++ L).map (.int .i64)) →
        Calls Try.prog 49 #[.func (.func 78) #[] #[.pointer (some ⟨bs, 0, none⟩)]] W fun e w' => ∃ A' c', e = .returned (.slice A' (gn + m) c') ∧ OwnT w' w.heap.size 3 1 (isNum .i64) (.slice A' (gn + m) c') (gn + m) ((olderL g L).map (.int .i64)) ∧ Below W.heap.size W w') := fun W bs A5 c5 hS hB hO => by
      have h1 := sorted_any bs W.heap.size A5 (gn + m) c5 (g ++ L) (by omega) (fun x hx => by
        rcases List.mem_append.1 hx with h | h
        · exact HGX.out x h
        · have := begsL_bounds H0.out x (HL.out.begs x h); simp [Lit.wf, IntKind.min, IntKind.max, IntKind.signed, IntKind.bits]; omega) W hB.lt (Nat.le_refl _) (hB.cell 0) (Reads.of_own hO)
      exact Calls.mono h1 (fun e w' ⟨A', c', h1, h2, h3⟩ => ⟨A', c', h1, h2.mono hS.b.size, h3⟩)
    clear hm hL hall hown hb1 hb0 DS DR s0 s1 s2 HCl
    obtain ⟨s0, s1, s2⟩ := GS1.s.three
    go_upto_region 4 with fail
    have GS := GS1
    have GSd := GS1.drew
    obtain ⟨s0, s1, s2⟩ := GSd.s.three
    go_cut [8] from 23 to 33 (fun s8 wc => ∃ q A1 c1 A3 c3, s8 = .pointer (some ⟨q, 0, none⟩) ∧ w.heap.size + 1 < q ∧ Blk wc q 52 #[.slice A1 n c1, .slice A3 (gn + m) c3, .slice none 0 0] ∧ GrowSt w A n c G gn gc K kn kc (w.heap.size + 2) Ak m ck L wc ∧ OwnT wc w.heap.size 43 1 (isNum .u64) (.slice A1 n c1) n (a.map (.int .u64)) ∧ OwnT wc w.heap.size 3 1 (isNum .i64) (.slice A3 (gn + m) c3) (gn + m) ((olderL g L).map (.int .i64)))
    case first =>
      have d1 : 43 ≠ 52 := by decide
      have d2 : 3 ≠ 52 := by decide
      go_region_held3 (fun w' => w'.cell? ⟨w.heap.size, 0, none⟩ = some (.slice A n c) ∧ w'.cell? ⟨w.heap.size, 1, none⟩ = some (.slice G gn gc)) (go_keep)
        (first
          | (go_at_call 31; (first | (with_reducible refine (HCl2.out _ (GS)).mono ?_) | (with_reducible refine (HCl2.out _ (GS.alloc _)).mono ?_) | (with_reducible refine (HCl2.out _ ((GS.alloc _).alloc _)).mono ?_) | (with_reducible refine (HCl2.out _ (GS.drew)).mono ?_) | (with_reducible refine (HCl2.out _ ((GS.alloc _).drew)).mono ?_) | (with_reducible refine (HCl2.out _ (((GS.alloc _).alloc _).drew)).mono ?_)); rintro e wz ⟨A1, c1, rfl, oz, hbz⟩; (try have o1 := OwnT.below (by first | exact o1 | exact o1.alloc _ | exact (o1.alloc _).alloc _ | exact o1.drew | exact (o1.alloc _).drew | exact ((o1.alloc _).alloc _).drew) hbz); (try have B5 := Blk.step (by first | exact B5 | exact B5.alloc _ | exact (B5.alloc _).alloc _ | exact B5.drew | exact (B5.alloc _).drew | exact ((B5.alloc _).alloc _).drew) hbz); (try have Z8 := ZB.step (by first | exact Z8 | exact Z8.alloc _ | exact (Z8.alloc _).alloc _ | exact Z8.drew | exact (Z8.alloc _).drew | exact ((Z8.alloc _).alloc _).drew) hbz); (try have oc := own_below (by first | exact oc | exact oc.alloc _ | exact (oc.alloc _).alloc _ | exact oc.drew | exact (oc.alloc _).drew | exact ((oc.alloc _).alloc _).drew) hbz); (try have V6 := Blk.step (by first | exact V6 | exact V6.alloc _ | exact (V6.alloc _).alloc _ | exact V6.drew | exact (V6.alloc _).drew | exact ((V6.alloc _).alloc _).drew) hbz); (try have o3 := OwnT.below (by first | exact o3 | exact o3.alloc _ | exact (o3.alloc _).alloc _ | exact o3.drew | exact (o3.alloc _).drew | exact ((o3.alloc _).alloc _).drew) hbz); (try have B5 := Blk.step (t := 23) (cs := #[.slice G gn gc, .slice Ak m ck]) (by first | exact Blk.new _ _ _ | exact Blk.new1 _ _ _ _ | exact (Blk.new1 _ _ _ _).drew | exact (Blk.new _ _ _).alloc _ | exact (Blk.new _ _ _).drew | exact ((Blk.new _ _ _).alloc _).drew) hbz); (try rw [World.size_alloc] at B5); (try have Z8 := ZB.step (by first | exact ZB.new GS | exact (ZB.new GS).alloc _ | exact ZB.new (GS.alloc _) | exact (ZB.new GS).drew | exact ((ZB.new GS).alloc _).drew | exact (ZB.new (GS.alloc _)).drew) hbz); (try rw [World.size_alloc] at Z8); have GS := GrowSt.below (by first | exact GS | exact GS.alloc _ | exact (GS.alloc _).alloc _ | exact GS.drew | exact (GS.alloc _).drew | exact ((GS.alloc _).alloc _).drew) hbz; obtain ⟨s0, s1, s2⟩ := GS.s.three; (try have zc0 := (Blk.three Z8.1).1); (try have zc1 := (Blk.three Z8.1).2.1); (try have zc2 := (Blk.three Z8.1).2.2); (try have zf0 := Blk.frozen Z8.1 0); (try have zf1 := Blk.frozen Z8.1 1); (try have zf2 := Blk.frozen Z8.1 2); (try have zn0 := ZB.ne Z8); (try have zn1 := ZB.ne' Z8); have ZN := ZB.new GS; have nc0 := ZN.1.three.1; have nc1 := ZN.1.three.2.1; have nc2 := ZN.1.three.2.2; have nf0 := ZN.1.frozen 0; have nf1 := ZN.1.frozen 1; have nf2 := ZN.1.frozen 2; have nn0 := ZN.ne; have nn1 := ZN.ne'; have o1 := oz)
          | (go_at_call 30; (first | (with_reducible refine (HCc.out _ _ (GS) ?_).mono ?_) | (with_reducible refine (HCc.out _ _ (GS.alloc _) ?_).mono ?_) | (with_reducible refine (HCc.out _ _ ((GS.alloc _).alloc _) ?_).mono ?_) | (with_reducible refine (HCc.out _ _ (GS.drew) ?_).mono ?_) | (with_reducible refine (HCc.out _ _ ((GS.alloc _).drew) ?_).mono ?_) | (with_reducible refine (HCc.out _ _ (((GS.alloc _).alloc _).drew) ?_).mono ?_)); (first | exact Blk.new _ _ _ | exact Blk.new1 _ _ _ _ | exact (Blk.new1 _ _ _ _).drew | exact (Blk.new _ _ _).alloc _ | exact (Blk.new _ _ _).drew | exact ((Blk.new _ _ _).alloc _).drew | exact B5 | exact B5.alloc _); rintro e wz ⟨A5, c5, rfl, oz, hbz⟩; (try have o1 := OwnT.below (by first | exact o1 | exact o1.alloc _ | exact (o1.alloc _).alloc _ | exact o1.drew | exact (o1.alloc _).drew | exact ((o1.alloc _).alloc _).drew) hbz); (try have B5 := Blk.step (by first | exact B5 | exact B5.alloc _ | exact (B5.alloc _).alloc _ | exact B5.drew | exact (B5.alloc _).drew | exact ((B5.alloc _).alloc _).drew) hbz); (try have Z8 := ZB.step (by first | exact Z8 | exact Z8.alloc _ | exact (Z8.alloc _).alloc _ | exact Z8.drew | exact (Z8.alloc _).drew | exact ((Z8.alloc _).alloc _).drew) hbz); (try have oc := own_below (by first | exact oc | exact oc.alloc _ | exact (oc.alloc _).alloc _ | exact oc.drew | exact (oc.alloc _).drew | exact ((oc.alloc _).alloc _).drew) hbz); (try have V6 := Blk.step (by first | exact V6 | exact V6.alloc _ | exact (V6.alloc _).alloc _ | exact V6.drew | exact (V6.alloc _).drew | exact ((V6.alloc _).alloc _).drew) hbz); (try have o3 := OwnT.below (by first | exact o3 | exact o3.alloc _ | exact (o3.alloc _).alloc _ | exact o3.drew | exact (o3.alloc _).drew | exact ((o3.alloc _).alloc _).drew) hbz); (try have B5 := Blk.step (t := 23) (cs := #[.slice G gn gc, .slice Ak m ck]) (by first | exact Blk.new _ _ _ | exact Blk.new1 _ _ _ _ | exact (Blk.new1 _ _ _ _).drew | exact (Blk.new _ _ _).alloc _ | exact (Blk.new _ _ _).drew | exact ((Blk.new _ _ _).alloc _).drew) hbz); (try rw [World.size_alloc] at B5); (try have Z8 := ZB.step (by first | exact ZB.new GS | exact (ZB.new GS).alloc _ | exact ZB.new (GS.alloc _) | exact (ZB.new GS).drew | exact ((ZB.new GS).alloc _).drew | exact (ZB.new (GS.alloc _)).drew) hbz); (try rw [World.size_alloc] at Z8); have GS := GrowSt.below (by first | exact GS | exact GS.alloc _ | exact (GS.alloc _).alloc _ | exact GS.drew | exact (GS.alloc _).drew | exact ((GS.alloc _).alloc _).drew) hbz; obtain ⟨s0, s1, s2⟩ := GS.s.three; (try have zc0 := (Blk.three Z8.1).1); (try have zc1 := (Blk.three Z8.1).2.1); (try have zc2 := (Blk.three Z8.1).2.2); (try have zf0 := Blk.frozen Z8.1 0); (try have zf1 := Blk.frozen Z8.1 1); (try have zf2 := Blk.frozen Z8.1 2); (try have zn0 := ZB.ne Z8); (try have zn1 := ZB.ne' Z8); have ZN := ZB.new GS; have nc0 := ZN.1.three.1; have nc1 := ZN.1.three.2.1; have nc2 := ZN.1.three.2.2; have nf0 := ZN.1.frozen 0; have nf1 := ZN.1.frozen 1; have nf2 := ZN.1.frozen 2; have nn0 := ZN.ne; have nn1 := ZN.ne'; have oc := oz)
          | (go_at_call 50; refine (HVa.out _ _ _).mono ?_; rintro e wz ⟨bs, rfl, oz, hbz⟩; (try have o1 := OwnT.below (by first | exact o1 | exact o1.alloc _ | exact (o1.alloc _).alloc _ | exact o1.drew | exact (o1.alloc _).drew | exact ((o1.alloc _).alloc _).drew) hbz); (try have B5 := Blk.step (by first | exact B5 | exact B5.alloc _ | exact (B5.alloc _).alloc _ | exact B5.drew | exact (B5.alloc _).drew | exact ((B5.alloc _).alloc _).drew) hbz); (try have Z8 := ZB.step (by first | exact Z8 | exact Z8.alloc _ | exact (Z8.alloc _).alloc _ | exact Z8.drew | exact (Z8.alloc _).drew | exact ((Z8.alloc _).alloc _).drew) hbz); (try have oc := own_below (by first | exact oc | exact oc.alloc _ | exact (oc.alloc _).alloc _ | exact oc.drew | exact (oc.alloc _).drew | exact ((oc.alloc _).alloc _).drew) hbz); (try have V6 := Blk.step (by first | exact V6 | exact V6.alloc _ | exact (V6.alloc _).alloc _ | exact V6.drew | exact (V6.alloc _).drew | exact ((V6.alloc _).alloc _).drew) hbz); (try have o3 := OwnT.below (by first | exact o3 | exact o3.alloc _ | exact (o3.alloc _).alloc _ | exact o3.drew | exact (o3.alloc _).drew | exact ((o3.alloc _).alloc _).drew) hbz); (try have B5 := Blk.step (t := 23) (cs := #[.slice G gn gc, .slice Ak m ck]) (by first | exact Blk.new _ _ _ | exact Blk.new1 _ _ _ _ | exact (Blk.new1 _ _ _ _).drew | exact (Blk.new _ _ _).alloc _ | exact (Blk.new _ _ _).drew | exact ((Blk.new _ _ _).alloc _).drew) hbz); (try rw [World.size_alloc] at B5); (try have Z8 := ZB.step (by first | exact ZB.new GS | exact (ZB.new GS).alloc _ | exact ZB.new (GS.alloc _) | exact (ZB.new GS).drew | exact ((ZB.new GS).alloc _).drew | exact (ZB.new (GS.alloc _)).drew) hbz); (try rw [World.size_alloc] at Z8); have GS := GrowSt.below (by first | exact GS | exact GS.alloc _ | exact (GS.alloc _).alloc _ | exact GS.drew | exact (GS.alloc _).drew | exact ((GS.alloc _).alloc _).drew) hbz; obtain ⟨s0, s1, s2⟩ := GS.s.three; (try have zc0 := (Blk.three Z8.1).1); (try have zc1 := (Blk.three Z8.1).2.1); (try have zc2 := (Blk.three Z8.1).2.2); (try have zf0 := Blk.frozen Z8.1 0); (try have zf1 := Blk.frozen Z8.1 1); (try have zf2 := Blk.frozen Z8.1 2); (try have zn0 := ZB.ne Z8); (try have zn1 := ZB.ne' Z8); have ZN := ZB.new GS; have nc0 := ZN.1.three.1; have nc1 := ZN.1.three.2.1; have nc2 := ZN.1.three.2.2; have nf0 := ZN.1.frozen 0; have nf1 := ZN.1.frozen 1; have nf2 := ZN.1.frozen 2; have nn0 := ZN.ne; have nn1 := ZN.ne'; have V6 := oz)
          | (go_at_call 49; refine (HSo.out _ _ _ _ (by first | exact GS | exact GS.alloc _ | exact (GS.alloc _).alloc _ | exact GS.drew | exact (GS.alloc _).drew | exact ((GS.alloc _).alloc _).drew) (by first | exact V6 | exact V6.alloc _ | exact (V6.alloc _).alloc _ | exact V6.drew | exact (V6.alloc _).drew | exact ((V6.alloc _).alloc _).drew) (by first | exact oc | exact oc.alloc _ | exact (oc.alloc _).alloc _ | exact oc.drew | exact (oc.alloc _).drew | exact ((oc.alloc _).alloc _).drew)).mono ?_; rintro e wz ⟨A3, c3, rfl, oz, hbz⟩; (try have o1 := OwnT.below (by first | exact o1 | exact o1.alloc _ | exact (o1.alloc _).alloc _ | exact o1.drew | exact (o1.alloc _).drew | exact ((o1.alloc _).alloc _).drew) hbz); (try have B5 := Blk.step (by first | exact B5 | exact B5.alloc _ | exact (B5.alloc _).alloc _ | exact B5.drew | exact (B5.alloc _).drew | exact ((B5.alloc _).alloc _).drew) hbz); (try have Z8 := ZB.step (by first | exact Z8 | exact Z8.alloc _ | exact (Z8.alloc _).alloc _ | exact Z8.drew | exact (Z8.alloc _).drew | exact ((Z8.alloc _).alloc _).drew) hbz); (try have oc := own_below (by first | exact oc | exact oc.alloc _ | exact (oc.alloc _).alloc _ | exact oc.drew | exact (oc.alloc _).drew | exact ((oc.alloc _).alloc _).drew) hbz); (try have V6 := Blk.step (by first | exact V6 | exact V6.alloc _ | exact (V6.alloc _).alloc _ | exact V6.drew | exact (V6.alloc _).drew | exact ((V6.alloc _).alloc _).drew) hbz); (try have o3 := OwnT.below (by first | exact o3 | exact o3.alloc _ | exact (o3.alloc _).alloc _ | exact o3.drew | exact (o3.alloc _).drew | exact ((o3.alloc _).alloc _).drew) hbz); (try have B5 := Blk.step (t := 23) (cs := #[.slice G gn gc, .slice Ak m ck]) (by first | exact Blk.new _ _ _ | exact Blk.new1 _ _ _ _ | exact (Blk.new1 _ _ _ _).drew | exact (Blk.new _ _ _).alloc _ | exact (Blk.new _ _ _).drew | exact ((Blk.new _ _ _).alloc _).drew) hbz); (try rw [World.size_alloc] at B5); (try have Z8 := ZB.step (by first | exact ZB.new GS | exact (ZB.new GS).alloc _ | exact ZB.new (GS.alloc _) | exact (ZB.new GS).drew | exact ((ZB.new GS).alloc _).drew | exact (ZB.new (GS.alloc _)).drew) hbz); (try rw [World.size_alloc] at Z8); have GS := GrowSt.below (by first | exact GS | exact GS.alloc _ | exact (GS.alloc _).alloc _ | exact GS.drew | exact (GS.alloc _).drew | exact ((GS.alloc _).alloc _).drew) hbz; obtain ⟨s0, s1, s2⟩ := GS.s.three; (try have zc0 := (Blk.three Z8.1).1); (try have zc1 := (Blk.three Z8.1).2.1); (try have zc2 := (Blk.three Z8.1).2.2); (try have zf0 := Blk.frozen Z8.1 0); (try have zf1 := Blk.frozen Z8.1 1); (try have zf2 := Blk.frozen Z8.1 2); (try have zn0 := ZB.ne Z8); (try have zn1 := ZB.ne' Z8); have ZN := ZB.new GS; have nc0 := ZN.1.three.1; have nc1 := ZN.1.three.2.1; have nc2 := ZN.1.three.2.2; have nf0 := ZN.1.frozen 0; have nf1 := ZN.1.frozen 1; have nf2 := ZN.1.frozen 2; have nn0 := ZN.ne; have nn1 := ZN.ne'; have o3 := oz))
      all_goals
        go_wp2_with fail
        go_meet
        first
          | with_reducible exact ⟨_, A1, c1, A3, c3, rfl, GS.r.lt, Blk.new _ _ _, GS.alloc _, o1.alloc _, o3.alloc _⟩
          | with_reducible exact ⟨_, A1, c1, A3, c3, rfl, Z8.lo, Z8.blk.store3 _ _ _, GS.store3 Z8 _ _ _, o1.store3 Z8.blk d1 _ _ _, o3.store3 Z8.blk d2 _ _ _⟩
    case rest =>
      obtain ⟨q, A1, c1, A3, c3, rfl, hQlo, hQ, GS2, hO1, hO3⟩ := hcut
      have hqlt := hQ.lt
      obtain ⟨s0, s1, s2⟩ := GS2.s.three
      have HOb1 := Lib.hid (HOb.out wc ((HRr.out wc GS2.b).more GS2.b.size))
      have HNl : Hid (gn + m = (olderL g L).length) := by show _ = _; unfold olderL; rw [sortL_length, List.length_append, HGL.out, HM.out]
      have GB0 : GrowLp w A n c G gn gc K kn kc q A1 c1 A3 (gn + m) c3 a (olderL g L) wc := ⟨GS2.b, GS2.s, GS2.r, hQ, hQlo, hO1, hO3⟩
      obtain ⟨N, hN⟩ : ∃ N, N = gn + m := ⟨_, rfl⟩
      rw [← hN] at GB0 HNl
      have hN600 : N ≤ 600 := by omega
      have HKp := Lib.hid HL.out
      clear hQ GS2 hO1 hO3 hN HSo HVa HCc HCl2 HC hr hg hk
      go_wp2_with fail
      refine HOb1.out.mono ?_
      rintro e w2 ⟨bm, rfl, hbm, hM2, hb2⟩
      have GB2 := GB0.below hb2
      clear hb2 HOb1 GB0
      go_wp2_with (first | (at_range; refine wpList_range_is _ rfl _ 79 rfl 3 78 .i64 Try.underlying3 Try.underlying79 bm 300 _ rfl hM2 ?_; intro w3 cnt hrg hg3 hs3) | go_in)
      go_frame
      have hw2 := GB2.b.size
      have hq2 := GB2.q.lt
      have hr2' := GB2.r.lt
      have GB3 := GB2.grown hg3 (by simp) (by simp) (by simp) (by cases (Value.slice A1 n c1).ownBlock <;> simp) (by cases (Value.slice A3 N c3).ownBlock <;> simp) (by simp)
      obtain ⟨rp, hrp⟩ : ∃ rp, rp = w2.heap.size := ⟨_, rfl⟩
      rw [← hrp] at hrg hq2 hr2' ⊢
      have HF0 : Hid (Freed a a (([] : List Int).filter fun x => !decide (x ∈ olderL g L))) := Freed.start H0.out
      clear hM2 hg3 hs3 GB2 hw2 hrp
      go_loopw [9, 10, 11, 12] (fun _ _ _ _ wr => ∃ (done : List Int) (cnt : Nat) (a' : List Int) (A1 : Option Addr) (c1 : Nat), RangeSt wr Try.prog 3 .i64 bm rp 300 (headF (spotsL a)) done cnt ∧ Hid (Freed a a' (done.filter fun x => !decide (x ∈ olderL g L))) ∧ GrowLp w A n c G gn gc K kn kc q A1 c1 A3 N c3 a' (olderL g L) wr) (fun _ _ _ _ wr => wr.rangeLeft bm rp)
      case atStart => exact ⟨[], cnt, a, A1, c1, hrg, HF0, GB3⟩
      case round =>
        obtain ⟨done, cnt, a', A1, c1, hrg, HF, GB⟩ := hrel
        go_wp2_with (first | (at_next; refine wpList_next_is _ rfl _ rfl 3 .i64 Try.underlying3 bm rp 300 _ done cnt rfl hrg ?_ ?_) | go_in)
        · intro hall
          have HDn : Hid (∀ x ∈ begsL (spotsL a), x ∈ (done.filter fun x => !decide (x ∈ olderL g L)) ↔ x ∉ olderL g L) := by
            intro x hx
            have hb := begsL_bounds H0.out x hx
            have := hall x (by simp [Lit.wf, IntKind.min, IntKind.max, IntKind.signed, IntKind.bits]; omega) (headF_isSome.2 hx)
            rw [List.mem_filter]
            simp [this]
          have f0 := GB.r.frozen 0
          have f1 := GB.r.frozen 1
          have f2 := GB.r.frozen 2
          obtain ⟨r0, r1, r2⟩ := GB.r.three
          obtain ⟨q0, q1, q2⟩ := GB.q.three
          have HTf : Hid (TriO (((wr.setCell ⟨w.heap.size + 1, 0, none⟩ (.slice A1 n c1)).setCell ⟨w.heap.size + 1, 1, none⟩ (.slice A3 N c3)).setCell ⟨w.heap.size + 1, 2, none⟩ (.slice none 0 0)) w.heap.size A1 n c1 A3 N c3 none 0 0 a' (olderL g L) []) :=
            ⟨GB.a.store3 GB.r (by decide) _ _ _, GB.o.store3 GB.r (by decide) _ _ _, OwnT.nil _ _ _ _ _, fun k _ h => by simp [Value.ownBlock] at h⟩
          have HBf := Lib.hid (below_block3 (g := w.heap.size + 1) GB.b (Nat.le_succ _) (.slice A1 n c1) (.slice A3 N c3) (.slice none 0 0))
          have HZf := Lib.hid (GB.r.store3 (.slice A1 n c1) (.slice A3 N c3) (.slice none 0 0)).three
          clear hall hrg GB
          go_wp2
          refine bodyPost_ret (v := .tuple #[.agg #[.slice A1 n c1, .slice A3 N c3, .slice none 0 0], .int .i64 0]) ?_ rfl ⟨HBf.out, .inr ⟨HAll.out, L, a', _, A1, n, c1, A3, N, c3, HKp.out, HF.out, HDn.out, rfl, HTf.out⟩⟩
          obtain ⟨z0, z1, z2⟩ := HZf.out
          simp only [results, Try.results25]
          go_simp
        · intro x v w5 cnt5 hxw hfx hxd hrg5 hlt5 hg5 hs5 hen
          obtain ⟨s, hs, hv⟩ : ∃ s, spotAt (spotsL a) x = some s ∧ headC s = v := by unfold headF at hfx; exact Option.map_eq_some_iff.1 hfx
          obtain ⟨hsS, hsf, hsl⟩ := spotAt_some hs
          have hok := (parse_mem (parse_ok H0.out).2 s hsS).1
          have GB5 := GB.grown hg5 (by simp; omega) (by simp; omega) (by simp; omega) (by cases hk : (Value.slice A1 n c1).ownBlock with | none => exact .inl rfl | some k => exact .inr (by rw [← hk]; exact (hrg.ne_row GB.a.1).2.symm)) (by cases hk : (Value.slice A3 N c3).ownBlock with | none => exact .inl rfl | some k => exact .inr (by rw [← hk]; exact (hrg.ne_row GB.o.1).2.symm)) (fun k hk => by injection hk with hk; omega)
          obtain ⟨loc, r, bb, t, fr⟩ := s
          dsimp only at hsf hsl
          subst hsf hsl hv
          have hen' : (Instr.entry (.pointer (some ⟨rp, 0, none⟩))).run Try.prog w5 = .ok (.tuple #[.int .i64 loc, .agg #[.int .i64 r, .int .i64 bb, .int .i64 t, .bool false]]) w5 := hen
          have hle := hrg.left_eq
          have HLE := Lib.hid hle
          have GB6 := GB5.alloc (.cells #[.int .i64 r, .int .i64 bb, .int .i64 t, .bool false] 78)
          have hrg6 := hrg5.alloc (.cells #[.int .i64 r, .int .i64 bb, .int .i64 t, .bool false] 78)
          have hHx := Blk.new w5 78 #[.int .i64 r, .int .i64 bb, .int .i64 t, .bool false]
          have h0' := hHx.cell 0
          have h1' := hHx.cell 1
          have h2' := hHx.cell 2
          have h3' := hHx.cell 3
          simp only [List.getElem?_toArray, List.getElem?_cons_zero, List.getElem?_cons_succ] at h0' h1' h2' h3'
          obtain ⟨q0, q1, q2⟩ := GB6.q.three
          have HHL := Lib.hid (fun W => hlongc_ok r bb t false W hok.head)
          have hl0 := hok.loc0
          have hr0 := hok.r0
          have hb0' := hok.b0
          have hft := hok.fits
          simp only [Spot.long] at hl0 hr0 hb0' hft
          obtain ⟨I, rfl⟩ := Int.eq_ofNat_of_zero_le hl0
          obtain ⟨k, hk⟩ : ∃ k : Nat, 1 + r + bb = k := ⟨(1 + r + bb).toNat, by omega⟩
          rw [hk] at hft HHL
          have hk1 : 1 ≤ k := by omega
          have hIk : I + k ≤ n := by have := HAL.out; omega
          have HSp := Lib.hid hs
          have HKK := Lib.hid hk
          have HXd := Lib.hid hxd
          clear hs hsS hok hfx hxw hxd hen hs5 hg5 hrg GB GB5 hrg5 hle hl0 hr0 hb0' hft hk
          by_cases hold : (I : Int) ∈ olderL g L
          · have HCo := Lib.hid (contains_int A3 N c3 _ (olderL g L) I true _ (Reads.of_own GB6.o.1) (by omega) (decide_eq_true hold))
            have HFi : Hid ((done ++ [(I : Int)]).filter (fun x => !decide (x ∈ olderL g L)) = done.filter (fun x => !decide (x ∈ olderL g L))) := by show _ = _; rw [List.filter_append]; simp [hold]
            clear hold
            go_wp2_with (go_at_call 20; refine HCo.out.mono ?_; rintro e w6 ⟨rfl, rfl⟩)
            go_roundw
            case rel => exact ⟨done ++ [(I : Int)], cnt5, a', A1, c1, hrg6, by rw [HFi.out]; exact HF, GB6⟩
            case measure => rw [hrg6.left_eq, HLE.out]; exact hlt5
          · have HCo := Lib.hid (contains_int A3 N c3 _ (olderL g L) I false _ (Reads.of_own GB6.o.1) (by omega) (decide_eq_false hold))
            have HFi : Hid ((done ++ [(I : Int)]).filter (fun x => !decide (x ∈ olderL g L)) = done.filter (fun x => !decide (x ∈ olderL g L)) ++ [(I : Int)]) := by show _ = _; rw [List.filter_append]; simp [hold]
            have HF9 : Hid (Freed a ((fillL a' I k 0).set I (wordOf 0 ((k : Int) - 1) 0 true)) (done.filter (fun x => !decide (x ∈ olderL g L)) ++ [(I : Int)])) := by
              have h1 := (HF.out.step H0.out (s := ⟨I, r, bb, t, false⟩) HSp.out (fun h => HXd.out (List.mem_filter.1 h).1)).2
              unfold freeAt Spot.long at h1
              dsimp only at h1
              rw [HKK.out] at h1
              exact h1
            clear hold
            go_wp2_with (first
              | (go_at_call 20; refine HCo.out.mono ?_; rintro e w6 ⟨rfl, rfl⟩)
              | fail)
            refine (HHL.out _).mono ?_
            rintro e w7 ⟨rfl, hb7⟩
            have GB7 := GB6.below hb7
            have hrg7 := hrg6.below hb7
            have HFl := Lib.hid (fill_okT A1 n c1 _ a' I k 0 w7 (Reads.of_own GB7.a.1) (Nat.le_refl _) (fillE_ok.2 ⟨by omega, by omega, by omega, by omega, by omega⟩) (own_u64_ok GB7.a) rfl)
            obtain ⟨q0, q1, q2⟩ := GB7.q.three
            clear GB6 hrg6 hb7 HHL
            go_wp2_with fail
            refine HFl.out.mono ?_
            rintro e w8 ⟨hb8, A6, c6, rfl, hO8⟩
            have GB8 := GB7.below hb8
            have hrg8 := hrg7.below hb8
            obtain ⟨q6, e6, hq6⟩ := own_ptr hO8.1 (by omega)
            subst e6
            have hO8' := hO8.mono GB7.b.size
            have f0 := GB8.q.frozen 0
            have qq0 := GB8.q.three.1
            have GB9 := GB8.laid hO8'
            have hrg9 : RangeSt (w8.setCell ⟨q, 0, none⟩ (.slice (some ⟨q6, 0, none⟩) n c6)) Try.prog 3 .i64 bm rp 300 (headF (spotsL a)) (done ++ [(I : Int)]) cnt5 := hrg8.kept (row := some q) (grown_set w8 q 0 _) (hrg8.ne_blk GB8.q) (by simp; omega)
            obtain ⟨W9, hW9⟩ : ∃ W9, W9 = w8.setCell ⟨q, 0, none⟩ (.slice (some ⟨q6, 0, none⟩) n c6) := ⟨_, rfl⟩
            rw [← hW9] at GB9 hrg9
            have HW9 := Lib.hid hW9
            have HWd := Lib.hid (fun W => hword_ok 0 ((k : Int) - 1) 0 true W (headE_ok.2 ⟨by omega, by omega, by omega, by omega, by omega, by omega, by omega, fun _ => ⟨rfl, rfl⟩⟩))
            have HWw : Hid ((Lit.int .u64 (wordOf 0 ((k : Int) - 1) 0 true)).wf = true) := by show _ = _; unfold wordOf; simp [Lit.wf, IntKind.min, IntKind.max, IntKind.signed, IntKind.bits]; omega
            have wk : IntKind.i64.wrap ((k : Int) - 1) = (k : Int) - 1 := IntWalk.i64_in _ (by omega)
            have hIn : I < n := by omega
            have hIn2 : (I : Int) < n := by omega
            have hI0 : (0 : Int) ≤ I := by omega
            generalize wordOf 0 ((k : Int) - 1) 0 true = Wv at *
            clear hW9 GB7 hrg7 GB8 hrg8 hb8 hO8 hO8' HFl
            go_upto_region 11 with fail
            rw [← HW9.out]
            have GBd := GB9.below (Below.refl _ W9).drew
            have hbd : Below W9.heap.size W9 W9.drew := (Below.refl _ W9).drew
            obtain ⟨q0, q1, q2⟩ := GBd.q.three
            obtain ⟨-, ⟨ov, hov⟩, hof⟩ := GBd.a.setElem hIn (u := .int .u64 Wv) ⟨_, rfl, HWw.out⟩
            have nq : q ≠ q6 := fun e => own_blk GBd.a.1 GBd.q (by decide) (by rw [e]; rfl)
            have nq' : q6 ≠ q := fun e => nq e.symm
            go_region_held3 (fun w' => w'.cell? ⟨q, 0, none⟩ = some (.slice (some ⟨q6, 0, none⟩) n c6)) (go_keep)
              (first
                | (go_at_call 62; refine (HWd.out _).mono ?_; rintro e wz ⟨rfl, hbz⟩; have hbz := hbd.trans hbz; have GBz := GB9.below hbz; obtain ⟨q0, q1, q2⟩ := GBz.q.three; obtain ⟨-, ⟨ov, hov⟩, hof⟩ := GBz.a.setElem hIn (u := .int .u64 Wv) ⟨_, rfl, HWw.out⟩))
            all_goals
              have GBf := GBz.word hIn HWw.out
              have hrgz := hrg9.below hbz
              have hrgf := hrgz.kept (row := some q6) (grown_set wz q6 I (.int .u64 Wv)) (by have := (hrgz.ne_row GBz.a.1).1; exact this) (by have := (hrgz.ne_row GBz.a.1).2; exact this)
              go_wp2_with fail
              go_roundw
              case rel => exact ⟨done ++ [(I : Int)], cnt5, _, _, _, hrgf, by rw [HFi.out]; exact HF9, GBf⟩
              case measure => rw [hrgf.left_eq, HLE.out]; exact hlt5
  · have HEX := Lib.hid hex
    have DR1 := DR.below hb1 DR.lt
    have hb01 := below_step hb0 hb1
    have f0 := DR1.frozen 0
    have f1 := DR1.frozen 1
    have f2 := DR1.frozen 2
    obtain ⟨r0, r1, r2⟩ := DR1.three
    have HBf := Lib.hid (below_block3 (g := w.heap.size + 1) hb01 (Nat.le_succ _) (.slice none 0 0) (.slice none 0 0) (.slice none 0 0))
    have HZf := Lib.hid (DR1.store3 (.slice none 0 0) (.slice none 0 0) (.slice none 0 0)).three
    clear hex hb1
    go_wp2
    refine bodyPost_ret (v := .tuple #[.agg #[.slice none 0 0, .slice none 0 0, .slice none 0 0], .int .i64 5]) ?_ rfl ⟨HBf.out, .inl ⟨HEX.out, rfl⟩⟩
    obtain ⟨z0, z1, z2⟩ := HZf.out
    simp only [results, Try.results25]
    go_simp
end Go.Proofs.Ytgkoaambdejkdaa

namespace Go.Proofs.Ytgkoaambdejkdaa
open Go.ChangeShapes Go.WideShapes Go.ChangeAt Go.RowKit Go.Joins Go.Deep
set_option maxRecDepth 100000 in
theorem open_ages {H : Type} {enc : TypeId × Value → H} {W : World} {r : Reach} {base : Nat} {sp : Nat → Bool} {v : Value} {d : DataW H} {ps : List MemPlace}
    (hval : Value.okWide Try.prog W r base 52 v) (hlt : ∀ x ∈ ps, x.block < W.heap.size) (h : DataW.Trod enc Try.prog W 0 sp true 52 v d ps) (hw : ∀ m ∈ d.weights Try.prog 52, m ≤ reachBytes) :
    ∃ (A : Option Addr) (n c : Nat) (G : Option Addr) (gn gc : Nat) (K : Option Addr) (kn kc : Nat) (a g b : List Int), v = .agg #[.slice A n c, .slice G gn gc, .slice K kn kc] ∧ TriR W W.heap.size A n c G gn K kn a g b ∧ n ≤ 140737488355328 ∧ gn + kn ≤ 35184372087808 := by
  obtain ⟨c0, c1, c2, y0, y1, y2, m, rfl, rfl, rfl, hy0, hy1, hy2⟩ := open_agg3 Try.underlying52 (by kernel_rfl) (by kernel_rfl) hval h
  have k4 : Try.prog.cellsOf 43 = 1 := by kernel_rfl
  have k0 : Try.prog.cellsOf 3 = 1 := by kernel_rfl
  have k8 : Try.prog.bytesOf 43 = 8 := by kernel_rfl
  obtain ⟨A, n, c, a, rfl, a1, a2, a3, a4, a5⟩ := trod_nums2 Try.underlying22 Try.underlying43 k4 (fun x hx => hlt x (by simp [hx])) hy0
  obtain ⟨G, gn, gc, g, rfl, g1, g2, g3, g4, g5⟩ := trod_nums2 Try.underlying23 Try.underlying3 k0 (fun x hx => hlt x (by simp [hx])) hy1
  obtain ⟨K, kn, kc, b, rfl, b1, b2, b3, b4, b5⟩ := trod_nums2 Try.underlying23 Try.underlying3 k0 (fun x hx => hlt x (by simp [hx])) hy2
  have hw0 := nums_weight Try.underlying22 k8 a5 (fun m hm => hw m (by simp [DataW.weights, Try.underlying52, DataW.weightsEach, hm]))
  have hw1 := nums_weight Try.underlying23 k_int_bytes g5 (fun m hm => hw m (by simp [DataW.weights, Try.underlying52, DataW.weightsEach, hm]))
  have hw2 := nums_weight Try.underlying23 k_int_bytes b5 (fun m hm => hw m (by simp [DataW.weights, Try.underlying52, DataW.weightsEach, hm]))
  exact ⟨A, n, c, G, gn, gc, K, kn, kc, a, g, b, rfl, ⟨a3, g3, b3, a1, a4, g4, b4⟩, by omega, by omega⟩
theorem youth_ages : AgesOk [1, 1] [] [] := ⟨threes_facts, List.Pairwise.nil, List.Pairwise.nil, by simp, by simp, by simp⟩
theorem youth_one {L : List Int} (h : KeptY [1, 1] [] [] [0] L) : L.length = 1 := by
  have hb : begsL (spotsL [1, 1]) = [0] := by rw [tints_facts.2]; rfl
  have h0 : (0 : Int) ∈ L := (h.roots 0 (by simp)).resolve_left (by simp)
  have h1 := nodup_len h.once (M := [0]) (fun x hx => by have := h.begs x hx; rwa [hb] at this)
  have h2 := nodup_len (L := [0]) (M := L) (by simp) (fun x hx => by rw [List.mem_singleton] at hx; subst hx; exact h0)
  simp only [List.length_cons, List.length_nil] at h1 h2
  omega
set_option maxHeartbeats 1000000 in
theorem youths_true (w : World) : Calls Try.prog 24 #[] w fun e w' => e = .returned (.bool true) ∧ Below w.heap.size w w' := by
  have H := Lib.hid (fun A A2 w hr hr2 => youngKeep_ok A 2 2 none 0 0 none 0 0 [1, 1] [] [] A2 1 1 [0] w hr (by decide) (by decide) (Reads.none_) (by simp) (Reads.none_) (by simp) hr2 (by decide) (by decide) youth_ages)
  have hbg : (0 : Int) ∈ begsL (spotsL [1, 1]) := tints_reached.begs 0 (by simp)
  have hn1 := reads_new w [.int .u64 1, .int .u64 1] 43 2 1 rfl
  have hb1 := below_new w (.cells #[.int .u64 1, .int .u64 1] 43)
  have hn2 := reads_new (w.alloc (.cells #[.int .u64 1, .int .u64 1] 43)) [.int .i64 0] 3 1 1 rfl
  have hb2 := below_new (w.alloc (.cells #[.int .u64 1, .int .u64 1] 43)) (.cells #[.int .i64 0] 3)
  have hn3 := (hn1.below (hb2.mono (by simp))).more (show w.heap.size + 1 ≤ ((w.alloc (.cells #[.int .u64 1, .int .u64 1] 43)).alloc (.cells #[.int .i64 0] 3)).heap.size by simp)
  simp only [World.size_alloc] at hn2
  have HS := fun w : World => (show Calls Try.prog 35 #[] w fun e w' => e = .returned (.slice (some ⟨w.heap.size, 0, none⟩) 2 2) ∧ w' = w.alloc (.cells #[.int .u64 1, .int .u64 1] 43) by
    go_enter Try.func35, Try.ntmps35
    go_wp2
    go_ret
    exact ⟨rfl, rfl⟩)
  have HS := Lib.hid HS
  have HB := Lib.hid hbg
  clear hbg
  go_enter Try.func24, Try.ntmps24
  go_wp2_with fail
  refine (HS.out _).mono ?_
  rintro e w1 ⟨rfl, rfl⟩
  go_wp2_with fail
  refine (H.out _ _ _ (by simpa using hn3) (by simpa using hn2)).mono ?_
  rintro e w2 ⟨hb3, ⟨-, L, A1, c1, hL, rfl, -⟩ | ⟨⟨x, hx, hn⟩, -⟩⟩
  · have hl := youth_one hL
    generalize L.length = m at *
    subst hl
    go_wp2
    go_ret
    exact ⟨by first | rfl | simp, below_step (below_step hb1 hb2) hb3⟩
  · rw [List.mem_singleton] at hx
    subst hx
    exact absurd HB.out hn
end Go.Proofs.Ytgkoaambdejkdaa

namespace Go.Proofs.Ytgkoaambdejkdaa
open Go.ChangeShapes Go.WideShapes Go.ChangeAt Go.RowKit Go.Joins Go.Deep
set_option maxRecDepth 100000 in
theorem open_tri8 {H : Type} {enc : TypeId × Value → H} {W : World} {r : Reach} {base : Nat} {sp : Nat → Bool} {v : Value} {d : DataW H} {ps : List MemPlace}
    (hval : Value.okWide Try.prog W r base 25 v) (hlt : ∀ x ∈ ps, x.block < W.heap.size) (h : DataW.Trod enc Try.prog W 0 sp true 25 v d ps) (hw : ∀ m ∈ d.weights Try.prog 25, m ≤ reachBytes) :
    ∃ (A : Option Addr) (n c : Nat) (G : Option Addr) (gn gc : Nat) (K : Option Addr) (kn kc : Nat) (a g b : List Int), v = .agg #[.slice A n c, .slice G gn gc, .slice K kn kc] ∧ TriR W W.heap.size A n c G gn K kn a g b ∧ n * 8 ≤ 140737488351232 ∧ gn * 8 ≤ 140737488351232 ∧ kn * 8 ≤ 140737488351232 := by
  obtain ⟨c0, c1, c2, y0, y1, y2, m, rfl, rfl, rfl, hy0, hy1, hy2⟩ := open_agg3 Try.underlying25 (by kernel_rfl) (by kernel_rfl) hval h
  have k4 : Try.prog.cellsOf 43 = 1 := by kernel_rfl
  have k0 : Try.prog.cellsOf 3 = 1 := by kernel_rfl
  have k8 : Try.prog.bytesOf 43 = 8 := by kernel_rfl
  obtain ⟨A, n, c, a, rfl, a1, a2, a3, a4, a5⟩ := trod_nums2 Try.underlying22 Try.underlying43 k4 (fun x hx => hlt x (by simp [hx])) hy0
  obtain ⟨G, gn, gc, g, rfl, g1, g2, g3, g4, g5⟩ := trod_nums2 Try.underlying23 Try.underlying3 k0 (fun x hx => hlt x (by simp [hx])) hy1
  obtain ⟨K, kn, kc, b, rfl, b1, b2, b3, b4, b5⟩ := trod_nums2 Try.underlying23 Try.underlying3 k0 (fun x hx => hlt x (by simp [hx])) hy2
  have hw0 := nums_weight Try.underlying22 k8 a5 (fun m hm => hw m (by simp [DataW.weights, Try.underlying25, DataW.weightsEach, hm]))
  have hw1 := nums_weight Try.underlying23 k_int_bytes g5 (fun m hm => hw m (by simp [DataW.weights, Try.underlying25, DataW.weightsEach, hm]))
  have hw2 := nums_weight Try.underlying23 k_int_bytes b5 (fun m hm => hw m (by simp [DataW.weights, Try.underlying25, DataW.weightsEach, hm]))
  exact ⟨A, n, c, G, gn, gc, K, kn, kc, a, g, b, rfl, ⟨a3, g3, b3, a1, a4, g4, b4⟩, hw0, hw1, hw2⟩
set_option maxRecDepth 100000 in
theorem open_ages8 {H : Type} {enc : TypeId × Value → H} {W : World} {r : Reach} {base : Nat} {sp : Nat → Bool} {v : Value} {d : DataW H} {ps : List MemPlace}
    (hval : Value.okWide Try.prog W r base 52 v) (hlt : ∀ x ∈ ps, x.block < W.heap.size) (h : DataW.Trod enc Try.prog W 0 sp true 52 v d ps) (hw : ∀ m ∈ d.weights Try.prog 52, m ≤ reachBytes) :
    ∃ (A : Option Addr) (n c : Nat) (G : Option Addr) (gn gc : Nat) (K : Option Addr) (kn kc : Nat) (a g b : List Int), v = .agg #[.slice A n c, .slice G gn gc, .slice K kn kc] ∧ TriR W W.heap.size A n c G gn K kn a g b ∧ n * 8 ≤ 140737488351232 ∧ gn * 8 ≤ 140737488351232 ∧ kn * 8 ≤ 140737488351232 := by
  obtain ⟨c0, c1, c2, y0, y1, y2, m, rfl, rfl, rfl, hy0, hy1, hy2⟩ := open_agg3 Try.underlying52 (by kernel_rfl) (by kernel_rfl) hval h
  have k4 : Try.prog.cellsOf 43 = 1 := by kernel_rfl
  have k0 : Try.prog.cellsOf 3 = 1 := by kernel_rfl
  have k8 : Try.prog.bytesOf 43 = 8 := by kernel_rfl
  obtain ⟨A, n, c, a, rfl, a1, a2, a3, a4, a5⟩ := trod_nums2 Try.underlying22 Try.underlying43 k4 (fun x hx => hlt x (by simp [hx])) hy0
  obtain ⟨G, gn, gc, g, rfl, g1, g2, g3, g4, g5⟩ := trod_nums2 Try.underlying23 Try.underlying3 k0 (fun x hx => hlt x (by simp [hx])) hy1
  obtain ⟨K, kn, kc, b, rfl, b1, b2, b3, b4, b5⟩ := trod_nums2 Try.underlying23 Try.underlying3 k0 (fun x hx => hlt x (by simp [hx])) hy2
  have hw0 := nums_weight Try.underlying22 k8 a5 (fun m hm => hw m (by simp [DataW.weights, Try.underlying52, DataW.weightsEach, hm]))
  have hw1 := nums_weight Try.underlying23 k_int_bytes g5 (fun m hm => hw m (by simp [DataW.weights, Try.underlying52, DataW.weightsEach, hm]))
  have hw2 := nums_weight Try.underlying23 k_int_bytes b5 (fun m hm => hw m (by simp [DataW.weights, Try.underlying52, DataW.weightsEach, hm]))
  exact ⟨A, n, c, G, gn, gc, K, kn, kc, a, g, b, rfl, ⟨a3, g3, b3, a1, a4, g4, b4⟩, hw0, hw1, hw2⟩
end Go.Proofs.Ytgkoaambdejkdaa

namespace Go.Proofs.Ytgkoaambdejkdaa
open Go.RowKit
set_option maxHeartbeats 400000 in
theorem youngPut_any (base : Nat) (A : Option Addr) (n c : Nat) (l : List Int) (x : Int) (w : World) (hown : OwnT w base 3 1 (isNum .i64) (.slice A n c) n (l.map (.int .i64))) (hbase : base ≤ w.heap.size) (hn : n ≤ 1000) (hs : l.Pairwise (fun a b => a < b)) (hx : (Lit.int .i64 x).wf = true) :
    Calls Try.prog 71 #[.slice A n c, .int .i64 x] w fun e w' => ∃ A' c', e = .returned (.slice A' (putL l x).length c') ∧ OwnT w' base 3 1 (isNum .i64) (.slice A' (putL l x).length c') (putL l x).length ((putL l x).map (.int .i64)) ∧ Below base w w' ∧ w.grownBy w' (Value.slice A n c).ownBlock ∧
      ∀ k, (Value.slice A' (putL l x).length c').ownBlock = some k → (Value.slice A n c).ownBlock = some k ∨ w.heap.size ≤ k := by
  have hll : l.length = n := by have := hown.1.1; simpa using this
  have H := Lib.hid (search_any base A n c l x w hown.1 hn hs)
  have HO := Lib.hid hown
  by_cases hm : x ∈ l
  · rw [decide_eq_true hm] at H
    have hp : putL l x = l := by unfold putL; rw [if_pos hm]
    rw [hp, hll]
    clear hm hp hown hll
    generalize cntL l x = k at *
    go_enter Try.func71, Try.ntmps71
    go_wp2_with fail
    refine H.out.mono ?_
    rintro e w1 ⟨rfl, q, rfl⟩
    go_wp2
    go_ret
    exact ⟨A, c, rfl, HO.out.drewN q, below_drewN (Below.refl _ _) q, ⟨rfl, rfl, rfl, Nat.le_refl _, fun _ _ _ => rfl⟩, fun k hk => .inl hk⟩
  · rw [decide_eq_false hm] at H
    have hp : putL l x = l.take (cntL l x) ++ x :: l.drop (cntL l x) := by unfold putL; rw [if_neg hm]; rfl
    have hk := cntL_le l x
    have hpl : (putL l x).length = n + 1 := by rw [putL, if_neg hm, insL_length, hll]
    rw [hpl, hp]
    rw [hll] at hk
    clear hm hp hpl hown hll
    generalize cntL l x = k at *
    go_enter Try.func71, Try.ntmps71
    go_wp2_with fail
    refine H.out.mono ?_
    rintro e w1 ⟨rfl, q, rfl⟩
    have HI := Lib.hid (insertInt_any base A n c k l w.heap.size x ((w.drewN q).alloc (.cells #[.int .i64 x] 3)) ((HO.out.drewN q).alloc _) (by simp; omega) hk hn (Blk.new (w.drewN q) 3 #[.int .i64 x]) hx (fun h => by have := (HO.out.1.lt _ h).2; omega))
    have hb1 : Below base w ((w.drewN q).alloc (.cells #[.int .i64 x] 3)) := (below_drewN (Below.refl base w) q).alloc hbase _
    go_wp2_with fail
    refine HI.out.mono ?_
    rintro e w2 ⟨A', c', rfl, hown2, hb2, hg2, hbl⟩
    have HG2 := Lib.hid hg2
    have HBl := Lib.hid hbl
    clear hg2 hbl
    go_wp2
    go_ret
    refine ⟨A', c', rfl, hown2, hb1.trans hb2, (show w.grownBy (w.drewN q) _ from ⟨rfl, rfl, rfl, Nat.le_refl _, fun _ _ _ => rfl⟩).trans ((World.grownBy_alloc (w.drewN q) _ _).trans HG2.out), fun k hk => ?_⟩
    rcases HBl.out with h | h
    · rw [h] at hk; exact .inl hk
    · rw [h] at hk; injection hk with hk; right; rw [← hk]; simp
end Go.Proofs.Ytgkoaambdejkdaa

namespace Go.Proofs.Ytgkoaambdejkdaa
open Go.RowKit
set_option maxRecDepth 100000 in
set_option maxHeartbeats 4000000 in
theorem youngCopied_any (A : Option Addr) (n c : Nat) (G : Option Addr) (gn gc : Nat) (K : Option Addr) (kn kc : Nat) (a g b : List Int) (w : World)
    (hr : Reads w w.heap.size 1 A n (a.map (.int .u64))) (ha : ∀ x ∈ a, (Lit.int .u64 x).wf = true) (hg : Reads w w.heap.size 1 G gn (g.map (.int .i64))) (hgx : ∀ x ∈ g, (Lit.int .i64 x).wf = true) (hk : Reads w w.heap.size 1 K kn (b.map (.int .i64))) (hkx : ∀ x ∈ b, (Lit.int .i64 x).wf = true)
    (h1 : n ≤ 1000000) (h2 : gn ≤ 1000000) (h3 : kn ≤ 1000000) :
    Calls Try.prog 70 #[.agg #[.slice A n c, .slice G gn gc, .slice K kn kc]] w fun e w' => Below w.heap.size w w' ∧ ∃ (A1 : Option Addr) (c1 : Nat) (A2 : Option Addr) (c2 : Nat) (A3 : Option Addr) (c3 : Nat),
      e = .returned (.agg #[.slice A1 n c1, .slice A2 gn c2, .slice A3 kn c3]) ∧ TriO w' w.heap.size A1 n c1 A2 gn c2 A3 kn c3 a g b := by
  have C1 := Lib.hid (fun W r hB => clone_u64T A n c w.heap.size (a.map (.int .u64)) W r hB (fun u hu => by obtain ⟨x, _, rfl⟩ := List.mem_map.1 hu; rfl) (nums_num ha 1) (by omega))
  have C2 := Lib.hid (fun W r hB => clone_intT G gn gc w.heap.size (g.map (.int .i64)) W r hB (ints_one _) (nums_num hgx 1) (by omega))
  have C3 := Lib.hid (fun W r hB => clone_intT K kn kc w.heap.size (b.map (.int .i64)) W r hB (ints_one _) (nums_num hkx 1) (by omega))
  have hb0 := below_new w (.cells #[.slice A n c, .slice G gn gc, .slice K kn kc] 52)
  have hb := hb0.alloc hb0.size (.cells #[.slice none 0 0, .slice none 0 0, .slice none 0 0] 52)
  have DS := (Blk.new w 52 #[.slice A n c, .slice G gn gc, .slice K kn kc]).alloc (.cells #[.slice none 0 0, .slice none 0 0, .slice none 0 0] 52)
  have DR := Blk.new (w.alloc (.cells #[.slice A n c, .slice G gn gc, .slice K kn kc] 52)) 52 #[.slice none 0 0, .slice none 0 0, .slice none 0 0]
  rw [World.size_alloc] at DR
  clear hb0
  go_enter Try.func70, Try.ntmps70
  go_upto_region 1 with fail
  have hb := hb.drew
  have DS := DS.drew
  have DR := DR.drew
  obtain ⟨s0, s1, s2⟩ := DS.three
  obtain ⟨r0, r1, r2⟩ := DR.three
  have f0 := DR.frozen 0
  have f1 := DR.frozen 1
  have f2 := DR.frozen 2
  go_region_held3 (fun w' => w'.cell? ⟨w.heap.size, 0, none⟩ = some (.slice A n c) ∧ w'.cell? ⟨w.heap.size, 1, none⟩ = some (.slice G gn gc) ∧ w'.cell? ⟨w.heap.size, 2, none⟩ = some (.slice K kn kc)) (go_keep)
    (first
      | (go_at_call 31; (with_reducible refine (C1.out _ (hr.below hb) hb.size).mono ?_); rintro e wz ⟨A1, c1, rfl, oz, hbz⟩; have DS := DS.below hbz DS.lt; have DR := DR.below hbz DR.lt; obtain ⟨s0, s1, s2⟩ := DS.three; obtain ⟨r0, r1, r2⟩ := DR.three; have f0 := DR.frozen 0; have f1 := DR.frozen 1; have f2 := DR.frozen 2; (try have o1 := OwnT.below o1 hbz); (try have o2 := OwnT.below o2 hbz); (try have o3 := OwnT.below o3 hbz); have o1 := OwnT.mono oz hb.size; clear oz; have hb := hb.trans (hbz.mono hb.size))
      | (go_at_call 32; (with_reducible refine (C2.out _ (hg.below hb) hb.size).mono ?_); rintro e wz ⟨A2, c2, rfl, oz, hbz⟩; (try have ap := own_apart2 o3 oz); have DS := DS.below hbz DS.lt; have DR := DR.below hbz DR.lt; obtain ⟨s0, s1, s2⟩ := DS.three; obtain ⟨r0, r1, r2⟩ := DR.three; have f0 := DR.frozen 0; have f1 := DR.frozen 1; have f2 := DR.frozen 2; (try have o1 := OwnT.below o1 hbz); (try have o2 := OwnT.below o2 hbz); (try have o3 := OwnT.below o3 hbz); have o2 := OwnT.mono oz hb.size; clear oz; have hb := hb.trans (hbz.mono hb.size))
      | (go_at_call 32; (with_reducible refine (C3.out _ (hk.below hb) hb.size).mono ?_); rintro e wz ⟨A3, c3, rfl, oz, hbz⟩; (try have ap := own_apart2 o2 oz); have DS := DS.below hbz DS.lt; have DR := DR.below hbz DR.lt; obtain ⟨s0, s1, s2⟩ := DS.three; obtain ⟨r0, r1, r2⟩ := DR.three; have f0 := DR.frozen 0; have f1 := DR.frozen 1; have f2 := DR.frozen 2; (try have o1 := OwnT.below o1 hbz); (try have o2 := OwnT.below o2 hbz); (try have o3 := OwnT.below o3 hbz); have o3 := OwnT.mono oz hb.size; clear oz; have hb := hb.trans (hbz.mono hb.size)))
  all_goals
    have HO := Lib.hid ((TriO.mk o1 o2 o3 (by first | exact ap | exact fun k h h' => ap k h' h) : TriO _ w.heap.size A1 n c1 A2 gn c2 A3 kn c3 a g b).store DR (by decide) (by decide))
    clear o1 o2 o3 s0 s1 s2
    go_wp2_with fail
    refine bodyPost_ret (v := .agg #[.slice A1 n c1, .slice A2 gn c2, .slice A3 kn c3]) ?_ rfl ⟨below_block3 hb (Nat.le_succ _) _ _ _, A1, c1, A2, c2, A3, c3, rfl, HO.out _ _ _⟩
    obtain ⟨z0, z1, z2⟩ := (DR.store3 (.slice A1 n c1) (.slice A2 gn c2) (.slice A3 kn c3)).three
    simp only [results, Try.results70]
    go_simp
end Go.Proofs.Ytgkoaambdejkdaa
