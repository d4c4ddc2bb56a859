/-
  Texts joined: StoreBox OpV QStoreColl TurnsLaw SetPay TakeLaw.
-/
import Derived.Test.YtbmkbnalembbjaaGreatDoorQ0
import Derived.Test.YtbmkbnalembbjaaGreatDoorQ2
import Derived.Test.YtbmkbnalembbjaaGreatDoorQ4
import Derived.Test.YtbmkbnalembbjaaGreatDoorQ5
import Derived.Test.YtbmkbnalembbjaaGreatDoorQ7
import Derived.Test.YtbmkbnalembbjaaGreatDoorQ13
namespace Go.Proofs.YtbmkbnalembbjaaGreatDoor
open Go.RowKit
def Clk (base : Nat) (e : TypeId) (k n : Nat) (xs : List Value) (W : World) (v : Value) : Prop := ∃ A c, v = .slice A n c ∧ W.ownsRow base e k (.slice A n c) n xs
theorem Clk.below {base n k : Nat} {e : TypeId} {xs : List Value} {W W' : World} {v : Value} (h : Clk base e k n xs W v) (hb : Below W.heap.size W W') : Clk base e k n xs W' v := by
  obtain ⟨A, c, h1, h2⟩ := h
  exact ⟨A, c, h1, own_below h2 hb⟩
theorem Clk.block {base n k p : Nat} {e t : TypeId} {xs : List Value} {W : World} {v : Value} {cs : Array Value} (h : Clk base e k n xs W v) (hB : Blk W p t cs) (he : e ≠ t) (x0 x1 x2 x3 : Value) : Clk base e k n xs ((((W.setCell ⟨p, 0, none⟩ x0).setCell ⟨p, 1, none⟩ x1).setCell ⟨p, 2, none⟩ x2).setCell ⟨p, 3, none⟩ x3) v := by
  obtain ⟨A, c, h1, h2⟩ := h
  exact ⟨A, c, h1, own_block4 h2 hB he x0 x1 x2 x3⟩
def Bx4 (base : Nat) (W : World) (v x0 x1 x2 x3 : Value) : Prop := ∃ p, v = .pointer (some ⟨p, 0, none⟩) ∧ base ≤ p ∧ Blk W p 28 #[x0, x1, x2, x3]
theorem Bx4.below {base : Nat} {W W' : World} {v x0 x1 x2 x3 : Value} (h : Bx4 base W v x0 x1 x2 x3) (hb : Below W.heap.size W W') : Bx4 base W' v x0 x1 x2 x3 := by
  obtain ⟨p, h1, h2, h3⟩ := h
  exact ⟨p, h1, h2, h3.below hb h3.lt⟩
structure R4B (w0 : World) (g : Nat) (A : Option Addr) (n c : Nat) (RA : Option Addr) (rn rc : Nat) (PA : Option Addr) (pn pc : Nat) (HA : Option Addr) (hn hc : Nat) (S : St) (l : Array Bool) (v31 v32 v33 v34 v35 v36 v37 v38 v39 v40 v41 v42 v43 v9 : Value) (W : World) : Prop where
  sz : l.size = 15
  bw : Below w0.heap.size w0 W
  l12 : Dn l 12 → Dn l 2 ∧ Dn l 5 ∧ Dn l 8 ∧ Dn l 11
  l14 : Dn l 14 → ∀ j, j < 14 → Dn l j
  d0 : Dn l 0 → v31 = .pointer (some ⟨g, 0, none⟩)
  d1 : Dn l 1 → v32 = .slice A n c
  d2 : Dn l 2 → Clk w0.heap.size 45 1 n (S.a.map (.int .u64)) W v33
  d3 : Dn l 3 → v34 = .pointer (some ⟨g, 1, none⟩)
  d4 : Dn l 4 → v35 = .slice RA rn rc
  d5 : Dn l 5 → Clk w0.heap.size 3 1 rn (S.r.map (.int .i64)) W v36
  d6 : Dn l 6 → v37 = .pointer (some ⟨g, 2, none⟩)
  d7 : Dn l 7 → v38 = .slice PA pn pc
  d8 : Dn l 8 → Clk w0.heap.size 57 2 pn (runsC S.p) W v39
  d9 : Dn l 9 → v40 = .pointer (some ⟨g, 3, none⟩)
  d10 : Dn l 10 → v41 = .slice HA hn hc
  d11 : Dn l 11 → Clk w0.heap.size 60 3 hn (slotsC S.l) W v42
  d12 : Dn l 12 → v43 = .agg #[v33, v36, v39, v42]
  d13 : Dn l 13 → ∃ x0 x1 x2 x3, Bx4 w0.heap.size W v9 x0 x1 x2 x3 ∧ (Dn l 14 → x0 = v33 ∧ x1 = v36 ∧ x2 = v39 ∧ x3 = v42)
section
variable {w0 W W' : World} {g : Nat} {A : Option Addr} {n c : Nat} {RA : Option Addr} {rn rc : Nat} {PA : Option Addr} {pn pc : Nat} {HA : Option Addr} {hn hc : Nat} {S : St} {l : Array Bool} {v31 v32 v33 v34 v35 v36 v37 v38 v39 v40 v41 v42 v43 v9 : Value}
theorem R4B.start (h : Below w0.heap.size w0 W) : R4B w0 g A n c RA rn rc PA pn pc HA hn hc S (Array.replicate 15 false) v31 v32 v33 v34 v35 v36 v37 v38 v39 v40 v41 v42 v43 v9 W :=
  ⟨by simp, h, fun h => absurd h Dn.none, fun h => absurd h Dn.none, fun h => absurd h Dn.none, fun h => absurd h Dn.none, fun h => absurd h Dn.none, fun h => absurd h Dn.none, fun h => absurd h Dn.none, fun h => absurd h Dn.none, fun h => absurd h Dn.none, fun h => absurd h Dn.none, fun h => absurd h Dn.none, fun h => absurd h Dn.none, fun h => absurd h Dn.none, fun h => absurd h Dn.none, fun h => absurd h Dn.none, fun h => absurd h Dn.none⟩
theorem R4B.s0 {x : Value} (h : R4B w0 g A n c RA rn rc PA pn pc HA hn hc S l v31 v32 v33 v34 v35 v36 v37 v38 v39 v40 v41 v42 v43 v9 W) (hu : ¬ Dn l 0) (hb : Below W.heap.size W W') (hv : x = .pointer (some ⟨g, 0, none⟩)) : R4B w0 g A n c RA rn rc PA pn pc HA hn hc S (l.setIfInBounds 0 true) x v32 v33 v34 v35 v36 v37 v38 v39 v40 v41 v42 v43 v9 W' := by
  have hs : 0 < l.size := by rw [h.sz]; decide
  have e : ∀ {j}, j ≠ 0 → Dn (l.setIfInBounds 0 true) j → Dn l j := fun hj hd => ((Dn.set hs).1 hd).resolve_left hj
  have e2 : ∀ {j}, Dn l j → Dn (l.setIfInBounds 0 true) j := fun hd => (Dn.set hs).2 (.inr hd)
  have hnl : ¬ Dn (l.setIfInBounds 0 true) 14 := fun hl => hu (h.l14 (e (by decide) hl) 0 (by decide))
  exact ⟨by rw [Array.size_setIfInBounds]; exact h.sz, below_step h.bw hb, fun hd => by obtain ⟨a1, a2, a3, a4⟩ := h.l12 (e (by decide) hd); exact ⟨e2 a1, e2 a2, e2 a3, e2 a4⟩, fun hd => absurd hd hnl, fun _ => hv, fun hd => h.d1 (e (by decide) hd), fun hd => (h.d2 (e (by decide) hd)).below hb, fun hd => h.d3 (e (by decide) hd), fun hd => h.d4 (e (by decide) hd), fun hd => (h.d5 (e (by decide) hd)).below hb, fun hd => h.d6 (e (by decide) hd), fun hd => h.d7 (e (by decide) hd), fun hd => (h.d8 (e (by decide) hd)).below hb, fun hd => h.d9 (e (by decide) hd), fun hd => h.d10 (e (by decide) hd), fun hd => (h.d11 (e (by decide) hd)).below hb, fun hd => h.d12 (e (by decide) hd), fun hd => by obtain ⟨x0, x1, x2, x3, h1, -⟩ := h.d13 (e (by decide) hd); exact ⟨x0, x1, x2, x3, h1.below hb, fun hd => absurd hd hnl⟩⟩
theorem R4B.s1 {x : Value} (h : R4B w0 g A n c RA rn rc PA pn pc HA hn hc S l v31 v32 v33 v34 v35 v36 v37 v38 v39 v40 v41 v42 v43 v9 W) (hu : ¬ Dn l 1) (hb : Below W.heap.size W W') (hv : x = .slice A n c) : R4B w0 g A n c RA rn rc PA pn pc HA hn hc S (l.setIfInBounds 1 true) v31 x v33 v34 v35 v36 v37 v38 v39 v40 v41 v42 v43 v9 W' := by
  have hs : 1 < l.size := by rw [h.sz]; decide
  have e : ∀ {j}, j ≠ 1 → Dn (l.setIfInBounds 1 true) j → Dn l j := fun hj hd => ((Dn.set hs).1 hd).resolve_left hj
  have e2 : ∀ {j}, Dn l j → Dn (l.setIfInBounds 1 true) j := fun hd => (Dn.set hs).2 (.inr hd)
  have hnl : ¬ Dn (l.setIfInBounds 1 true) 14 := fun hl => hu (h.l14 (e (by decide) hl) 1 (by decide))
  exact ⟨by rw [Array.size_setIfInBounds]; exact h.sz, below_step h.bw hb, fun hd => by obtain ⟨a1, a2, a3, a4⟩ := h.l12 (e (by decide) hd); exact ⟨e2 a1, e2 a2, e2 a3, e2 a4⟩, fun hd => absurd hd hnl, fun hd => h.d0 (e (by decide) hd), fun _ => hv, fun hd => (h.d2 (e (by decide) hd)).below hb, fun hd => h.d3 (e (by decide) hd), fun hd => h.d4 (e (by decide) hd), fun hd => (h.d5 (e (by decide) hd)).below hb, fun hd => h.d6 (e (by decide) hd), fun hd => h.d7 (e (by decide) hd), fun hd => (h.d8 (e (by decide) hd)).below hb, fun hd => h.d9 (e (by decide) hd), fun hd => h.d10 (e (by decide) hd), fun hd => (h.d11 (e (by decide) hd)).below hb, fun hd => h.d12 (e (by decide) hd), fun hd => by obtain ⟨x0, x1, x2, x3, h1, -⟩ := h.d13 (e (by decide) hd); exact ⟨x0, x1, x2, x3, h1.below hb, fun hd => absurd hd hnl⟩⟩
theorem R4B.s2 {x : Value} (h : R4B w0 g A n c RA rn rc PA pn pc HA hn hc S l v31 v32 v33 v34 v35 v36 v37 v38 v39 v40 v41 v42 v43 v9 W) (hu : ¬ Dn l 2) (hb : Below W.heap.size W W') (hv : Clk w0.heap.size 45 1 n (S.a.map (.int .u64)) W' x) : R4B w0 g A n c RA rn rc PA pn pc HA hn hc S (l.setIfInBounds 2 true) v31 v32 x v34 v35 v36 v37 v38 v39 v40 v41 v42 v43 v9 W' := by
  have hs : 2 < l.size := by rw [h.sz]; decide
  have e : ∀ {j}, j ≠ 2 → Dn (l.setIfInBounds 2 true) j → Dn l j := fun hj hd => ((Dn.set hs).1 hd).resolve_left hj
  have e2 : ∀ {j}, Dn l j → Dn (l.setIfInBounds 2 true) j := fun hd => (Dn.set hs).2 (.inr hd)
  have hnl : ¬ Dn (l.setIfInBounds 2 true) 14 := fun hl => hu (h.l14 (e (by decide) hl) 2 (by decide))
  have hn12 : ¬ Dn (l.setIfInBounds 2 true) 12 := fun hl => hu (h.l12 (e (by decide) hl)).1
  exact ⟨by rw [Array.size_setIfInBounds]; exact h.sz, below_step h.bw hb, fun hd => absurd hd hn12, fun hd => absurd hd hnl, fun hd => h.d0 (e (by decide) hd), fun hd => h.d1 (e (by decide) hd), fun _ => hv, fun hd => h.d3 (e (by decide) hd), fun hd => h.d4 (e (by decide) hd), fun hd => (h.d5 (e (by decide) hd)).below hb, fun hd => h.d6 (e (by decide) hd), fun hd => h.d7 (e (by decide) hd), fun hd => (h.d8 (e (by decide) hd)).below hb, fun hd => h.d9 (e (by decide) hd), fun hd => h.d10 (e (by decide) hd), fun hd => (h.d11 (e (by decide) hd)).below hb, fun hd => absurd hd hn12, fun hd => by obtain ⟨x0, x1, x2, x3, h1, -⟩ := h.d13 (e (by decide) hd); exact ⟨x0, x1, x2, x3, h1.below hb, fun hd => absurd hd hnl⟩⟩
theorem R4B.s3 {x : Value} (h : R4B w0 g A n c RA rn rc PA pn pc HA hn hc S l v31 v32 v33 v34 v35 v36 v37 v38 v39 v40 v41 v42 v43 v9 W) (hu : ¬ Dn l 3) (hb : Below W.heap.size W W') (hv : x = .pointer (some ⟨g, 1, none⟩)) : R4B w0 g A n c RA rn rc PA pn pc HA hn hc S (l.setIfInBounds 3 true) v31 v32 v33 x v35 v36 v37 v38 v39 v40 v41 v42 v43 v9 W' := by
  have hs : 3 < l.size := by rw [h.sz]; decide
  have e : ∀ {j}, j ≠ 3 → Dn (l.setIfInBounds 3 true) j → Dn l j := fun hj hd => ((Dn.set hs).1 hd).resolve_left hj
  have e2 : ∀ {j}, Dn l j → Dn (l.setIfInBounds 3 true) j := fun hd => (Dn.set hs).2 (.inr hd)
  have hnl : ¬ Dn (l.setIfInBounds 3 true) 14 := fun hl => hu (h.l14 (e (by decide) hl) 3 (by decide))
  exact ⟨by rw [Array.size_setIfInBounds]; exact h.sz, below_step h.bw hb, fun hd => by obtain ⟨a1, a2, a3, a4⟩ := h.l12 (e (by decide) hd); exact ⟨e2 a1, e2 a2, e2 a3, e2 a4⟩, fun hd => absurd hd hnl, fun hd => h.d0 (e (by decide) hd), fun hd => h.d1 (e (by decide) hd), fun hd => (h.d2 (e (by decide) hd)).below hb, fun _ => hv, fun hd => h.d4 (e (by decide) hd), fun hd => (h.d5 (e (by decide) hd)).below hb, fun hd => h.d6 (e (by decide) hd), fun hd => h.d7 (e (by decide) hd), fun hd => (h.d8 (e (by decide) hd)).below hb, fun hd => h.d9 (e (by decide) hd), fun hd => h.d10 (e (by decide) hd), fun hd => (h.d11 (e (by decide) hd)).below hb, fun hd => h.d12 (e (by decide) hd), fun hd => by obtain ⟨x0, x1, x2, x3, h1, -⟩ := h.d13 (e (by decide) hd); exact ⟨x0, x1, x2, x3, h1.below hb, fun hd => absurd hd hnl⟩⟩
theorem R4B.s4 {x : Value} (h : R4B w0 g A n c RA rn rc PA pn pc HA hn hc S l v31 v32 v33 v34 v35 v36 v37 v38 v39 v40 v41 v42 v43 v9 W) (hu : ¬ Dn l 4) (hb : Below W.heap.size W W') (hv : x = .slice RA rn rc) : R4B w0 g A n c RA rn rc PA pn pc HA hn hc S (l.setIfInBounds 4 true) v31 v32 v33 v34 x v36 v37 v38 v39 v40 v41 v42 v43 v9 W' := by
  have hs : 4 < l.size := by rw [h.sz]; decide
  have e : ∀ {j}, j ≠ 4 → Dn (l.setIfInBounds 4 true) j → Dn l j := fun hj hd => ((Dn.set hs).1 hd).resolve_left hj
  have e2 : ∀ {j}, Dn l j → Dn (l.setIfInBounds 4 true) j := fun hd => (Dn.set hs).2 (.inr hd)
  have hnl : ¬ Dn (l.setIfInBounds 4 true) 14 := fun hl => hu (h.l14 (e (by decide) hl) 4 (by decide))
  exact ⟨by rw [Array.size_setIfInBounds]; exact h.sz, below_step h.bw hb, fun hd => by obtain ⟨a1, a2, a3, a4⟩ := h.l12 (e (by decide) hd); exact ⟨e2 a1, e2 a2, e2 a3, e2 a4⟩, fun hd => absurd hd hnl, fun hd => h.d0 (e (by decide) hd), fun hd => h.d1 (e (by decide) hd), fun hd => (h.d2 (e (by decide) hd)).below hb, fun hd => h.d3 (e (by decide) hd), fun _ => hv, fun hd => (h.d5 (e (by decide) hd)).below hb, fun hd => h.d6 (e (by decide) hd), fun hd => h.d7 (e (by decide) hd), fun hd => (h.d8 (e (by decide) hd)).below hb, fun hd => h.d9 (e (by decide) hd), fun hd => h.d10 (e (by decide) hd), fun hd => (h.d11 (e (by decide) hd)).below hb, fun hd => h.d12 (e (by decide) hd), fun hd => by obtain ⟨x0, x1, x2, x3, h1, -⟩ := h.d13 (e (by decide) hd); exact ⟨x0, x1, x2, x3, h1.below hb, fun hd => absurd hd hnl⟩⟩
theorem R4B.s5 {x : Value} (h : R4B w0 g A n c RA rn rc PA pn pc HA hn hc S l v31 v32 v33 v34 v35 v36 v37 v38 v39 v40 v41 v42 v43 v9 W) (hu : ¬ Dn l 5) (hb : Below W.heap.size W W') (hv : Clk w0.heap.size 3 1 rn (S.r.map (.int .i64)) W' x) : R4B w0 g A n c RA rn rc PA pn pc HA hn hc S (l.setIfInBounds 5 true) v31 v32 v33 v34 v35 x v37 v38 v39 v40 v41 v42 v43 v9 W' := by
  have hs : 5 < l.size := by rw [h.sz]; decide
  have e : ∀ {j}, j ≠ 5 → Dn (l.setIfInBounds 5 true) j → Dn l j := fun hj hd => ((Dn.set hs).1 hd).resolve_left hj
  have e2 : ∀ {j}, Dn l j → Dn (l.setIfInBounds 5 true) j := fun hd => (Dn.set hs).2 (.inr hd)
  have hnl : ¬ Dn (l.setIfInBounds 5 true) 14 := fun hl => hu (h.l14 (e (by decide) hl) 5 (by decide))
  have hn12 : ¬ Dn (l.setIfInBounds 5 true) 12 := fun hl => hu (h.l12 (e (by decide) hl)).2.1
  exact ⟨by rw [Array.size_setIfInBounds]; exact h.sz, below_step h.bw hb, fun hd => absurd hd hn12, fun hd => absurd hd hnl, fun hd => h.d0 (e (by decide) hd), fun hd => h.d1 (e (by decide) hd), fun hd => (h.d2 (e (by decide) hd)).below hb, fun hd => h.d3 (e (by decide) hd), fun hd => h.d4 (e (by decide) hd), fun _ => hv, fun hd => h.d6 (e (by decide) hd), fun hd => h.d7 (e (by decide) hd), fun hd => (h.d8 (e (by decide) hd)).below hb, fun hd => h.d9 (e (by decide) hd), fun hd => h.d10 (e (by decide) hd), fun hd => (h.d11 (e (by decide) hd)).below hb, fun hd => absurd hd hn12, fun hd => by obtain ⟨x0, x1, x2, x3, h1, -⟩ := h.d13 (e (by decide) hd); exact ⟨x0, x1, x2, x3, h1.below hb, fun hd => absurd hd hnl⟩⟩
theorem R4B.s6 {x : Value} (h : R4B w0 g A n c RA rn rc PA pn pc HA hn hc S l v31 v32 v33 v34 v35 v36 v37 v38 v39 v40 v41 v42 v43 v9 W) (hu : ¬ Dn l 6) (hb : Below W.heap.size W W') (hv : x = .pointer (some ⟨g, 2, none⟩)) : R4B w0 g A n c RA rn rc PA pn pc HA hn hc S (l.setIfInBounds 6 true) v31 v32 v33 v34 v35 v36 x v38 v39 v40 v41 v42 v43 v9 W' := by
  have hs : 6 < l.size := by rw [h.sz]; decide
  have e : ∀ {j}, j ≠ 6 → Dn (l.setIfInBounds 6 true) j → Dn l j := fun hj hd => ((Dn.set hs).1 hd).resolve_left hj
  have e2 : ∀ {j}, Dn l j → Dn (l.setIfInBounds 6 true) j := fun hd => (Dn.set hs).2 (.inr hd)
  have hnl : ¬ Dn (l.setIfInBounds 6 true) 14 := fun hl => hu (h.l14 (e (by decide) hl) 6 (by decide))
  exact ⟨by rw [Array.size_setIfInBounds]; exact h.sz, below_step h.bw hb, fun hd => by obtain ⟨a1, a2, a3, a4⟩ := h.l12 (e (by decide) hd); exact ⟨e2 a1, e2 a2, e2 a3, e2 a4⟩, fun hd => absurd hd hnl, fun hd => h.d0 (e (by decide) hd), fun hd => h.d1 (e (by decide) hd), fun hd => (h.d2 (e (by decide) hd)).below hb, fun hd => h.d3 (e (by decide) hd), fun hd => h.d4 (e (by decide) hd), fun hd => (h.d5 (e (by decide) hd)).below hb, fun _ => hv, fun hd => h.d7 (e (by decide) hd), fun hd => (h.d8 (e (by decide) hd)).below hb, fun hd => h.d9 (e (by decide) hd), fun hd => h.d10 (e (by decide) hd), fun hd => (h.d11 (e (by decide) hd)).below hb, fun hd => h.d12 (e (by decide) hd), fun hd => by obtain ⟨x0, x1, x2, x3, h1, -⟩ := h.d13 (e (by decide) hd); exact ⟨x0, x1, x2, x3, h1.below hb, fun hd => absurd hd hnl⟩⟩
theorem R4B.s7 {x : Value} (h : R4B w0 g A n c RA rn rc PA pn pc HA hn hc S l v31 v32 v33 v34 v35 v36 v37 v38 v39 v40 v41 v42 v43 v9 W) (hu : ¬ Dn l 7) (hb : Below W.heap.size W W') (hv : x = .slice PA pn pc) : R4B w0 g A n c RA rn rc PA pn pc HA hn hc S (l.setIfInBounds 7 true) v31 v32 v33 v34 v35 v36 v37 x v39 v40 v41 v42 v43 v9 W' := by
  have hs : 7 < l.size := by rw [h.sz]; decide
  have e : ∀ {j}, j ≠ 7 → Dn (l.setIfInBounds 7 true) j → Dn l j := fun hj hd => ((Dn.set hs).1 hd).resolve_left hj
  have e2 : ∀ {j}, Dn l j → Dn (l.setIfInBounds 7 true) j := fun hd => (Dn.set hs).2 (.inr hd)
  have hnl : ¬ Dn (l.setIfInBounds 7 true) 14 := fun hl => hu (h.l14 (e (by decide) hl) 7 (by decide))
  exact ⟨by rw [Array.size_setIfInBounds]; exact h.sz, below_step h.bw hb, fun hd => by obtain ⟨a1, a2, a3, a4⟩ := h.l12 (e (by decide) hd); exact ⟨e2 a1, e2 a2, e2 a3, e2 a4⟩, fun hd => absurd hd hnl, fun hd => h.d0 (e (by decide) hd), fun hd => h.d1 (e (by decide) hd), fun hd => (h.d2 (e (by decide) hd)).below hb, fun hd => h.d3 (e (by decide) hd), fun hd => h.d4 (e (by decide) hd), fun hd => (h.d5 (e (by decide) hd)).below hb, fun hd => h.d6 (e (by decide) hd), fun _ => hv, fun hd => (h.d8 (e (by decide) hd)).below hb, fun hd => h.d9 (e (by decide) hd), fun hd => h.d10 (e (by decide) hd), fun hd => (h.d11 (e (by decide) hd)).below hb, fun hd => h.d12 (e (by decide) hd), fun hd => by obtain ⟨x0, x1, x2, x3, h1, -⟩ := h.d13 (e (by decide) hd); exact ⟨x0, x1, x2, x3, h1.below hb, fun hd => absurd hd hnl⟩⟩
theorem R4B.s8 {x : Value} (h : R4B w0 g A n c RA rn rc PA pn pc HA hn hc S l v31 v32 v33 v34 v35 v36 v37 v38 v39 v40 v41 v42 v43 v9 W) (hu : ¬ Dn l 8) (hb : Below W.heap.size W W') (hv : Clk w0.heap.size 57 2 pn (runsC S.p) W' x) : R4B w0 g A n c RA rn rc PA pn pc HA hn hc S (l.setIfInBounds 8 true) v31 v32 v33 v34 v35 v36 v37 v38 x v40 v41 v42 v43 v9 W' := by
  have hs : 8 < l.size := by rw [h.sz]; decide
  have e : ∀ {j}, j ≠ 8 → Dn (l.setIfInBounds 8 true) j → Dn l j := fun hj hd => ((Dn.set hs).1 hd).resolve_left hj
  have e2 : ∀ {j}, Dn l j → Dn (l.setIfInBounds 8 true) j := fun hd => (Dn.set hs).2 (.inr hd)
  have hnl : ¬ Dn (l.setIfInBounds 8 true) 14 := fun hl => hu (h.l14 (e (by decide) hl) 8 (by decide))
  have hn12 : ¬ Dn (l.setIfInBounds 8 true) 12 := fun hl => hu (h.l12 (e (by decide) hl)).2.2.1
  exact ⟨by rw [Array.size_setIfInBounds]; exact h.sz, below_step h.bw hb, fun hd => absurd hd hn12, fun hd => absurd hd hnl, fun hd => h.d0 (e (by decide) hd), fun hd => h.d1 (e (by decide) hd), fun hd => (h.d2 (e (by decide) hd)).below hb, fun hd => h.d3 (e (by decide) hd), fun hd => h.d4 (e (by decide) hd), fun hd => (h.d5 (e (by decide) hd)).below hb, fun hd => h.d6 (e (by decide) hd), fun hd => h.d7 (e (by decide) hd), fun _ => hv, fun hd => h.d9 (e (by decide) hd), fun hd => h.d10 (e (by decide) hd), fun hd => (h.d11 (e (by decide) hd)).below hb, fun hd => absurd hd hn12, fun hd => by obtain ⟨x0, x1, x2, x3, h1, -⟩ := h.d13 (e (by decide) hd); exact ⟨x0, x1, x2, x3, h1.below hb, fun hd => absurd hd hnl⟩⟩
theorem R4B.s9 {x : Value} (h : R4B w0 g A n c RA rn rc PA pn pc HA hn hc S l v31 v32 v33 v34 v35 v36 v37 v38 v39 v40 v41 v42 v43 v9 W) (hu : ¬ Dn l 9) (hb : Below W.heap.size W W') (hv : x = .pointer (some ⟨g, 3, none⟩)) : R4B w0 g A n c RA rn rc PA pn pc HA hn hc S (l.setIfInBounds 9 true) v31 v32 v33 v34 v35 v36 v37 v38 v39 x v41 v42 v43 v9 W' := by
  have hs : 9 < l.size := by rw [h.sz]; decide
  have e : ∀ {j}, j ≠ 9 → Dn (l.setIfInBounds 9 true) j → Dn l j := fun hj hd => ((Dn.set hs).1 hd).resolve_left hj
  have e2 : ∀ {j}, Dn l j → Dn (l.setIfInBounds 9 true) j := fun hd => (Dn.set hs).2 (.inr hd)
  have hnl : ¬ Dn (l.setIfInBounds 9 true) 14 := fun hl => hu (h.l14 (e (by decide) hl) 9 (by decide))
  exact ⟨by rw [Array.size_setIfInBounds]; exact h.sz, below_step h.bw hb, fun hd => by obtain ⟨a1, a2, a3, a4⟩ := h.l12 (e (by decide) hd); exact ⟨e2 a1, e2 a2, e2 a3, e2 a4⟩, fun hd => absurd hd hnl, fun hd => h.d0 (e (by decide) hd), fun hd => h.d1 (e (by decide) hd), fun hd => (h.d2 (e (by decide) hd)).below hb, fun hd => h.d3 (e (by decide) hd), fun hd => h.d4 (e (by decide) hd), fun hd => (h.d5 (e (by decide) hd)).below hb, fun hd => h.d6 (e (by decide) hd), fun hd => h.d7 (e (by decide) hd), fun hd => (h.d8 (e (by decide) hd)).below hb, fun _ => hv, fun hd => h.d10 (e (by decide) hd), fun hd => (h.d11 (e (by decide) hd)).below hb, fun hd => h.d12 (e (by decide) hd), fun hd => by obtain ⟨x0, x1, x2, x3, h1, -⟩ := h.d13 (e (by decide) hd); exact ⟨x0, x1, x2, x3, h1.below hb, fun hd => absurd hd hnl⟩⟩
theorem R4B.s10 {x : Value} (h : R4B w0 g A n c RA rn rc PA pn pc HA hn hc S l v31 v32 v33 v34 v35 v36 v37 v38 v39 v40 v41 v42 v43 v9 W) (hu : ¬ Dn l 10) (hb : Below W.heap.size W W') (hv : x = .slice HA hn hc) : R4B w0 g A n c RA rn rc PA pn pc HA hn hc S (l.setIfInBounds 10 true) v31 v32 v33 v34 v35 v36 v37 v38 v39 v40 x v42 v43 v9 W' := by
  have hs : 10 < l.size := by rw [h.sz]; decide
  have e : ∀ {j}, j ≠ 10 → Dn (l.setIfInBounds 10 true) j → Dn l j := fun hj hd => ((Dn.set hs).1 hd).resolve_left hj
  have e2 : ∀ {j}, Dn l j → Dn (l.setIfInBounds 10 true) j := fun hd => (Dn.set hs).2 (.inr hd)
  have hnl : ¬ Dn (l.setIfInBounds 10 true) 14 := fun hl => hu (h.l14 (e (by decide) hl) 10 (by decide))
  exact ⟨by rw [Array.size_setIfInBounds]; exact h.sz, below_step h.bw hb, fun hd => by obtain ⟨a1, a2, a3, a4⟩ := h.l12 (e (by decide) hd); exact ⟨e2 a1, e2 a2, e2 a3, e2 a4⟩, fun hd => absurd hd hnl, fun hd => h.d0 (e (by decide) hd), fun hd => h.d1 (e (by decide) hd), fun hd => (h.d2 (e (by decide) hd)).below hb, fun hd => h.d3 (e (by decide) hd), fun hd => h.d4 (e (by decide) hd), fun hd => (h.d5 (e (by decide) hd)).below hb, fun hd => h.d6 (e (by decide) hd), fun hd => h.d7 (e (by decide) hd), fun hd => (h.d8 (e (by decide) hd)).below hb, fun hd => h.d9 (e (by decide) hd), fun _ => hv, fun hd => (h.d11 (e (by decide) hd)).below hb, fun hd => h.d12 (e (by decide) hd), fun hd => by obtain ⟨x0, x1, x2, x3, h1, -⟩ := h.d13 (e (by decide) hd); exact ⟨x0, x1, x2, x3, h1.below hb, fun hd => absurd hd hnl⟩⟩
theorem R4B.s11 {x : Value} (h : R4B w0 g A n c RA rn rc PA pn pc HA hn hc S l v31 v32 v33 v34 v35 v36 v37 v38 v39 v40 v41 v42 v43 v9 W) (hu : ¬ Dn l 11) (hb : Below W.heap.size W W') (hv : Clk w0.heap.size 60 3 hn (slotsC S.l) W' x) : R4B w0 g A n c RA rn rc PA pn pc HA hn hc S (l.setIfInBounds 11 true) v31 v32 v33 v34 v35 v36 v37 v38 v39 v40 v41 x v43 v9 W' := by
  have hs : 11 < l.size := by rw [h.sz]; decide
  have e : ∀ {j}, j ≠ 11 → Dn (l.setIfInBounds 11 true) j → Dn l j := fun hj hd => ((Dn.set hs).1 hd).resolve_left hj
  have e2 : ∀ {j}, Dn l j → Dn (l.setIfInBounds 11 true) j := fun hd => (Dn.set hs).2 (.inr hd)
  have hnl : ¬ Dn (l.setIfInBounds 11 true) 14 := fun hl => hu (h.l14 (e (by decide) hl) 11 (by decide))
  have hn12 : ¬ Dn (l.setIfInBounds 11 true) 12 := fun hl => hu (h.l12 (e (by decide) hl)).2.2.2
  exact ⟨by rw [Array.size_setIfInBounds]; exact h.sz, below_step h.bw hb, fun hd => absurd hd hn12, fun hd => absurd hd hnl, fun hd => h.d0 (e (by decide) hd), fun hd => h.d1 (e (by decide) hd), fun hd => (h.d2 (e (by decide) hd)).below hb, fun hd => h.d3 (e (by decide) hd), fun hd => h.d4 (e (by decide) hd), fun hd => (h.d5 (e (by decide) hd)).below hb, fun hd => h.d6 (e (by decide) hd), fun hd => h.d7 (e (by decide) hd), fun hd => (h.d8 (e (by decide) hd)).below hb, fun hd => h.d9 (e (by decide) hd), fun hd => h.d10 (e (by decide) hd), fun _ => hv, fun hd => absurd hd hn12, fun hd => by obtain ⟨x0, x1, x2, x3, h1, -⟩ := h.d13 (e (by decide) hd); exact ⟨x0, x1, x2, x3, h1.below hb, fun hd => absurd hd hnl⟩⟩
theorem R4B.s12 {x : Value} (h : R4B w0 g A n c RA rn rc PA pn pc HA hn hc S l v31 v32 v33 v34 v35 v36 v37 v38 v39 v40 v41 v42 v43 v9 W) (hu : ¬ Dn l 12) (hb : Below W.heap.size W W') (hv : x = .agg #[v33, v36, v39, v42]) (hp : Dn l 2 ∧ Dn l 5 ∧ Dn l 8 ∧ Dn l 11) : R4B w0 g A n c RA rn rc PA pn pc HA hn hc S (l.setIfInBounds 12 true) v31 v32 v33 v34 v35 v36 v37 v38 v39 v40 v41 v42 x v9 W' := by
  have hs : 12 < l.size := by rw [h.sz]; decide
  have e : ∀ {j}, j ≠ 12 → Dn (l.setIfInBounds 12 true) j → Dn l j := fun hj hd => ((Dn.set hs).1 hd).resolve_left hj
  have e2 : ∀ {j}, Dn l j → Dn (l.setIfInBounds 12 true) j := fun hd => (Dn.set hs).2 (.inr hd)
  have hnl : ¬ Dn (l.setIfInBounds 12 true) 14 := fun hl => hu (h.l14 (e (by decide) hl) 12 (by decide))
  exact ⟨by rw [Array.size_setIfInBounds]; exact h.sz, below_step h.bw hb, fun _ => ⟨e2 hp.1, e2 hp.2.1, e2 hp.2.2.1, e2 hp.2.2.2⟩, fun hd => absurd hd hnl, fun hd => h.d0 (e (by decide) hd), fun hd => h.d1 (e (by decide) hd), fun hd => (h.d2 (e (by decide) hd)).below hb, fun hd => h.d3 (e (by decide) hd), fun hd => h.d4 (e (by decide) hd), fun hd => (h.d5 (e (by decide) hd)).below hb, fun hd => h.d6 (e (by decide) hd), fun hd => h.d7 (e (by decide) hd), fun hd => (h.d8 (e (by decide) hd)).below hb, fun hd => h.d9 (e (by decide) hd), fun hd => h.d10 (e (by decide) hd), fun hd => (h.d11 (e (by decide) hd)).below hb, fun _ => hv, fun hd => by obtain ⟨x0, x1, x2, x3, h1, -⟩ := h.d13 (e (by decide) hd); exact ⟨x0, x1, x2, x3, h1.below hb, fun hd => absurd hd hnl⟩⟩
theorem R4B.s13 {x : Value} (h : R4B w0 g A n c RA rn rc PA pn pc HA hn hc S l v31 v32 v33 v34 v35 v36 v37 v38 v39 v40 v41 v42 v43 v9 W) (hu : ¬ Dn l 13) (hb : Below W.heap.size W W') (hv : ∃ x0 x1 x2 x3, Bx4 w0.heap.size W' x x0 x1 x2 x3) : R4B w0 g A n c RA rn rc PA pn pc HA hn hc S (l.setIfInBounds 13 true) v31 v32 v33 v34 v35 v36 v37 v38 v39 v40 v41 v42 v43 x W' := by
  have hs : 13 < l.size := by rw [h.sz]; decide
  have e : ∀ {j}, j ≠ 13 → Dn (l.setIfInBounds 13 true) j → Dn l j := fun hj hd => ((Dn.set hs).1 hd).resolve_left hj
  have e2 : ∀ {j}, Dn l j → Dn (l.setIfInBounds 13 true) j := fun hd => (Dn.set hs).2 (.inr hd)
  have hnl : ¬ Dn (l.setIfInBounds 13 true) 14 := fun hl => hu (h.l14 (e (by decide) hl) 13 (by decide))
  exact ⟨by rw [Array.size_setIfInBounds]; exact h.sz, below_step h.bw hb, fun hd => by obtain ⟨a1, a2, a3, a4⟩ := h.l12 (e (by decide) hd); exact ⟨e2 a1, e2 a2, e2 a3, e2 a4⟩, fun hd => absurd hd hnl, fun hd => h.d0 (e (by decide) hd), fun hd => h.d1 (e (by decide) hd), fun hd => (h.d2 (e (by decide) hd)).below hb, fun hd => h.d3 (e (by decide) hd), fun hd => h.d4 (e (by decide) hd), fun hd => (h.d5 (e (by decide) hd)).below hb, fun hd => h.d6 (e (by decide) hd), fun hd => h.d7 (e (by decide) hd), fun hd => (h.d8 (e (by decide) hd)).below hb, fun hd => h.d9 (e (by decide) hd), fun hd => h.d10 (e (by decide) hd), fun hd => (h.d11 (e (by decide) hd)).below hb, fun hd => h.d12 (e (by decide) hd), fun _ => by obtain ⟨x0, x1, x2, x3, h1⟩ := hv; exact ⟨x0, x1, x2, x3, h1, fun hd => absurd hd hnl⟩⟩
theorem R4B.s14 {p : Nat} (h : R4B w0 g A n c RA rn rc PA pn pc HA hn hc S l v31 v32 v33 v34 v35 v36 v37 v38 v39 v40 v41 v42 v43 v9 W) (hall : ∀ j, j < 14 → Dn l j) (hp : v9 = .pointer (some ⟨p, 0, none⟩)) : R4B w0 g A n c RA rn rc PA pn pc HA hn hc S (l.setIfInBounds 14 true) v31 v32 v33 v34 v35 v36 v37 v38 v39 v40 v41 v42 v43 v9 ((((W.setCell ⟨p, 0, none⟩ v33).setCell ⟨p, 1, none⟩ v36).setCell ⟨p, 2, none⟩ v39).setCell ⟨p, 3, none⟩ v42) := by
  have hs : 14 < l.size := by rw [h.sz]; decide
  have e : ∀ {j}, j ≠ 14 → Dn (l.setIfInBounds 14 true) j → Dn l j := fun hj hd => ((Dn.set hs).1 hd).resolve_left hj
  have e2 : ∀ {j}, Dn l j → Dn (l.setIfInBounds 14 true) j := fun hd => (Dn.set hs).2 (.inr hd)
  obtain ⟨x0, x1, x2, x3, ⟨p', q1, q2, q3⟩, -⟩ := h.d13 (hall 13 (by decide))
  rw [hp] at q1
  injection q1 with q1
  injection q1 with q1
  injection q1 with q1
  subst q1
  exact ⟨by rw [Array.size_setIfInBounds]; exact h.sz, below_block4 h.bw q2 _ _ _ _, fun hd => by obtain ⟨a1, a2, a3, a4⟩ := h.l12 (e (by decide) hd); exact ⟨e2 a1, e2 a2, e2 a3, e2 a4⟩, fun _ j hj => e2 (hall j hj), fun hd => h.d0 (e (by decide) hd), fun hd => h.d1 (e (by decide) hd), fun hd => (h.d2 (e (by decide) hd)).block q3 (by decide) _ _ _ _, fun hd => h.d3 (e (by decide) hd), fun hd => h.d4 (e (by decide) hd), fun hd => (h.d5 (e (by decide) hd)).block q3 (by decide) _ _ _ _, fun hd => h.d6 (e (by decide) hd), fun hd => h.d7 (e (by decide) hd), fun hd => (h.d8 (e (by decide) hd)).block q3 (by decide) _ _ _ _, fun hd => h.d9 (e (by decide) hd), fun hd => h.d10 (e (by decide) hd), fun hd => (h.d11 (e (by decide) hd)).block q3 (by decide) _ _ _ _, fun hd => h.d12 (e (by decide) hd), fun _ => ⟨v33, v36, v39, v42, ⟨p, hp, q2, q3.store4 _ _ _ _⟩, fun _ => ⟨rfl, rfl, rfl, rfl⟩⟩⟩
end
theorem puts14 (s : Act) (a b c d e f g h i j k l m n : Nat) : s = ((((((((((((((s.put (some a) (s.tmps.getD a undef)).put (some b) (s.tmps.getD b undef)).put (some c) (s.tmps.getD c undef)).put (some d) (s.tmps.getD d undef)).put (some e) (s.tmps.getD e undef)).put (some f) (s.tmps.getD f undef)).put (some g) (s.tmps.getD g undef)).put (some h) (s.tmps.getD h undef)).put (some i) (s.tmps.getD i undef)).put (some j) (s.tmps.getD j undef)).put (some k) (s.tmps.getD k undef)).put (some l) (s.tmps.getD l undef)).put (some m) (s.tmps.getD m undef)).put (some n) (s.tmps.getD n undef)) := by
  rw [put_self, put_self, put_self, put_self, put_self, put_self, put_self, put_self, put_self, put_self, put_self, put_self, put_self, put_self]
end Go.Proofs.YtbmkbnalembbjaaGreatDoor

namespace Go.Proofs.YtbmkbnalembbjaaGreatDoor
open Go.RowKit
structure OpV where
  kind : Int
  a : Int
  b : Int
  c : Int
  v : Int
def opC (o : OpV) : List Value := [.int .i64 o.kind, .int .i64 o.a, .int .i64 o.b, .int .i64 o.c, .int .u64 o.v]
def opsC (l : List OpV) : List Value := l.flatMap opC
theorem opsC_length (l : List OpV) : (opsC l).length = l.length * 5 := flat_length opC 5 (fun _ => rfl) l
theorem Reads.op {w : World} {B : Nat} {A : Option Addr} {n j : Nat} {l : List OpV} (h : Reads w B 5 A n (opsC l)) (hj : j < n) :
    ∃ ad o, A = some ad ∧ ad.block < B ∧ l[j]? = some o ∧ w.cell? (ad.add (j * 5)) = some (.int .i64 o.kind) ∧
      w.cell? ⟨(ad.add (j * 5)).block, (ad.add (j * 5)).off + 1, none⟩ = some (.int .i64 o.a) ∧ w.cell? ⟨(ad.add (j * 5)).block, (ad.add (j * 5)).off + 2, none⟩ = some (.int .i64 o.b) ∧
      w.cell? ⟨(ad.add (j * 5)).block, (ad.add (j * 5)).off + 3, none⟩ = some (.int .i64 o.c) ∧ w.cell? ⟨(ad.add (j * 5)).block, (ad.add (j * 5)).off + 4, none⟩ = some (.int .u64 o.v) := by
  obtain ⟨ad, o, e, hb, ho, h0, hi⟩ := Reads.elem (f := opC) (k := 5) (fun _ => rfl) h (by decide) hj
  exact ⟨ad, o, e, hb, ho, h0, hi 1 (by decide) (by decide), hi 2 (by decide) (by decide), hi 3 (by decide) (by decide), hi 4 (by decide) (by decide)⟩
end Go.Proofs.YtbmkbnalembbjaaGreatDoor

namespace Go.Proofs.YtbmkbnalembbjaaGreatDoor
open Go.RowKit
def stE (S : St) : Int := storeE S.a S.r S.l S.p
theorem stE_ok {S : St} : stE S = 0 ↔ StOk S := storeE_ok
theorem Coll.wf {S S' : St} {fr : Int} {L Y now : List Int} (h : Coll S S' fr L Y now) (ha : ∀ x ∈ S.a, (Lit.int .u64 x).wf = true) : ∀ x ∈ S'.a, (Lit.int .u64 x).wf = true := ((cleaned_of h.is).wf h.is ha).1
theorem stcheck_any (A : Option Addr) (n c : Nat) (RA : Option Addr) (rn rc : Nat) (PA : Option Addr) (pn pc : Nat) (HA : Option Addr) (hn hc : Nat) (S : St) (w : World)
    (hR : StR w w.heap.size A n RA rn PA pn HA hn S) (hK : StK n c rn pn hn S) :
    Calls Tryz.prog 23 #[.agg #[.slice A n c, .slice RA rn rc, .slice PA pn pc, .slice HA hn hc]] w fun e w' => e = .returned (.int .i64 (stE S)) ∧ Below w.heap.size w w' :=
  storeCheck_any A n c RA rn rc PA pn pc HA hn hc S.a S.r S.p S.l w hR.a hK.cap hK.wf hR.r hR.p hR.l hK.rn hK.pn
theorem coll_any (A : Option Addr) (n c : Nat) (RA : Option Addr) (rn rc : Nat) (PA : Option Addr) (pn pc : Nat) (HA : Option Addr) (hn hc : Nat) (S : St) (w : World)
    (hR : StR w w.heap.size A n RA rn PA pn HA hn S) (hK : StK n c rn pn hn S) (hOK : StOk S) :
    Calls Tryz.prog 37 #[.agg #[.slice A n c, .slice RA rn rc, .slice PA pn pc, .slice HA hn hc]] w fun e w' => Below w.heap.size w w' ∧ ∃ (S' : St) (fr : Int) (L Y now : List Int) (A1 : Option Addr) (c1 : Nat) (A2 : Option Addr) (c2 : Nat) (A3 : Option Addr) (c3 : Nat) (A4 : Option Addr) (c4 : Nat),
      Coll S S' fr L Y now ∧ e = .returned (.tuple #[.agg #[.slice A1 n c1, .slice A2 rn c2, .slice A3 pn c3, .slice A4 hn c4], .int .i64 fr]) ∧
      StO w' w.heap.size A1 n c1 A2 rn c2 A3 pn c3 A4 hn c4 S' := by
  refine (collectT_ok A n c RA rn rc PA pn pc HA hn hc S.a S.r S.p S.l w hR.a hK.cap hK.max hK.wf hR.r hR.p hR.l hOK).mono ?_
  rintro e w' ⟨hb, L, Y, b, now, A1, c1, A2, c2, A3, c3, A4, c4, hI, rfl, o1, o2, o3, o4⟩
  refine ⟨hb, ⟨b, _, _, _⟩, _, L, Y, now, A1, c1, A2, c2, A3, c3, A4, c4, ⟨hI, ?_, rfl, rfl, rfl⟩, rfl, ⟨o1, o2, o3, o4⟩⟩
  rw [hR.lens.1]
  rfl
set_option maxRecDepth 100000 in
set_option maxHeartbeats 2000000 in
theorem collectFn_any (A : Option Addr) (n c : Nat) (RA : Option Addr) (rn rc : Nat) (PA : Option Addr) (pn pc : Nat) (HA : Option Addr) (hn hc : Nat) (S : St) (w : World)
    (hR : StR w w.heap.size A n RA rn PA pn HA hn S) (hK : StK n c rn pn hn S) :
    Calls Tryz.prog 20 #[.agg #[.slice A n c, .slice RA rn rc, .slice PA pn pc, .slice HA hn hc]] w fun e w' => Below w.heap.size w w' ∧
      ((StOk S ∧ ∃ (S' : St) (fr : Int) (L Y now : List Int) (A1 : Option Addr) (c1 : Nat) (A2 : Option Addr) (c2 : Nat) (A3 : Option Addr) (c3 : Nat) (A4 : Option Addr) (c4 : Nat),
        Coll S S' fr L Y now ∧ e = .returned (.tuple #[.agg #[.slice A1 n c1, .slice A2 rn c2, .slice A3 pn c3, .slice A4 hn c4], .int .i64 fr, .int .i64 0]) ∧
        StO w' w.heap.size A1 n c1 A2 rn c2 A3 pn c3 A4 hn c4 S') ∨
       (stE S ≠ 0 ∧ e = .returned (.tuple #[.agg #[.slice none 0 0, .slice none 0 0, .slice none 0 0, .slice none 0 0], .int .i64 0, .int .i64 (stE S)]))) := by
  have HCk := Lib.hid (fun w hR => stcheck_any A n c RA rn rc PA pn pc HA hn hc S w hR hK)
  have HCo := Lib.hid (fun w hR hOK => coll_any A n c RA rn rc PA pn pc HA hn hc S w hR hK hOK)
  have HE := Lib.hid (@stE_ok S)
  generalize stE S = E at *
  have hb0 := below_new w (.cells #[.slice A n c, .slice RA rn rc, .slice PA pn pc, .slice HA hn hc] 28)
  have hb1 := hb0.alloc hb0.size (.cells #[.slice none 0 0, .slice none 0 0, .slice none 0 0, .slice none 0 0] 28)
  have DS := (Blk.new w 28 #[.slice A n c, .slice RA rn rc, .slice PA pn pc, .slice HA hn hc]).alloc (.cells #[.slice none 0 0, .slice none 0 0, .slice none 0 0, .slice none 0 0] 28)
  have DR := Blk.new (w.alloc (.cells #[.slice A n c, .slice RA rn rc, .slice PA pn pc, .slice HA hn hc] 28)) 28 #[.slice none 0 0, .slice none 0 0, .slice none 0 0, .slice none 0 0]
  rw [World.size_alloc] at DR
  obtain ⟨s0, s1, s2, s3⟩ := DS.four
  clear hb0
  go_enter Tryz.func20, Tryz.ntmps20
  go_wp2_with fail
  refine (HCk.out _ ((hR.below hb1).more hb1.size)).mono ?_
  rintro e w2 ⟨rfl, hb2⟩
  have DS := DS.below hb2 DS.lt
  have DR := DR.below hb2 DR.lt
  have hb02 := below_step hb1 hb2
  obtain ⟨s0, s1, s2, s3⟩ := DS.four
  obtain ⟨r0, r1, r2, r3⟩ := DR.four
  have f0 := DR.frozen 0
  have f1 := DR.frozen 1
  have f2 := DR.frozen 2
  have f3 := DR.frozen 3
  clear hb1 hb2
  by_cases h0 : E = 0
  · subst h0
    have hOK := HE.out.1 rfl
    go_wp2_with fail
    refine (HCo.out _ ((hR.below hb02).more hb02.size) hOK).mono ?_
    rintro e w3 ⟨hb3, S', fr, L, Y, now, A1, c1, A2, c2, A3, c3, A4, c4, hC, rfl, hO⟩
    have hb03 := (below_step hb02 hb3)
    have hb04 := hb03.alloc hb03.size (.cells #[.slice A1 n c1, .slice A2 rn c2, .slice A3 pn c3, .slice A4 hn c4] 28)
    have DG := Blk.new w3 28 #[.slice A1 n c1, .slice A2 rn c2, .slice A3 pn c3, .slice A4 hn c4]
    have DR := (DR.below hb3 DR.lt).alloc (.cells #[.slice A1 n c1, .slice A2 rn c2, .slice A3 pn c3, .slice A4 hn c4] 28)
    obtain ⟨r0, r1, r2, r3⟩ := DR.four
    obtain ⟨o0, o1, o2, o3⟩ := DG.four
    have f0 := DR.frozen 0
    have f1 := DR.frozen 1
    have f2 := DR.frozen 2
    have f3 := DR.frozen 3
    have HO := Lib.hid (((hO.mono hb02.size).below (below_new w3 (.cells #[.slice A1 n c1, .slice A2 rn c2, .slice A3 pn c3, .slice A4 hn c4] 28))).store DR)
    have HC := Lib.hid hC
    clear s0 s1 s2 s3 hO hC
    go_wp2_with fail
    have z4 := (((DR.set_ 0 (.slice A1 n c1)).set_ 1 (.slice A2 rn c2)).set_ 2 (.slice A3 pn c3)).set_ 3 (.slice A4 hn c4)
    refine bodyPost_ret (v := .tuple #[.agg #[.slice A1 n c1, .slice A2 rn c2, .slice A3 pn c3, .slice A4 hn c4], .int .i64 fr, .int .i64 0]) ?_ rfl ⟨?_, .inl ⟨hOK, S', fr, L, Y, now, A1, c1, A2, c2, A3, c3, A4, c4, HC.out, rfl, HO.out _ _ _ _⟩⟩
    · obtain ⟨z0, z1, z2, z3⟩ := z4.four
      simp only [results, Tryz.results20]
      go_simp
    · exact (((hb04.setCell (p := ⟨w.heap.size + 1, 0, none⟩) (Nat.le_succ _) _).setCell (p := ⟨w.heap.size + 1, 1, none⟩) (Nat.le_succ _) _).setCell (p := ⟨w.heap.size + 1, 2, none⟩) (Nat.le_succ _) _).setCell (p := ⟨w.heap.size + 1, 3, none⟩) (Nat.le_succ _) _
  · have g1 : (E != 0) = true := by simpa using h0
    go_wp2_with fail
    have z4 := (((DR.set_ 0 (.slice none 0 0)).set_ 1 (.slice none 0 0)).set_ 2 (.slice none 0 0)).set_ 3 (.slice none 0 0)
    refine bodyPost_ret (v := .tuple #[.agg #[.slice none 0 0, .slice none 0 0, .slice none 0 0, .slice none 0 0], .int .i64 0, .int .i64 E]) ?_ rfl ⟨?_, .inr ⟨h0, rfl⟩⟩
    · obtain ⟨z0, z1, z2, z3⟩ := z4.four
      simp only [results, Tryz.results20]
      go_simp
    · exact (((hb02.setCell (p := ⟨w.heap.size + 1, 0, none⟩) (Nat.le_succ _) _).setCell (p := ⟨w.heap.size + 1, 1, none⟩) (Nat.le_succ _) _).setCell (p := ⟨w.heap.size + 1, 2, none⟩) (Nat.le_succ _) _).setCell (p := ⟨w.heap.size + 1, 3, none⟩) (Nat.le_succ _) _
end Go.Proofs.YtbmkbnalembbjaaGreatDoor

namespace Go.Proofs.YtbmkbnalembbjaaGreatDoor
open Go.RowKit
theorem spots_split : ∀ (cs : List Chk) (i0 j : Nat) (s : Spot), (spotsFrom i0 cs)[j]? = some s → ∃ P c Q, cs = P ++ c :: Q ∧ s = c.spot (i0 + (chunksW P).length) ∧ P.length = j := by
  intro cs
  induction cs with
  | nil => intro i0 j s h; simp [spotsFrom] at h
  | cons c cs ih =>
    intro i0 j s h
    cases j with
    | zero =>
      simp only [spotsFrom, List.getElem?_cons_zero, Option.some.injEq] at h
      exact ⟨[], c, cs, rfl, by rw [← h]; rfl, rfl⟩
    | succ j =>
      simp only [spotsFrom, List.getElem?_cons_succ] at h
      obtain ⟨P, d, Q, rfl, rfl, hl⟩ := ih _ _ _ h
      refine ⟨c :: P, d, Q, rfl, ?_, by simp [hl]⟩
      rw [chunksW_cons, List.length_append, chkW_length, Nat.add_assoc]
theorem spotsFrom_append : ∀ (P R : List Chk) (i : Nat), spotsFrom i (P ++ R) = spotsFrom i P ++ spotsFrom (i + (chunksW P).length) R := by
  intro P
  induction P with
  | nil => intro R i; rfl
  | cons c P ih =>
    intro R i
    simp only [List.cons_append, spotsFrom]
    rw [ih, chunksW_cons, List.length_append, chkW_length, Nat.add_assoc]
theorem spotsFrom_length : ∀ (P : List Chk) (i : Nat), (spotsFrom i P).length = P.length := by
  intro P
  induction P with
  | nil => intro i; rfl
  | cons c P ih => intro i; simp only [spotsFrom, List.length_cons, ih]
theorem spots_at (P : List Chk) (c : Chk) (Q : List Chk) : (spotsFrom 0 (P ++ c :: Q))[P.length]? = some (c.spot (chunksW P).length) := by
  rw [spotsFrom_append, List.getElem?_append_right (by rw [spotsFrom_length]; exact Nat.le_refl _), spotsFrom_length, Nat.sub_self, Nat.zero_add]
  rfl
theorem starts_append : ∀ (P R : List Chk) (i : Nat), starts i (P ++ R) = starts i P ++ starts (i + (chunksW P).length) R := by
  intro P
  induction P with
  | nil => intro R i; rfl
  | cons c P ih =>
    intro R i
    simp only [List.cons_append, starts]
    rw [ih, chunksW_cons, List.length_append, chkW_length, Nat.add_assoc, List.append_assoc]
theorem starts_flush (i p : Nat) (R : List Chk) : starts i (flushC p ++ R) = starts (i + p) R := by
  unfold flushC
  by_cases h0 : p = 0
  · rw [if_pos h0, h0]; rfl
  · rw [if_neg h0]
    simp only [List.cons_append, List.nil_append, starts]
    rw [freeC_len h0]
    rfl
theorem starts_bounds : ∀ (cs : List Chk) (i : Nat) (v : Int), v ∈ starts i cs → (i : Int) + 1 ≤ v ∧ v ≤ i + (chunksW cs).length := by
  intro cs
  induction cs with
  | nil => intro i v h; cases h
  | cons c cs ih =>
    intro i v h
    have hp : 1 ≤ c.len := by unfold Chk.len; omega
    rw [chunksW_cons, List.length_append, chkW_length]
    simp only [starts] at h
    rcases List.mem_append.1 h with h | h
    · split at h
      · cases h
      · obtain rfl := List.mem_singleton.1 h
        omega
    · have := ih _ _ h
      omega
theorem spot_chunk : ∀ (cs : List Chk) (pre : List Int), (∀ c ∈ cs, c.ok) → ∀ t ∈ spotsFrom pre.length cs, ∃ c ∈ cs, refsOf (pre ++ chunksW cs) t = c.pay.take c.r.toNat := by
  intro cs
  induction cs with
  | nil => intro pre _ t ht; cases ht
  | cons c cs ih =>
    intro pre hok t ht
    have hc := hok c List.mem_cons_self
    have hE := headE_ok.1 hc.1
    have hp := hc.2
    simp only [spotsFrom, List.mem_cons] at ht
    rcases ht with rfl | ht
    · refine ⟨c, List.mem_cons_self, ?_⟩
      simp only [refsOf, Chk.spot, Int.toNat_natCast]
      rw [chunksW_cons, chkW, List.drop_append, List.drop_of_length_le (by omega), List.nil_append, show pre.length + 1 - pre.length = 1 by omega, List.cons_append, List.drop_succ_cons, List.drop_zero, List.take_append_of_le_length (by omega)]
    · have h2 := ih (pre ++ chkW c) (fun d hd => hok d (List.mem_cons_of_mem _ hd)) t (by rw [List.length_append, chkW_length]; exact ht)
      rw [List.append_assoc, ← chunksW_cons] at h2
      obtain ⟨d, hd, he⟩ := h2
      exact ⟨d, List.mem_cons_of_mem _ hd, he⟩
theorem gapsP_append : ∀ (P R R' : List Chk), (∀ i p, gapsP i p R = gapsP i p R') → ∀ i p, gapsP i p (P ++ R) = gapsP i p (P ++ R') := by
  intro P
  induction P with
  | nil => intro R R' h i p; exact h i p
  | cons c P ih =>
    intro R R' h i p
    simp only [List.cons_append, gapsP]
    split
    · exact ih R R' h _ _
    · rw [ih R R' h]
theorem joinP_append : ∀ (P R R' : List Chk), (∀ p, joinP p R = joinP p R') → ∀ p, joinP p (P ++ R) = joinP p (P ++ R') := by
  intro P
  induction P with
  | nil => intro R R' h p; exact h p
  | cons c P ih =>
    intro R R' h p
    simp only [List.cons_append, joinP]
    split
    · exact ih R R' h _
    · rw [ih R R' h]
theorem gapsP_flush (i p q : Nat) (R : List Chk) : gapsP i p (flushC q ++ R) = gapsP (i + q) (p + q) R := by
  unfold flushC
  by_cases h0 : q = 0
  · rw [if_pos h0, h0]; rfl
  · rw [if_neg h0]
    simp only [List.cons_append, List.nil_append, gapsP]
    rw [if_pos (freeC_f q), freeC_len h0]
theorem joinP_flush (p q : Nat) (R : List Chk) : joinP p (flushC q ++ R) = joinP (p + q) R := by
  unfold flushC
  by_cases h0 : q = 0
  · rw [if_pos h0, h0]; rfl
  · rw [if_neg h0]
    simp only [List.cons_append, List.nil_append, joinP]
    rw [if_pos (freeC_f q), freeC_len h0]
theorem flushC_ok {p : Nat} (h : p ≤ 256) : ∀ d ∈ flushC p, d.ok ∧ d.r = 0 := by
  intro d hd
  unfold flushC at hd
  split at hd
  · cases hd
  · rename_i h0
    obtain rfl := List.mem_singleton.1 hd
    exact ⟨freeC_ok h0 h, rfl⟩
def newC (r b t : Int) : Chk := ⟨r, b, t, false, List.replicate (r + b).toNat 0⟩
theorem newC_ok {r b t : Int} (h : headE r b t false = 0) : (newC r b t).ok := by
  obtain ⟨h1, h2, h3, h4, h5, h6, h7, -⟩ := headE_ok.1 h
  refine ⟨h, ?_⟩
  unfold newC
  dsimp only
  rw [List.length_replicate]
  omega
theorem newC_len {r b t : Int} (h : headE r b t false = 0) : ((newC r b t).len : Int) = 1 + r + b := by
  have := (newC_ok h).2
  unfold Chk.len
  unfold newC at *
  dsimp only at *
  omega
def takeL (a : List Int) (i m k : Nat) (v : Int) : List Int := layL ((fillL a i m 0).set i v) (i + k) (m - k)
structure TakeOk (a b c : List Int) (i : Nat) (r b' t : Int) (k : Nat) : Prop where
  blen : b.length = a.length
  bcheck : checkE b = 0
  spot : ∃ j : Nat, (spotsL b)[j]? = some ⟨i, r, b', t, false⟩
  refs : ∀ s, s = (⟨i, r, b', t, false⟩ : Spot) → (∀ v ∈ refsOf b s, v = 0) ∧ ∀ v ∈ bodyOf b s, v = 0
  free : ∀ s ∈ spotsL b, ((i : Int) + 1) ∉ refsOf b s
  fits : i + k ≤ a.length
  clen : c.length = a.length
  ccheck : checkE c = 0
  cgaps : gapsL (spotsL c) = gapsL (spotsL a)
  cjoin : joinL c (gapsL (spotsL c)) = joinL a (gapsL (spotsL a))
theorem take_ok {a : List Int} (h : checkE a = 0) {j : Nat} {s : Spot} (hs : (spotsL a)[j]? = some s) (hf : s.f = true) {r b t : Int} (hE : headE r b t false = 0) (hk : 1 + r + b ≤ s.long) :
    TakeOk a (takeL a s.loc.toNat s.long.toNat (1 + r + b).toNat (wordOf r b t false)) (layL (takeL a s.loc.toNat s.long.toNat (1 + r + b).toNat (wordOf r b t false)) s.loc.toNat (1 + r + b).toNat) s.loc.toNat r b t (1 + r + b).toNat := by
  obtain ⟨cs, hok, rfl, hsp, hl, hr⟩ := check_chunks h
  rw [hsp] at hs
  obtain ⟨P, c, Q, rfl, rfl, -⟩ := spots_split cs 0 j s hs
  rw [Nat.zero_add] at *
  have hcok := hok c (by simp)
  have hlong := Chk.long hcok (chunksW P).length
  rw [hlong] at hk ⊢
  have hf : c.f = true := hf
  have hcr := (headE_ok.1 hcok.1).2.2.2.2.2.2.2 hf
  have hloc : (c.spot (chunksW P).length).loc = (chunksW P).length := rfl
  rw [hloc]
  simp only [Int.toNat_natCast]
  obtain ⟨h1, h2, h3, h4, h5, h6, h7, -⟩ := headE_ok.1 hE
  obtain ⟨k, hkk⟩ : ∃ k, k = (1 + r + b).toNat := ⟨_, rfl⟩
  rw [← hkk]
  have hk0 : k ≠ 0 := by omega
  have hkm : k ≤ c.len := by omega
  have hnl : (newC r b t).len = k := by have := newC_len hE; omega
  have hpl : (r + b).toNat = k - 1 := by omega
  have hlen : (chunksW (P ++ c :: Q)).length = (chunksW P).length + (c.len + (chunksW Q).length) := by rw [chunksW_append, List.length_append, chunksW_cons, List.length_append, chkW_length]
  rw [hlen] at hl
  -- b
  have hB : takeL (chunksW (P ++ c :: Q)) (chunksW P).length c.len k (wordOf r b t false) = chunksW (P ++ newC r b t :: (flushC (c.len - k) ++ Q)) := by
    unfold takeL fillL
    have e1 : (chunksW (P ++ c :: Q)).take (chunksW P).length = chunksW P := by rw [chunksW_append]; simp
    have e2 : (chunksW (P ++ c :: Q)).drop ((chunksW P).length + c.len) = chunksW Q := by
      rw [chunksW_append, chunksW_cons, ← List.append_assoc, show (chunksW P).length + c.len = (chunksW P ++ chkW c).length by rw [List.length_append, chkW_length], List.drop_left]
    rw [e1, e2, List.append_assoc, List.set_append_right _ _ (Nat.le_refl _), Nat.sub_self]
    obtain ⟨m, hm⟩ : ∃ m, c.len = m + 1 := ⟨c.len - 1, by omega⟩
    have e3 : (List.replicate c.len (0 : Int) ++ chunksW Q).set 0 (wordOf r b t false) = chkW (newC r b t) ++ (List.replicate (c.len - k) 0 ++ chunksW Q) := by
      rw [hm, List.replicate_succ, List.cons_append, List.set_cons_zero]
      unfold chkW newC
      dsimp only
      rw [hpl, List.cons_append, ← List.append_assoc, List.replicate_append_replicate]
      congr 3
      omega
    rw [e3, ← List.append_assoc, ← List.append_assoc]
    have := layL_mid (chunksW P ++ chkW (newC r b t)) (List.replicate (c.len - k) 0) (chunksW Q)
    rw [List.length_append, chkW_length, hnl, List.length_replicate] at this
    rw [this, chunksW_append, chunksW_cons, chunksW_append]
    simp
  have hfl := flushC_ok (p := c.len - k) (by omega)
  have hfl2 := flushC_ok (p := k) (by omega)
  have hokB : ∀ d ∈ P ++ newC r b t :: (flushC (c.len - k) ++ Q), d.ok := by
    intro d hd
    rcases List.mem_append.1 hd with hd | hd
    · exact hok d (by simp [hd])
    · rcases List.mem_cons.1 hd with rfl | hd
      · exact newC_ok hE
      · rcases List.mem_append.1 hd with hd | hd
        · exact (hfl d hd).1
        · exact hok d (by simp [hd])
  have hlB : (chunksW (P ++ newC r b t :: (flushC (c.len - k) ++ Q))).length = (chunksW P).length + (c.len + (chunksW Q).length) := by
    rw [chunksW_append, List.length_append, chunksW_cons, List.length_append, chkW_length, hnl, chunksW_append, List.length_append, flushC_length]
    omega
  have hst : starts 0 (P ++ c :: Q) = starts 0 P ++ starts ((chunksW P).length + c.len) Q := by
    rw [starts_append, Nat.zero_add]
    simp only [starts]
    rw [hf, if_pos rfl, List.nil_append]
  have hstB : starts 0 (P ++ newC r b t :: (flushC (c.len - k) ++ Q)) = starts 0 P ++ (((((chunksW P).length : Nat) : Int) + 1) :: starts ((chunksW P).length + c.len) Q) := by
    rw [starts_append, Nat.zero_add]
    simp only [starts]
    rw [starts_flush, hnl, show (chunksW P).length + k + (c.len - k) = (chunksW P).length + c.len by omega]
    rfl
  have hnotin : (((chunksW P).length : Nat) : Int) + 1 ∉ starts 0 (P ++ c :: Q) := by
    rw [hst]
    intro hm
    rcases List.mem_append.1 hm with hm | hm
    · have := starts_bounds _ _ _ hm; omega
    · have := starts_bounds _ _ _ hm; omega
  have hrefB : ∀ d ∈ P ++ newC r b t :: (flushC (c.len - k) ++ Q), ∀ v ∈ d.pay.take d.r.toNat, v = 0 ∨ v ∈ starts 0 (P ++ c :: Q) := by
    intro d hd v hv
    rcases List.mem_append.1 hd with hd | hd
    · exact hr d (by simp [hd]) v hv
    · rcases List.mem_cons.1 hd with rfl | hd
      · left
        have := List.mem_of_mem_take hv
        unfold newC at this
        exact (List.mem_replicate.1 this).2
      · rcases List.mem_append.1 hd with hd | hd
        · rw [(hfl d hd).2] at hv
          simp at hv
        · exact hr d (by simp [hd]) v hv
  obtain ⟨b1, b2⟩ := chunks_spots hokB (by rw [hlB]; omega)
  have hchB : checkE (chunksW (P ++ newC r b t :: (flushC (c.len - k) ++ Q))) = 0 := by
    rw [checkE_chunks hokB (by rw [hlB]; omega)]
    intro d hd v hv
    rw [hstB]
    rcases hrefB d hd v hv with h | h
    · exact .inl h
    · right
      rw [hst] at h
      rcases List.mem_append.1 h with h | h
      · exact List.mem_append_left _ h
      · exact List.mem_append_right _ (List.mem_cons_of_mem _ h)
  -- c
  have hC : layL (chunksW (P ++ newC r b t :: (flushC (c.len - k) ++ Q))) (chunksW P).length k = chunksW (P ++ (flushC k ++ (flushC (c.len - k) ++ Q))) := by
    rw [chunksW_append, chunksW_cons, ← List.append_assoc]
    have := layL_mid (chunksW P) (chkW (newC r b t)) (chunksW (flushC (c.len - k) ++ Q))
    rw [chkW_length, hnl] at this
    rw [this]
    simp [chunksW_append]
  have hokC : ∀ d ∈ P ++ (flushC k ++ (flushC (c.len - k) ++ Q)), d.ok := by
    intro d hd
    rcases List.mem_append.1 hd with hd | hd
    · exact hok d (by simp [hd])
    · rcases List.mem_append.1 hd with hd | hd
      · exact (hfl2 d hd).1
      · rcases List.mem_append.1 hd with hd | hd
        · exact (hfl d hd).1
        · exact hok d (by simp [hd])
  have hlC : (chunksW (P ++ (flushC k ++ (flushC (c.len - k) ++ Q)))).length = (chunksW P).length + (c.len + (chunksW Q).length) := by
    rw [chunksW_append, List.length_append, chunksW_append, List.length_append, flushC_length, chunksW_append, List.length_append, flushC_length]
    omega
  have hstC : starts 0 (P ++ (flushC k ++ (flushC (c.len - k) ++ Q))) = starts 0 (P ++ c :: Q) := by
    rw [hst, starts_append, Nat.zero_add, starts_flush, starts_flush, show (chunksW P).length + k + (c.len - k) = (chunksW P).length + c.len by omega]
  have hchC : checkE (chunksW (P ++ (flushC k ++ (flushC (c.len - k) ++ Q)))) = 0 := by
    rw [checkE_chunks hokC (by rw [hlC]; omega)]
    intro d hd v hv
    rw [hstC]
    rcases List.mem_append.1 hd with hd | hd
    · exact hr d (by simp [hd]) v hv
    · rcases List.mem_append.1 hd with hd | hd
      · rw [(hfl2 d hd).2] at hv
        simp at hv
      · rcases List.mem_append.1 hd with hd | hd
        · rw [(hfl d hd).2] at hv
          simp at hv
        · exact hr d (by simp [hd]) v hv
  obtain ⟨c1, c2⟩ := chunks_spots hokC (by rw [hlC]; omega)
  have hgC : gapsL (spotsL (chunksW (P ++ (flushC k ++ (flushC (c.len - k) ++ Q))))) = gapsL (spotsL (chunksW (P ++ c :: Q))) := by
    rw [c2, hsp, gapsL_chunks hokC, gapsL_chunks hok]
    refine gapsP_append P _ _ (fun i p => ?_) 0 0
    rw [gapsP_flush, gapsP_flush]
    simp only [gapsP]
    rw [hf, if_pos rfl]
    congr 1 <;> omega
  have hjC : joinL (chunksW (P ++ (flushC k ++ (flushC (c.len - k) ++ Q)))) (gapsL (spotsL (chunksW (P ++ (flushC k ++ (flushC (c.len - k) ++ Q)))))) = joinL (chunksW (P ++ c :: Q)) (gapsL (spotsL (chunksW (P ++ c :: Q)))) := by
    rw [c2, hsp, gapsL_chunks hokC, gapsL_chunks hok]
    have j1 := joinL_chunks (P ++ (flushC k ++ (flushC (c.len - k) ++ Q))) [] []
    have j2 := joinL_chunks (P ++ c :: Q) [] []
    simp only [List.nil_append, List.length_nil, Nat.add_zero] at j1 j2
    rw [j1, j2]
    congr 1
    refine joinP_append P _ _ (fun p => ?_) 0
    rw [joinP_flush, joinP_flush]
    simp only [joinP]
    rw [hf, if_pos rfl]
    congr 1
    omega
  rw [hB, hC]
  refine ⟨by rw [hlB, hlen], hchB, ⟨P.length, ?_⟩, ?_, ?_, by rw [hlen]; omega, by rw [hlC, hlen], hchC, hgC, hjC⟩
  · rw [b2, spots_at]
    rfl
  · rintro s rfl
    have hx : chunksW (P ++ newC r b t :: (flushC (c.len - k) ++ Q)) = chunksW P ++ (wordOf r b t false :: (List.replicate (k - 1) 0 ++ chunksW (flushC (c.len - k) ++ Q))) := by
      rw [chunksW_append, chunksW_cons]
      unfold chkW newC
      dsimp only
      rw [hpl]
      rfl
    have hd1 : ∀ q : Nat, (chunksW (P ++ newC r b t :: (flushC (c.len - k) ++ Q))).drop ((chunksW P).length + 1 + q) = (List.replicate (k - 1) (0 : Int) ++ chunksW (flushC (c.len - k) ++ Q)).drop q := by
      intro q
      rw [hx, List.drop_append, List.drop_of_length_le (by omega), List.nil_append, show (chunksW P).length + 1 + q - (chunksW P).length = q + 1 by omega, List.drop_succ_cons]
    constructor
    · intro v hv
      unfold refsOf at hv
      dsimp only at hv
      have := hd1 0
      rw [Nat.add_zero] at this
      rw [Int.toNat_natCast, this, List.drop_zero, List.take_append_of_le_length (by rw [List.length_replicate]; omega)] at hv
      exact (List.mem_replicate.1 (List.mem_of_mem_take hv)).2
    · intro v hv
      unfold bodyOf at hv
      dsimp only at hv
      rw [Int.toNat_natCast, hd1, List.drop_append_of_le_length (by rw [List.length_replicate]; omega), List.take_append_of_le_length (by rw [List.length_drop, List.length_replicate]; omega)] at hv
      exact (List.mem_replicate.1 (List.mem_of_mem_drop (List.mem_of_mem_take hv))).2
  · intro s hs hm
    rw [b2] at hs
    obtain ⟨d, hd, he⟩ := spot_chunk _ [] hokB s hs
    rw [List.nil_append] at he
    rw [he] at hm
    rcases hrefB d hd _ hm with h | h
    · omega
    · exact hnotin h
end Go.Proofs.YtbmkbnalembbjaaGreatDoor

namespace Go.Proofs.YtbmkbnalembbjaaGreatDoor
open Go.RowKit
theorem spotsF_len : ∀ (cs : List Chk) (i : Nat), (spotsFrom i cs).length = cs.length
  | [], _ => rfl
  | c :: cs, i => by simp only [spotsFrom, List.length_cons, spotsF_len cs]
theorem spotsFrom_ix : ∀ (cs : List Chk) (i0 i : Nat) (c : Chk), cs[i]? = some c → (spotsFrom i0 cs)[i]? = some (c.spot (i0 + (chunksW (cs.take i)).length))
  | [], _, _, _, h => by simp at h
  | d :: cs, i0, 0, c, h => by
    simp only [List.getElem?_cons_zero, Option.some.injEq] at h
    subst h
    simp [spotsFrom, chunksW]
  | d :: cs, i0, i + 1, c, h => by
    simp only [List.getElem?_cons_succ] at h
    have ih := spotsFrom_ix cs (i0 + d.len) i c h
    simp only [spotsFrom, List.getElem?_cons_succ, List.take_succ_cons]
    rw [ih, chunksW_cons, List.length_append, chkW_length]
    congr 2
    omega
theorem spotsFrom_set : ∀ (cs : List Chk) (i0 i : Nat) (c c' : Chk), cs[i]? = some c → c'.r = c.r → c'.b = c.b → c'.t = c.t → c'.f = c.f → c'.pay.length = c.pay.length → spotsFrom i0 (cs.set i c') = spotsFrom i0 cs
  | [], _, _, _, _, _, _, _, _, _, _ => by simp
  | d :: cs, i0, 0, c, c', h, h1, h2, h3, h4, h5 => by
    simp only [List.getElem?_cons_zero, Option.some.injEq] at h
    subst h
    simp only [List.set_cons_zero, spotsFrom, Chk.spot, Chk.len, h1, h2, h3, h4, h5]
  | d :: cs, i0, i + 1, c, c', h, h1, h2, h3, h4, h5 => by
    simp only [List.getElem?_cons_succ] at h
    simp only [List.set_cons_succ, spotsFrom, spotsFrom_set cs (i0 + d.len) i c c' h h1 h2 h3 h4 h5]
theorem chunksW_set : ∀ (cs : List Chk) (i j : Nat) (c : Chk) (v : Int), cs[i]? = some c → j < c.pay.length → chunksW (cs.set i ⟨c.r, c.b, c.t, c.f, c.pay.set j v⟩) = (chunksW cs).set ((chunksW (cs.take i)).length + 1 + j) v
  | [], _, _, _, _, h, _ => by simp at h
  | d :: cs, 0, j, c, v, h, hj => by
    simp only [List.getElem?_cons_zero, Option.some.injEq] at h
    subst h
    simp only [List.set_cons_zero, List.take_zero]
    rw [chunksW_cons, chunksW_cons, List.set_append, if_pos (by rw [chkW_length]; simp [chunksW, Chk.len]; omega)]
    congr 1
    simp only [chkW, chunksW, List.flatMap_nil, List.length_nil]
    rw [show 0 + 1 + j = j + 1 by omega, List.set_cons_succ]
  | d :: cs, i + 1, j, c, v, h, hj => by
    simp only [List.getElem?_cons_succ] at h
    have ih := chunksW_set cs i j c v h hj
    simp only [List.set_cons_succ, List.take_succ_cons]
    rw [chunksW_cons, chunksW_cons, chunksW_cons, ih, List.length_append, List.set_append, if_neg (by omega)]
    congr 2
    omega
theorem chunks_cut {cs : List Chk} {i : Nat} {c : Chk} (h : cs[i]? = some c) : cs = cs.take i ++ c :: cs.drop (i + 1) := by
  obtain ⟨q, rfl⟩ := List.getElem?_eq_some_iff.1 h
  rw [← List.drop_eq_getElem_cons q, List.take_append_drop]
theorem refs_ix {cs : List Chk} {i : Nat} {c : Chk} (hok : ∀ c ∈ cs, c.ok) (h : cs[i]? = some c) :
    refsOf (chunksW cs) (c.spot (chunksW (cs.take i)).length) = c.pay.take c.r.toNat ∧ bodyOf (chunksW cs) (c.spot (chunksW (cs.take i)).length) = c.pay.drop c.r.toNat := by
  have h1 := split_refs (cs.take i) (cs.drop (i + 1)) c (hok c (List.mem_of_getElem? h))
  rw [← chunks_cut h] at h1
  exact h1
theorem take_set_same (i : Nat) (cs : List Chk) (c : Chk) (k : Nat) (c0 : Chk) (h0 : cs[i]? = some c0) (hl : c.len = c0.len) : (chunksW ((cs.set i c).take k)).length = (chunksW (cs.take k)).length := by
  rw [List.take_set]
  by_cases hk : i < k
  · have h1 : (cs.take k)[i]? = some c0 := by rw [List.getElem?_take, if_pos hk, h0]
    generalize cs.take k = ds at *
    have h2 := chunks_cut h1
    have h3 : ds.set i c = ds.take i ++ c :: ds.drop (i + 1) := by
      obtain ⟨q, -⟩ := List.getElem?_eq_some_iff.1 h1
      rw [List.set_eq_take_append_cons_drop, if_pos q]
    rw [h3]
    conv => rhs; rw [h2]
    rw [chunksW_append, chunksW_append, chunksW_cons, chunksW_cons]
    simp only [List.length_append, chkW_length, hl]
  · rw [List.set_eq_of_length_le (by rw [List.length_take]; omega)]
structure PaySet (a a' : List Int) (s : Spot) (j : Nat) (v : Int) : Prop where
  len : a'.length = a.length
  spotsE : spotsE a' = 0
  spots : spotsL a' = spotsL a
  refs : refsOf a' s = if (j : Int) < s.r then (refsOf a s).set j v else refsOf a s
  body : bodyOf a' s = if (j : Int) < s.r then bodyOf a s else (bodyOf a s).set (j - s.r.toNat) v
  other : ∀ s' ∈ spotsL a, s' ≠ s → refsOf a' s' = refsOf a s' ∧ bodyOf a' s' = bodyOf a s'
theorem pay_set {a : List Int} (h : spotsE a = 0) {s : Spot} (hs : s ∈ spotsL a) {j : Nat} (hj : (j : Int) < s.r + s.b) (v : Int) : PaySet a (a.set (s.loc.toNat + 1 + j) v) s j v := by
  obtain ⟨cs, hok, rfl, hS, hlen⟩ := arena_chunks h
  obtain ⟨i, hi⟩ := List.mem_iff_getElem?.1 hs
  rw [hS] at hi
  have hil : i < cs.length := by have := (List.getElem?_eq_some_iff.1 hi).1; rw [spotsF_len] at this; exact this
  have hc : cs[i]? = some cs[i] := List.getElem?_eq_getElem hil
  generalize cs[i] = c at hc
  have hix := spotsFrom_ix cs 0 i c hc
  rw [Nat.zero_add] at hix
  obtain rfl : c.spot (chunksW (cs.take i)).length = s := Option.some.inj (hix.symm.trans hi)
  have hcok := hok c (List.mem_of_getElem? hc)
  have hE := headE_ok.1 hcok.1
  have hjp : j < c.pay.length := by have := hcok.2; simp only [Chk.spot] at hj; omega
  have hset := chunksW_set cs i j c v hc hjp
  have hloc : (c.spot (chunksW (cs.take i)).length).loc.toNat = (chunksW (cs.take i)).length := by simp [Chk.spot]
  rw [hloc, ← hset]
  have hok' : ∀ d ∈ cs.set i ⟨c.r, c.b, c.t, c.f, c.pay.set j v⟩, d.ok := by
    intro d hd
    rcases List.mem_or_eq_of_mem_set hd with hd | rfl
    · exact hok d hd
    · exact ⟨hcok.1, by rw [List.length_set]; exact hcok.2⟩
  have hl' : (chunksW (cs.set i ⟨c.r, c.b, c.t, c.f, c.pay.set j v⟩)).length = (chunksW cs).length := by rw [hset, List.length_set]
  obtain ⟨p1, p2⟩ := chunks_spots hok' (by rw [hl']; exact hlen)
  have hS' := spotsFrom_set cs 0 i c ⟨c.r, c.b, c.t, c.f, c.pay.set j v⟩ hc rfl rfl rfl rfl (List.length_set ..)
  have hc' : (cs.set i ⟨c.r, c.b, c.t, c.f, c.pay.set j v⟩)[i]? = some ⟨c.r, c.b, c.t, c.f, c.pay.set j v⟩ := List.getElem?_set_self hil
  have hpre : ∀ k, (chunksW ((cs.set i ⟨c.r, c.b, c.t, c.f, c.pay.set j v⟩).take k)).length = (chunksW (cs.take k)).length := fun k => take_set_same i cs _ k c hc (by simp [Chk.len])
  obtain ⟨r1, r2⟩ := refs_ix hok hc
  obtain ⟨r3, r4⟩ := refs_ix hok' hc'
  rw [hpre] at r3 r4
  have hsp : Chk.spot (chunksW (cs.take i)).length ⟨c.r, c.b, c.t, c.f, c.pay.set j v⟩ = c.spot (chunksW (cs.take i)).length := rfl
  rw [hsp] at r3 r4
  dsimp only at r3 r4
  refine ⟨hl', p1, by rw [p2, hS', hS], ?_, ?_, ?_⟩
  · rw [r3, r1]
    show List.take c.r.toNat (c.pay.set j v) = if (j : Int) < c.r then (List.take c.r.toNat c.pay).set j v else List.take c.r.toNat c.pay
    split
    · rw [List.take_set]
    · rw [List.take_set, List.set_eq_of_length_le (by rw [List.length_take]; omega)]
  · rw [r4, r2]
    show List.drop c.r.toNat (c.pay.set j v) = if (j : Int) < c.r then List.drop c.r.toNat c.pay else (List.drop c.r.toNat c.pay).set (j - c.r.toNat) v
    split
    · rw [List.drop_set, if_pos (by omega)]
    · rw [List.drop_set, if_neg (by omega)]
  · intro s' hs' hne
    obtain ⟨k, hk⟩ := List.mem_iff_getElem?.1 hs'
    rw [hS] at hk
    have hkl : k < cs.length := by have := (List.getElem?_eq_some_iff.1 hk).1; rw [spotsF_len] at this; exact this
    have hd : cs[k]? = some cs[k] := List.getElem?_eq_getElem hkl
    generalize cs[k] = d at hd
    have hix2 := spotsFrom_ix cs 0 k d hd
    rw [Nat.zero_add] at hix2
    obtain rfl : d.spot (chunksW (cs.take k)).length = s' := Option.some.inj (hix2.symm.trans hk)
    have hki : i ≠ k := by
      intro e
      subst e
      obtain rfl := Option.some.inj (hd.symm.trans hc)
      exact hne rfl
    have hd' : (cs.set i ⟨c.r, c.b, c.t, c.f, c.pay.set j v⟩)[k]? = some d := by rw [List.getElem?_set_ne hki]; exact hd
    obtain ⟨t1, t2⟩ := refs_ix hok hd
    obtain ⟨t3, t4⟩ := refs_ix hok' hd'
    rw [hpre] at t3 t4
    rw [t1, t2, t3, t4]
    exact ⟨rfl, rfl⟩
theorem PaySet.check {a a' : List Int} {s : Spot} {j : Nat} {v : Int} (h : PaySet a a' s j v) (h0 : checkE a = 0) (hs : s ∈ spotsL a) (hv : (j : Int) < s.r → (placeF (spotsL a) v).isSome = true) : checkE a' = 0 := by
  obtain ⟨-, h1⟩ := checkE_ok.1 h0
  refine checkE_ok.2 ⟨h.spotsE, ?_⟩
  rw [h.spots]
  unfold refsOk at h1 ⊢
  refine List.all_eq_true.2 fun s' hs' => List.all_eq_true.2 fun x hx => ?_
  have h2 := List.all_eq_true.1 h1 s' hs'
  by_cases e : s' = s
  · subst e
    rw [h.refs] at hx
    by_cases hj : (j : Int) < s'.r
    · rw [if_pos hj] at hx
      rcases List.mem_or_eq_of_mem_set hx with hx | rfl
      · exact List.all_eq_true.1 h2 x hx
      · exact hv hj
    · rw [if_neg hj] at hx
      exact List.all_eq_true.1 h2 x hx
  · rw [(h.other s' hs' e).1] at hx
    exact List.all_eq_true.1 h2 x hx
end Go.Proofs.YtbmkbnalembbjaaGreatDoor

namespace Go.Proofs.YtbmkbnalembbjaaGreatDoor
open Go.RowKit
theorem flushG_spot {i p : Nat} (R : List Chk) {g : Rn} (hg : g ∈ flushG i p) : ∃ s ∈ spotsFrom i (flushC p ++ R), s.loc = g.loc ∧ s.f = true ∧ s.long = g.len := by
  unfold flushG at hg
  by_cases h : p = 0
  · rw [if_pos h] at hg; cases hg
  · rw [if_neg h] at hg
    obtain rfl := List.mem_singleton.1 hg
    refine ⟨(freeC p).spot i, ?_, rfl, rfl, ?_⟩
    · unfold flushC
      rw [if_neg h]
      exact List.mem_cons_self
    · show (1 : Int) + 0 + ((p : Int) - 1) = p
      omega
theorem join_free : ∀ (cs : List Chk) (i p : Nat), p ≤ i → ∀ g ∈ gapsP i p cs, ∃ s ∈ spotsFrom (i - p) (joinP p cs), s.loc = g.loc ∧ s.f = true ∧ s.long = g.len
  | [], i, p, _, g, hg => by
    have := flushG_spot (i := i - p) (p := p) [] hg
    rwa [List.append_nil] at this
  | c :: cs, i, p, hp, g, hg => by
    by_cases hf : c.f = true
    · simp only [gapsP, joinP, hf, if_true] at hg ⊢
      have := join_free cs (i + c.len) (p + c.len) (by omega) g hg
      rwa [show i + c.len - (p + c.len) = i - p by omega] at this
    · simp only [gapsP, joinP, hf] at hg ⊢
      simp only [if_false, Bool.false_eq_true] at hg ⊢
      rcases List.mem_append.1 hg with hg | hg
      · exact flushG_spot _ hg
      · obtain ⟨s, hs, e⟩ := join_free cs (i + c.len) 0 (by omega) g hg
        refine ⟨s, ?_, e⟩
        rw [spotsFrom_append, flushC_length, show i - p + p = i by omega]
        simp only [spotsFrom]
        exact List.mem_append_right _ (List.mem_cons_of_mem _ hs)
theorem join_spot {a : List Int} (h : checkE a = 0) {g : Rn} (hg : g ∈ gapsL (spotsL a)) : ∃ s ∈ spotsL (joinL a (gapsL (spotsL a))), s.loc = g.loc ∧ s.f = true ∧ s.long = g.len := by
  obtain ⟨cs, hok, rfl, hs, hl, hr⟩ := check_chunks h
  have hg0 : gapsL (spotsL (chunksW cs)) = gapsP 0 0 cs := by rw [hs, gapsL_chunks hok]
  rw [hg0] at hg ⊢
  have hj := joinL_chunks cs [] []
  simp only [List.nil_append, List.length_nil, Nat.add_zero] at hj
  have hok2 := joinP_ok hok hl
  have hlen := joinP_length cs 0
  rw [Nat.zero_add] at hlen
  obtain ⟨hs1, hs2⟩ := chunks_spots hok2 (by omega)
  rw [hj, hs2]
  exact join_free cs 0 0 (Nat.le_refl _) g hg
def KeepsLive (a b : List Int) : Prop := ∀ s ∈ spotsL a, s.f = false → s ∈ spotsL b ∧ refsOf b s = refsOf a s ∧ bodyOf b s = bodyOf a s
theorem KeepsLive.trans {a b c : List Int} (h : KeepsLive a b) (h' : KeepsLive b c) : KeepsLive a c := fun s hs hf => by
  obtain ⟨h1, h2, h3⟩ := h s hs hf
  obtain ⟨h4, h5, h6⟩ := h' s h1 hf
  exact ⟨h4, h5.trans h2, h6.trans h3⟩
theorem keeps_of {cs ds : List Chk} (hok : ∀ c ∈ cs, c.ok) (hok' : ∀ c ∈ ds, c.ok) (hl : (chunksW cs).length ≤ 256) (hl' : (chunksW ds).length ≤ 256)
    (h : ∀ P c Q, cs = P ++ c :: Q → c.f = false → ∃ P' Q', ds = P' ++ c :: Q' ∧ (chunksW P').length = (chunksW P).length) : KeepsLive (chunksW cs) (chunksW ds) := by
  intro s hs hf
  obtain ⟨-, e1⟩ := chunks_spots hok hl
  obtain ⟨-, e2⟩ := chunks_spots hok' hl'
  rw [e1] at hs
  obtain ⟨j, hj⟩ := List.mem_iff_getElem?.1 hs
  obtain ⟨P, c, Q, rfl, rfl, -⟩ := spots_split cs 0 j s hj
  rw [Nat.zero_add] at *
  obtain ⟨P', Q', rfl, hP⟩ := h P c Q rfl hf
  have h1 := split_refs P Q c (hok c (by simp))
  have h2 := split_refs P' Q' c (hok c (by simp))
  rw [hP] at h2
  refine ⟨?_, h2.1.trans h1.1.symm, h2.2.trans h1.2.symm⟩
  rw [e2, ← hP]
  exact List.mem_of_getElem? (spots_at P' c Q')
theorem joinP_split : ∀ (P : List Chk) (c : Chk) (Q : List Chk) (p : Nat), c.f = false → ∃ P' Q', joinP p (P ++ c :: Q) = P' ++ c :: Q' ∧ (chunksW P').length = p + (chunksW P).length
  | [], c, Q, p, hf => by
    refine ⟨flushC p, joinP 0 Q, by simp [joinP, hf], ?_⟩
    rw [flushC_length]
    simp [chunksW]
  | d :: P, c, Q, p, hf => by
    by_cases hd : d.f = true
    · obtain ⟨P', Q', h1, h2⟩ := joinP_split P c Q (p + d.len) hf
      refine ⟨P', Q', ?_, ?_⟩
      · rw [List.cons_append]
        simp only [joinP, hd, if_true]
        exact h1
      · rw [h2, chunksW_cons, List.length_append, chkW_length]
        omega
    · obtain ⟨P', Q', h1, h2⟩ := joinP_split P c Q 0 hf
      refine ⟨flushC p ++ d :: P', Q', ?_, ?_⟩
      · rw [List.cons_append]
        simp only [joinP, hd, Bool.false_eq_true, if_false]
        rw [h1]
        simp
      · rw [chunksW_append, List.length_append, flushC_length, chunksW_cons, List.length_append, chkW_length, h2, chunksW_cons, List.length_append, chkW_length]
        omega
theorem join_keeps {a : List Int} (h : checkE a = 0) : KeepsLive a (joinL a (gapsL (spotsL a))) := by
  obtain ⟨cs, hok, rfl, hs, hl, hr⟩ := check_chunks h
  have hg0 : gapsL (spotsL (chunksW cs)) = gapsP 0 0 cs := by rw [hs, gapsL_chunks hok]
  rw [hg0]
  have hj := joinL_chunks cs [] []
  simp only [List.nil_append, List.length_nil, Nat.add_zero] at hj
  have hlen := joinP_length cs 0
  rw [Nat.zero_add] at hlen
  rw [hj]
  refine keeps_of hok (joinP_ok hok hl) hl (by omega) (fun P c Q e hf => ?_)
  subst e
  obtain ⟨P', Q', h1, h2⟩ := joinP_split P c Q 0 hf
  exact ⟨P', Q', h1, by omega⟩
end Go.Proofs.YtbmkbnalembbjaaGreatDoor
