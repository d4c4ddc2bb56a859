/-
  package tint: the marker's empty.
-/
import Derived.Test.YtbmkbnalembbjaaDoorBoundEach
namespace Go.Proofs.YtbmkbnalembbjaaDoor
open Go.RowKit

theorem MkTo.trans {room : Nat} {L : List Int} {lk : Int → List Int} {D E : Int → Prop} {s1 s2 s3 : Mk} (h1 : MkTo room L lk E s1 s2) (h2 : MkTo room L lk D s2 s3) : MkTo room L lk D s1 s3 :=
  ⟨h2.ok, h2.at_, fun y hy => h2.more y (h1.more y hy), h2.passes.trans h1.passes, Nat.le_trans h2.left h1.left⟩
theorem MkTo.pop {room : Nat} {L : List Int} {lk : Int → List Int} {D : Int → Prop} {s1 s2 s3 : Mk} (h1 : MkTo room L lk D s1 s2) (hl : s2.pop.left L.length < s2.left L.length) (h2 : MkTo room L lk D s2.pop s3) : MkTo room L lk D s1 s3 :=
  ⟨h2.ok, h2.at_, fun y hy => h2.more y (h1.more y hy), h2.passes.trans h1.passes, by have := h1.left; have := h2.left; omega⟩
/-- A slice that is owned, one shorter. -/
theorem own_pop {w : World} {base : Nat} {e : TypeId} {A : Option Addr} {p c : Nat} {l : List Value} {x : Value} (h : w.ownsRow base e 1 (.slice A (p + 1) c) (p + 1) (l ++ [x])) : w.ownsRow base e 1 (.slice A p c) p l := by
  obtain ⟨g, cap, hv, -⟩ := h.form (by omega)
  obtain ⟨rfl, rfl⟩ : A = some ⟨g, 0, none⟩ ∧ c = cap := by simpa using hv
  obtain ⟨cur, h1, h2, h3, h4, h5, h6⟩ := own_open h
  have hl : l.length = p := by have := h.1; simpa using this
  have h9 := own_close (n := p) cur h1 h2 (Nat.le_of_succ_le h3) h4 h5
  have h7 : cur.take (p * 1) = l := by
    have h8 : cur.take (p * 1) = (cur.take ((p + 1) * 1)).take p := by rw [List.take_take]; congr 1; omega
    rw [h8, h6, List.take_append_of_le_length (by omega), List.take_of_length_le (by omega)]
  rw [h7] at h9
  exact h9

set_option maxRecDepth 100000 in
set_option maxHeartbeats 2000000 in
theorem mkEmpty_any (w0 : World) (gh b : Nat) (A Ah : Option Addr) (n c kh ch : Nat) (a : List Int) (HO : HeapOk w0 gh b A Ah n c kh ch a) (nm room : Nat) (hnm : nm = (n + 63) / 64) (hrm : room ≤ 256) (L : List Int) (hLb : ∀ x ∈ L, x ∈ begsL (spotsL a)) (hLc : ∀ x ∈ L, ∀ y ∈ linksAt a (spotsL a) x, y ∈ L)
    (D : Int → Prop) (st : Mk) (w : World) (h : MarkSt w0 gh nm (spotsL a) room st w) (hok : MkOk room L st) (hat : MkAt (linksAt a (spotsL a)) D st) :
    Calls Tryd.prog 17 #[.pointer (some ⟨w0.heap.size, 0, none⟩)] w fun e w' => e = .returned (.tuple #[]) ∧ ∃ st', MarkSt w0 gh nm (spotsL a) room st' w' ∧ MkTo room L (linksAt a (spotsL a)) D st st' ∧ st'.stack = [] := by
  have HE := Lib.hid (mkEach_any w0 gh b A Ah n c kh ch a HO nm room hnm hrm L hLb hLc D)
  obtain ⟨f, hf⟩ := measure_ex (fun (wr : World) (k : Nat) => ∃ st1, MarkSt w0 gh nm (spotsL a) room st1 wr ∧ MkTo room L (linksAt a (spotsL a)) D st st1 ∧ k = st1.left L.length)
  have HF := Lib.hid hf
  have HGl := Lib.hid HO.blk.lt
  have H0 : Hid (∃ st1, MarkSt w0 gh nm (spotsL a) room st1 w ∧ MkTo room L (linksAt a (spotsL a)) D st st1) := ⟨st, h, hok, hat, fun y hy => hy, rfl, Nat.le_refl _⟩
  have hcf := fun (x : Value) (w : World) => (plain_of (fn := Tryd.f16) Tryd.func16 (by kernel_rfl) (by kernel_rfl)) #[.pointer (some ⟨w0.heap.size, 0, none⟩), x] w
  clear hf h hok hat hLb hLc HO hnm
  go_enter Tryd.func17, Tryd.ntmps17
  go_wp2
  go_loopw [2] (fun _ wr => Hid (∃ st1, MarkSt w0 gh nm (spotsL a) room st1 wr ∧ MkTo room L (linksAt a (spotsL a)) D st st1)) (fun _ wr => f wr)
  case atStart => exact H0
  case round =>
    obtain ⟨stx, hx1, hx2⟩ := hrel.out
    obtain ⟨⟨st1, hs1, ht1, hm1⟩, -⟩ := HF.out wr _ ⟨stx, hx1, hx2, rfl⟩
    obtain ⟨As, cs, Am, cm, m, g1, g2, g3, g4, g5, g6, g7⟩ := hs1
    rcases List.eq_nil_or_concat st1.stack with hnil | ⟨ys, x, hcat⟩
    · have HS := Lib.hid (show MarkSt w0 gh nm (spotsL a) room st1 wr from ⟨As, cs, Am, cm, m, g1, g2, g3, g4, g5, g6, g7⟩)
      have HT := Lib.hid ht1
      have HN := Lib.hid hnil
      rw [hnil] at g1
      have c2 := g1.cell 2
      simp only [List.getElem?_toArray, List.getElem?_cons_zero, List.getElem?_cons_succ, List.length_nil] at c2
      clear g1 g2 g3 g4 g5 g6 g7 hx1 hx2 hrel ht1 hm1 hnil
      go_wp2
      go_end0
      exact ⟨rfl, st1, HS.out, HT.out, HN.out⟩
    · obtain ⟨p, hp⟩ : ∃ p, p = ys.length := ⟨_, rfl⟩
      have hsl : st1.stack.length = p + 1 := by rw [hcat, List.concat_eq_append, List.length_append, hp]; rfl
      have hsx : st1.stack = ys ++ [x] := by rw [hcat, List.concat_eq_append]
      have hfit := ht1.ok.fits
      have hp256 : p + 1 ≤ 256 := by omega
      have hxM := ht1.ok.sub x (ht1.ok.waits x (by rw [hsx]; simp))
      rw [hsl] at g1 g2
      rw [hsx, List.map_append] at g2
      have hpc := own_cap g2
      obtain ⟨ad, v, rfl, had, hv, hc⟩ := Reads.num (xs := ys ++ [x]) (kd := .i64) (by rw [List.map_append]; exact Reads.of_own g2) (show p < p + 1 by omega)
      obtain rfl : x = v := by
        rw [List.getElem?_append_right (by omega), hp] at hv
        simpa using hv
      have hpop : (st1.pop).stack = ys := by
        show st1.stack.dropLast = ys
        rw [hsx, List.dropLast_concat]
      have HPo : Hid (∀ q, MarkSt w0 gh nm (spotsL a) room st1.pop ((wr.drewN q).setCell ⟨w0.heap.size, 2, none⟩ (.slice (some ad) p cs))) := by
        intro q
        have hbq := below_drewN (Below.refl wr.heap.size wr) q
        refine ⟨some ad, cs, Am, cm, m, ?_, ?_, own_far (own_below g3 hbq) (by dsimp only; omega) _, g4, g5, g6, (below_drewN g7 q).setCell (p := ⟨w0.heap.size, 2, none⟩) (Nat.le_refl _) _⟩
        · rw [hpop, ← hp]
          simpa [Mk.pop] using (g1.drewN q).set_ 2 (.slice (some ad) p cs)
        · rw [hpop, ← hp]
          exact own_far (own_below (own_pop g2) hbq) (by dsimp only; omega) _
      have HT2 := Lib.hid ht1
      have hat2 : MkAt (linksAt a (spotsL a)) (fun y => D y ∨ y = x) st1.pop := ht1.at_.pop (by rw [hsx]; simp)
      have HM1 := Lib.hid hm1
      have HE2 := Lib.hid (fun w h => HE.out st1.pop w h ht1.ok.pop x hxM hat2)
      have HLt : Hid (st1.pop.left L.length < st1.left L.length) := Mk.left_pop _ (by rw [hsx]; simp)
      have c0 := g1.cell 0
      have c2 := g1.cell 2
      have f2 := g1.frozen 2
      simp only [List.getElem?_toArray, List.getElem?_cons_zero, List.getElem?_cons_succ] at c0 c2
      obtain ⟨P1, hP1⟩ : ∃ P1, P1 = p + 1 := ⟨_, rfl⟩
      rw [← hP1] at c2 hp256 hpc
      have wp1 : IntKind.i64.wrap ((P1 : Int) - 1) = p := by rw [IntWalk.i64_in _ (by omega)]; omega
      have wp2 : (P1 : Int) - 1 = p := by omega
      have hpl : p < P1 := by omega
      have hpc2 : p ≤ cs := by omega
      clear g1 g2 g3 g4 g5 g6 g7 hx1 hx2 hrel ht1 hm1 hat2 hpop hsx hcat hv hsl hfit hxM hP1 hp
      go_wp2
      go_quiet (fail)
      go_wp2
      go_region
      go_wp2_with fail
      refine (HE2.out _ (HPo.out _)).mono ?_
      rintro e w5 ⟨rfl, st2, hs2, ht2⟩
      have HTo := Lib.hid (HT2.out.pop HLt.out ht2)
      have HS2 := Lib.hid hs2
      have HMs : Hid (f w5 < f wr) := by
        have h1 := (HF.out w5 _ ⟨st2, hs2, HTo.out, rfl⟩).2
        have h2 := ht2.left
        have h3 := HLt.out
        have h4 := HM1.out
        show f w5 < f wr
        omega
      clear hs2 ht2
      go_wp2
      go_roundw
      case rel => exact ⟨st2, HS2.out, HTo.out⟩
      case measure => exact HMs.out
end Go.Proofs.YtbmkbnalembbjaaDoor
