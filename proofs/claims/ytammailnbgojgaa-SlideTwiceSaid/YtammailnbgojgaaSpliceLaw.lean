/-
  Plain law: rows set into rows; an object's words. No program stands here.
-/
import Derived.Test.YtammailnbgojgaaArena2
import Derived.Test.YtammailnbgojgaaWord
import Derived.Laws.CopyOwn
import Derived.KernelRfl
namespace Go.Proofs.Ytammailnbgojgaa
open Go.RowKit

theorem splice_set {α : Type} {L cs : List α} {off k : Nat} (v : α) (h : off ≤ L.length) (hk : k < cs.length) : (splice L off cs).set (off + k) v = splice L off (cs.set k v) := by
  unfold splice
  rw [List.set_append_right _ _ (by rw [List.length_take]; omega), List.length_take, Nat.min_eq_left h, show off + k - off = k by omega, List.set_append_left _ _ hk, List.length_set]
theorem splice_at {α : Type} {L cs : List α} {off k : Nat} (h : off ≤ L.length) (hk : k < cs.length) : (splice L off cs)[off + k]? = cs[k]? := by
  unfold splice
  rw [List.getElem?_append_right (by rw [List.length_take]; omega), List.length_take, Nat.min_eq_left h, show off + k - off = k by omega, List.getElem?_append_left hk]
theorem splice_len {α : Type} {L cs : List α} {off : Nat} (h : off + cs.length ≤ L.length) : (splice L off cs).length = L.length := by
  unfold splice
  rw [List.length_append, List.length_append, List.length_take, List.length_drop]
  omega
theorem splice_map {α β : Type} (f : α → β) (L cs : List α) (off : Nat) : (splice L off cs).map f = splice (L.map f) off (cs.map f) := by
  unfold splice
  simp
theorem obj_words {a : List Int} {s : Spot} (h : SpotOk a s) : (a.drop s.loc.toNat).take s.long.toNat = wordOf s.r s.b s.t s.f :: (refsOf a s ++ bodyOf a s) := by
  have l0 := h.loc0
  have r0 := h.r0
  have b0 := h.b0
  have ft := h.fits
  unfold Spot.long at ft ⊢
  obtain ⟨h1, h2⟩ := List.getElem?_eq_some_iff.1 h.word
  rw [List.drop_eq_getElem_cons h1, h2, show (1 + s.r + s.b).toNat = (s.r.toNat + s.b.toNat) + 1 by omega, List.take_succ_cons]
  congr 1
  unfold refsOf bodyOf
  rw [List.take_add, List.drop_drop]

theorem zero_u64 (w : World) : (zeroValue 42).run Try.prog w = .ok (.int .u64 0) w := by kernel_rfl
theorem mid_set {Wd z : Int} {A rs bs : List Int} {q : Nat} (hA : A.length = q) (hq : q < rs.length) : (Wd :: (A ++ (rs.drop q ++ bs))).set (1 + q) z = Wd :: ((A ++ [z]) ++ (rs.drop (q + 1) ++ bs)) := by
  rw [Nat.add_comm 1 q, List.set_cons_succ, List.set_append_right _ _ (by omega), hA, Nat.sub_self, List.drop_eq_getElem_cons hq, List.cons_append, List.set_cons_zero]
  simp

end Go.Proofs.Ytammailnbgojgaa
