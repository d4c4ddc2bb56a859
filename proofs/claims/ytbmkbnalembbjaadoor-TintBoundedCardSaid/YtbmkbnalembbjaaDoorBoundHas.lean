/-
  package tint: the marker's has.
-/
import Derived.Test.YtbmkbnalembbjaaDoorBoundSt
import Derived.BigQuiet
namespace Go.Proofs.YtbmkbnalembbjaaDoor
open Go.RowKit

theorem mstE_has {a m M : List Int} {n nm k : Nat} (h0 : spotsE a = 0) (hal : a.length = n) (hn : n ≤ 256) (hnm : nm = (n + 63) / 64) (hl : m.length = nm) (hm : U64s m) (hM : MarksOf (spotsL a) M m) (hb : ∀ x ∈ M, x ∈ begsL (spotsL a)) (hk : (k : Int) ∈ begsL (spotsL a)) : mstE m n k 1 = 0 ∧ hasV m n k = decide ((k : Int) ∈ M) := by
  obtain ⟨t, ht⟩ := begsL_iff.1 hk
  obtain ⟨t1, t2, t3⟩ := spotAt_some ht
  have h1 := (parse_mem (parse_ok h0).2 t t1).1
  have h2 := long_pos h1
  have h3 := h1.fits
  have hE : mstE m n k 1 = 0 := mstE_of (L := 1) (marks_chk h0 hal hn hnm hl hm hM hb) (by omega)
  refine ⟨hE, ?_⟩
  unfold hasV
  rw [if_pos hE, Int.toNat_natCast]
  have h4 := hM.has h0 hb hk
  cases hx : mk m k
  · exact (decide_eq_false (fun h => by rw [h4.2 h] at hx; cases hx)).symm
  · exact (decide_eq_true (h4.1 hx)).symm

set_option maxRecDepth 100000 in
set_option maxHeartbeats 1000000 in
theorem mkHas_any (w0 : World) (gh b : Nat) (A Ah : Option Addr) (n c kh ch : Nat) (a : List Int) (HO : HeapOk w0 gh b A Ah n c kh ch a) (nm room : Nat) (hnm : nm = (n + 63) / 64) (st : Mk) (w : World) (h : MarkSt w0 gh nm (spotsL a) room st w)
    (hM : ∀ x ∈ st.M, x ∈ begsL (spotsL a)) (k : Nat) (hk : (k : Int) ∈ begsL (spotsL a)) :
    Calls Tryd.prog 18 #[.pointer (some ⟨w0.heap.size, 0, none⟩), .int .i64 k] w fun e w' => e = .returned (.bool (decide ((k : Int) ∈ st.M))) ∧ ∃ q, w' = w.drewN q := by
  obtain ⟨As, cs, Am, cm, m, h1, h2, h3, h4, h5, h6, h7⟩ := h
  obtain ⟨q1, q2⟩ := mstE_has HO.spots HO.len HO.few hnm h4 h5 h6 hM hk
  have hnf := HO.few
  have hr3 := Reads.of_own h3
  have HH := fun q => mHas_any Am nm cm w.heap.size m n k (w.drewN q) (hr3.drewN q) (by omega) h5
  rw [q1, q2] at HH
  have HH := Lib.hid HH
  have hB := HO.blk.below h7 HO.blk.lt
  have k0 := hB.cell 0
  have m0 := h1.cell 0
  have m4 := h1.cell 4
  simp only [List.getElem?_toArray, List.getElem?_cons_zero, List.getElem?_cons_succ] at k0 m0 m4
  generalize decide ((k : Int) ∈ st.M) = v at *
  clear h1 h2 h3 h4 h5 h6 h7 hB hM hk HO q1 q2 hr3 hnm
  go_enter Tryd.func18, Tryd.ntmps18
  go_wp2
  go_quiet ((go_at_call 10; refine (HH.out _).mono ?_; rintro e w' ⟨rfl, rfl⟩; exact ⟨rfl, _, rfl⟩))
  go_wp2
  go_ret
  exact ⟨rfl, _, rfl⟩
end Go.Proofs.YtbmkbnalembbjaaDoor
