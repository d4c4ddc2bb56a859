/-
  package tint: the marker: how it lies in the memory; has, long.
-/
import Derived.Test.YtbmkbnalembbjaaDoorBoundLaw
import Derived.Test.YtbmkbnalembbjaaDoorSpotSet
import Derived.Test.YtbmkbnalembbjaaDoorTintEach
namespace Go.Proofs.YtbmkbnalembbjaaDoor
open Go.RowKit

/-- The marker in the memory: its block is the first behind w0. -/
def MarkSt (w0 : World) (gh nm : Nat) (S : List Spot) (room : Nat) (st : Mk) (w : World) : Prop :=
  ∃ (As : Option Addr) (cs : Nat) (Am : Option Addr) (cm : Nat) (m : List Int),
    Blk w w0.heap.size 49 #[.pointer (some ⟨gh, 0, none⟩), .int .i64 room, .slice As st.stack.length cs, .bool st.over, .slice Am nm cm, .int .i64 st.passes, .int .i64 st.deep] ∧
    w.ownsRow (w0.heap.size + 1) 3 1 (.slice As st.stack.length cs) st.stack.length (st.stack.map (.int .i64)) ∧
    w.ownsRow (w0.heap.size + 1) 41 1 (.slice Am nm cm) nm (m.map (.int .u64)) ∧
    m.length = nm ∧ U64s m ∧ MarksOf S st.M m ∧ Below w0.heap.size w0 w
theorem MarkSt.drewN {w0 w : World} {gh nm room : Nat} {S : List Spot} {st : Mk} (h : MarkSt w0 gh nm S room st w) (q : Nat) : MarkSt w0 gh nm S room st (w.drewN q) := by
  obtain ⟨As, cs, Am, cm, m, h1, h2, h3, h4, h5, h6, h7⟩ := h
  exact ⟨As, cs, Am, cm, m, h1.drewN q, own_below h2 (below_drewN (Below.refl _ _) q), own_below h3 (below_drewN (Below.refl _ _) q), h4, h5, h6, below_drewN h7 q⟩
theorem MarkSt.below {w0 w : World} {gh nm room : Nat} {S : List Spot} {st : Mk} (h : MarkSt w0 gh nm S room st w) : Below w0.heap.size w0 w := by
  obtain ⟨_, _, _, _, _, _, _, _, _, _, _, h7⟩ := h
  exact h7
/-- The heap of objects that the marker looks at. -/
structure HeapOk (w0 : World) (gh b : Nat) (A Ah : Option Addr) (n c kh ch : Nat) (a : List Int) : Prop where
  blk : Blk w0 gh 53 #[.slice A n c, .map (some b), .slice Ah kh ch]
  map : MapIs w0 Tryd.prog 3 .i64 b 300 (headF (spotsL a))
  row : w0.ownsRow 0 3 1 (.slice Ah kh ch) kh ((begsL (spotsL a)).map (.int .i64))
  reads : Reads w0 w0.heap.size 1 A n (a.map (.int .u64))
  fits : n ≤ c
  len : a.length = n
  few : n ≤ 256
  ok : checkE a = 0
theorem HeapOk.spots {w0 : World} {gh b n c kh ch : Nat} {A Ah : Option Addr} {a : List Int} (h : HeapOk w0 gh b A Ah n c kh ch a) : spotsE a = 0 := (checkE_ok.1 h.ok).1
/-- Marks of objects are marks. -/
theorem marks_chk {a m M : List Int} {n nm : Nat} (h0 : spotsE a = 0) (hal : a.length = n) (hn : n ≤ 256) (hnm : nm = (n + 63) / 64) (hl : m.length = nm) (hm : U64s m) (hM : MarksOf (spotsL a) M m) (hb : ∀ x ∈ M, x ∈ begsL (spotsL a)) : mchkE m n = 0 := by
  have hz : lastOver m n = false := (lastOver_marks hm (by omega)).2 (fun j h1 h2 => by
    cases hj : mk m j
    · rfl
    · obtain ⟨x, hx, h3, h4⟩ := (hM j).1 hj
      obtain ⟨t, ht⟩ := begsL_iff.1 (hb x hx)
      obtain ⟨t1, t2, t3⟩ := spotAt_some ht
      rw [longW_of ht] at h4
      have := (parse_mem (parse_ok h0).2 t t1).1.fits
      omega)
  unfold mchkE
  rw [if_neg (by omega), if_neg (by omega), if_neg (by rw [Int.toNat_natCast, hz]; simp)]
end Go.Proofs.YtbmkbnalembbjaaDoor
