/-
  The laws' closed fact 'faints'.
-/
import Derived.Test.YthfjopnomkfegabFaintKeep
import Derived.Test.YthfjopnomkfegabTintFns
namespace Go.Proofs.Ythfjopnomkfegab
open Go.RowKit

theorem faints_facts : checkE [1, 1] = 0 ∧ begsL (spotsL [1, 1]) = [0] := by decide
theorem faints_one {L : List Int} (h : Kept [1, 1] (spotsL [1, 1]) [0] [] L) : L.length = 1 := by
  have hb := h.keeping.begs
  rw [faints_facts.2] at hb
  have h0 : (0 : Int) ∈ L := h.keeping.roots 0 (by simp)
  have hle : L.length ≤ 1 := nodup_bound 1 L h.keeping.once (fun x hx => by
    have := hb x hx
    simp only [List.mem_cons, List.not_mem_nil, or_false] at this
    omega)
  have := List.length_pos_of_mem h0
  omega
theorem faints_ok : FaintOk [1, 1] [0] 0 (pairsL []) := ⟨faints_facts.1, by rw [faints_facts.2]; simp, by decide, by simp [pairsL]⟩

set_option maxHeartbeats 400000 in
theorem faints_true (w : World) : Calls Try.prog 23 #[] w fun e w' => e = .returned (.bool true) ∧ Below w.heap.size w w' := by
  have H := Lib.hid (fun A A2 w hr hr2 => keepF_any A 2 2 [1, 1] A2 1 1 [0] none 0 0 [] w hr (by decide) (by decide) hr2 (by decide) (by decide) Reads.none_ (by decide) (by simp [pairsL]))
  have hn1 := reads_new w [.int .u64 1, .int .u64 1] 77 2 1 rfl
  have hb1 := below_new w (.cells #[.int .u64 1, .int .u64 1] 77)
  have hn2 := reads_new (w.alloc (.cells #[.int .u64 1, .int .u64 1] 77)) [.int .i64 0] 3 1 1 rfl
  have hb2 := below_new (w.alloc (.cells #[.int .u64 1, .int .u64 1] 77)) (.cells #[.int .i64 0] 3)
  have hn3 := (hn1.below (hb2.mono (by simp))).more (show w.heap.size + 1 ≤ ((w.alloc (.cells #[.int .u64 1, .int .u64 1] 77)).alloc (.cells #[.int .i64 0] 3)).heap.size by simp)
  simp only [World.size_alloc] at hn2
  have HS := fun w : World => (show Calls Try.prog 31 #[] w fun e w' => e = .returned (.slice (some ⟨w.heap.size, 0, none⟩) 2 2) ∧ w' = w.alloc (.cells #[.int .u64 1, .int .u64 1] 77) by
    go_enter Try.func31, Try.ntmps31
    go_wp2
    go_ret
    exact ⟨rfl, rfl⟩)
  have HS := Lib.hid HS
  go_enter Try.func23, Try.ntmps23
  go_wp2_with fail
  refine (HS.out _).mono ?_
  rintro e w1 ⟨rfl, rfl⟩
  go_wp2_with fail
  refine (H.out _ _ _ (by simpa using hn3) (by simpa using hn2)).mono ?_
  rintro e w2 ⟨hb3, ⟨-, L, A', c', hL, -, rfl, -⟩ | ⟨hno, -⟩⟩
  · have hl := faints_one hL
    clear hL
    generalize L.length = k at *
    subst hl
    go_wp2
    go_ret
    exact ⟨by first | rfl | simp, below_step (below_step hb1 hb2) hb3⟩
  · exact absurd faints_ok hno
end Go.Proofs.Ythfjopnomkfegab
