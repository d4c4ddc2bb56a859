/-
  The laws' closed fact 'forms'.
-/
import Derived.Test.YtjpleagcdncbfabAlike
import Derived.Test.YtjpleagcdncbfabTintFns
namespace Go.Proofs.Ytjpleagcdncbfab
open Go.RowKit

theorem forms_facts : checkE [1, 1] = 0 ∧ begsL (spotsL [1, 1]) = [0] := by decide
theorem forms_one {os : List Ob} {fr : List Int} (h : FormIs [1, 1] [0] os fr) : os.length = 1 := by
  obtain ⟨L, hL, rfl, -⟩ := h
  rw [List.length_map]
  have hb := hL.search.begs
  rw [forms_facts.2] at hb
  have h0 : (0 : Int) ∈ L := hL.roots 0 (by simp)
  have hle : L.length ≤ 1 := nodup_bound 1 L hL.search.once (fun x hx => by
    have := hb x hx
    simp only [List.mem_cons, List.not_mem_nil, or_false] at this
    omega)
  have := List.length_pos_of_mem h0
  omega
theorem forms_alive : AliveF [1, 1] [0] := ⟨forms_facts.1, by rw [forms_facts.2]; simp⟩

set_option maxHeartbeats 1000000 in
theorem forms_true (w : World) : Calls Try.prog 5 #[] w fun e w' => e = .returned (.bool true) ∧ Below w.heap.size w w' := by
  have H := Lib.hid (fun A A2 w hr hr2 => form_any A 2 2 [1, 1] A2 1 1 [0] w hr (by decide) (by decide) hr2 (by decide) (by decide))
  have hn1 := reads_new w [.int .u64 1, .int .u64 1] 56 2 1 rfl
  have hb1 := below_new w (.cells #[.int .u64 1, .int .u64 1] 56)
  have hn2 := reads_new (w.alloc (.cells #[.int .u64 1, .int .u64 1] 56)) [.int .i64 0] 3 1 1 rfl
  have hb2 := below_new (w.alloc (.cells #[.int .u64 1, .int .u64 1] 56)) (.cells #[.int .i64 0] 3)
  have hn3 := (hn1.below (hb2.mono (by simp))).more (show w.heap.size + 1 ≤ ((w.alloc (.cells #[.int .u64 1, .int .u64 1] 56)).alloc (.cells #[.int .i64 0] 3)).heap.size by simp)
  simp only [World.size_alloc] at hn2
  have HS := fun w : World => (show Calls Try.prog 15 #[] w fun e w' => e = .returned (.slice (some ⟨w.heap.size, 0, none⟩) 2 2) ∧ w' = w.alloc (.cells #[.int .u64 1, .int .u64 1] 56) by
    go_enter Try.func15, Try.ntmps15
    go_wp2
    go_ret
    exact ⟨rfl, rfl⟩)
  have HS := Lib.hid HS
  go_enter Try.func5, Try.ntmps5
  go_wp2_with fail
  refine (HS.out _).mono ?_
  rintro e w1 ⟨rfl, rfl⟩
  go_wp2_with fail
  refine (H.out _ _ _ (by simpa using hn3) (by simpa using hn2)).mono ?_
  rintro e w2 ⟨hb3, ⟨-, os, fr, vs, Ao, co, Af, cf, hF, -, -, rfl, -⟩ | ⟨hno, -⟩⟩
  · have hl := forms_one hF
    rw [hl]
    have G := Blk.new w2 44 #[.slice Ao 1 co, .slice Af 1 cf]
    have g0 := G.cell 0
    simp only [List.getElem?_toArray, List.getElem?_cons_zero, List.getElem?_cons_succ] at g0
    have hb4 := below_step (below_step hb1 hb2) hb3
    clear hF hl
    go_wp2
    go_ret
    exact ⟨by first | rfl | simp, hb4.alloc hb4.size _⟩
  · exact absurd forms_alive hno
end Go.Proofs.Ytjpleagcdncbfab
