/-
  package tint: Reach's closure: a word is added to what is found.
-/
import Derived.Test.YtbmkbnalembbjaaDoorTintHeap
namespace Go.Proofs.YtbmkbnalembbjaaDoor
open Go.RowKit

def seenF (out : List Int) : Int → Option Value := fun x => if x ∈ out then some (.bool true) else none
theorem seenF_snoc (out : List Int) (x : Int) : seenF (out ++ [x]) = upd (seenF out) x (.bool true) := by
  funext y
  unfold seenF upd
  by_cases h : y = x
  · subst h; simp
  · simp [h]

/-- What the closure has captured: where it lies, what it holds. -/
def AddSt (w0 : World) (out : List Int) (w : World) : Prop :=
  ∃ Ao co, Blk w (w0.heap.size + 1) 56 #[.map (some w0.heap.size)] ∧ Blk w (w0.heap.size + 1 + 1) 23 #[.slice Ao out.length co] ∧ MapIs w Tryd.prog 3 .i64 w0.heap.size out.length (seenF out) ∧
    w.ownsRow (w0.heap.size + 1 + 1 + 1) 3 1 (.slice Ao out.length co) out.length (out.map (.int .i64)) ∧ Below w0.heap.size w0 w
theorem AddSt.drewN {w0 w : World} {out : List Int} (h : AddSt w0 out w) (q : Nat) : AddSt w0 out (w.drewN q) := by
  obtain ⟨Ao, co, h1, h2, h3, h4, h5⟩ := h
  exact ⟨Ao, co, h1.drewN q, h2.drewN q, h3.drewN q, own_below h4 (below_drewN (Below.refl _ _) q), below_drewN h5 q⟩

theorem zero_bool (w : World) : (zeroValue 4).run Tryd.prog w = .ok (.bool false) w := by kernel_rfl

set_option maxRecDepth 100000 in
set_option maxHeartbeats 1000000 in
theorem add_any (w0 : World) (out : List Int) (x : Int) (w : World) (h : AddSt w0 out w) (hx : (Lit.int .i64 x).wf = true) (hl : out.length ≤ 100000) :
    Calls Tryd.prog 20 #[.int .i64 x, .pointer (some ⟨w0.heap.size + 1, 0, none⟩), .pointer (some ⟨w0.heap.size + 1 + 1, 0, none⟩)] w fun e w' => e = .returned (.tuple #[]) ∧ AddSt w0 (addL out x) w' := by
  obtain ⟨Ao, co, h1, h2, h3, h4, h5⟩ := h
  have hlook := h3.look (k := 3) (t := 56) Tryd.underlying3 Tryd.underlying56 (zero_bool _) hx
  have k0 := h1.cell 0
  simp only [List.getElem?_toArray, List.getElem?_cons_zero] at k0
  by_cases hm : x ∈ out
  · have e1 : seenF out x = some (.bool true) := by unfold seenF; rw [if_pos hm]
    have e2 : addL out x = out := by unfold addL; rw [if_pos hm]
    rw [e1] at hlook
    rw [e2]
    have hlook2 : (Instr.lookup 56 (.map (some w0.heap.size)) (.int .i64 x) false).run Tryd.prog w = .ok (.bool true) w := hlook
    have HS : Hid (AddSt w0 out w) := ⟨Ao, co, h1, h2, h3, h4, h5⟩
    clear hlook e1 e2 hm h1 h2 h3 h4 h5
    go_enter Tryd.func20, Tryd.ntmps20
    go_wp2
    go_end0
    exact ⟨rfl, HS.out⟩
  · have e1 : seenF out x = none := by unfold seenF; rw [if_neg hm]
    have e2 : addL out x = out ++ [x] := by unfold addL; rw [if_neg hm]
    rw [e1] at hlook
    rw [e2]
    have hlook2 : (Instr.lookup 56 (.map (some w0.heap.size)) (.int .i64 x) false).run Tryd.prog w = .ok (.bool false) w := hlook
    obtain ⟨w1, hupd, hM1, hg1⟩ := h3.store (k := 3) (t := 56) Tryd.underlying3 Tryd.underlying56 (by unfold maxLen; omega) (x := x) hx (.bool true)
    rw [← seenF_snoc] at hM1
    have hwl := h2.lt
    have hB1 := h1.grown hg1 (fun h => by injection h with h; omega)
    have hD1 := h2.grown hg1 (fun h => by injection h with h; omega)
    have hO1 := own_grown h4 hg1 (fun g hg h => by injection h with h; have := (h4.lt g hg).1; omega)
    have hb1 := h5.grown hg1 h5.size (fun g hg => by injection hg with hg; omega)
    have hw1 : w0.heap.size + 1 + 1 < w1.heap.size := hD1.lt
    have hB2 := hB1.alloc (.cells #[.int .i64 x] 3)
    have hD2 := hD1.alloc (.cells #[.int .i64 x] 3)
    have hM2 := hM1.alloc (.cells #[.int .i64 x] 3)
    have hO2 := hO1.alloc (.cells #[.int .i64 x] 3)
    have hb2 := hb1.alloc hb1.size (.cells #[.int .i64 x] 3)
    have d0 := hD1.cell 0
    have q0 := hB1.cell 0
    simp only [List.getElem?_toArray, List.getElem?_cons_zero] at d0 q0
    obtain ⟨i0, hi, hz0, hz1, hz2⟩ := info_parts info_int
    obtain ⟨k, hk⟩ : ∃ k, k = out.length := ⟨_, rfl⟩
    rw [← hk] at hO2 hD2 hM2 d0 hl
    have HK := Lib.hid hk
    have HM2 := Lib.hid hM2
    have HB2 := Lib.hid hB2
    have HD2 := Lib.hid hD2
    clear hlook e1 e2 hm h1 h2 h3 h4 h5 hM1 hB1 hD1 hO1 hb1 hB2 hD2 hM2 hg1 hk hwl
    go_enter Tryd.func20, Tryd.ntmps20
    go_wp2_with (at_builtin; refine wpList_append_any _ rfl (.tmp 10) (.tmp 12) 23 rfl (w0.heap.size + 1 + 1 + 1) 3 i0 (.int .i64 0) 1 8 Tryd.underlying23 hi hz0 hz1 hz2 rfl (by decide) (.slice Ao k co) k _ rfl hO2 (w1.heap.size + 1) (some ⟨w1.heap.size, 0, none⟩) 1 1 [.int .i64 x] rfl (reads_new w1 [.int .i64 x] 3 1 1 rfl) (by simp [Value.oneCell']) (by unfold maxLen; omega) (by omega) (by simp; omega) ?_; rintro v' w3 hown3 hgr - -; obtain ⟨A5, c5, rfl⟩ := own_slice hown3; have hD3 := HD2.out.grown hgr (fun h => own_off hO2 (by omega) h.symm); have p0 := hD3.cell 0; have pf := hD3.frozen 0; simp only [List.getElem?_toArray, List.getElem?_cons_zero] at p0)
    go_end0
    have hB3 := HB2.out.grown hgr (fun h => own_off hO2 (by omega) h.symm)
    have hM3 := HM2.out.kept hgr (fun h => own_off hO2 (by omega) h.symm)
    have hb3 := hb2.grown hgr hb2.size (fun g hg => by have := (hO2.lt g hg).1; omega)
    have hD4 : Blk (w3.setCell ⟨w0.heap.size + 1 + 1, 0, none⟩ (.slice A5 (k + 1) c5)) (w0.heap.size + 1 + 1) 23 #[.slice A5 (k + 1) c5] := by simpa using hD3.set_ 0 (.slice A5 (k + 1) c5)
    refine ⟨rfl, A5, c5, hB3.far (by dsimp only; omega) _, ?_, ?_, ?_, hb3.setCell (p := ⟨w0.heap.size + 1 + 1, 0, none⟩) (by dsimp only; omega) _⟩
    · rw [List.length_append, List.length_singleton, ← HK.out]
      exact hD4
    · rw [List.length_append, List.length_singleton, ← HK.out]
      exact hM3.setCell (by dsimp only; omega) _
    · rw [List.length_append, List.length_singleton, ← HK.out, List.map_append]
      exact own_apart hown3 (own_off hown3 (by dsimp only; omega)) _
end Go.Proofs.YtbmkbnalembbjaaDoor
