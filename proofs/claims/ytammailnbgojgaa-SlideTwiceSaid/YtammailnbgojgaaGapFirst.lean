/-
  package gap: First, Best, Gaps; the laws' closed fact 'holes'.
-/
import Derived.Test.YtammailnbgojgaaGapFits
import Derived.Test.YtammailnbgojgaaGaps
namespace Go.Proofs.Ytammailnbgojgaa
open Go.RowKit

def firstV (l : List Rn) (n : Int) : Int := (fitsL l n).headD 0
def lenAt (l : List Rn) (i : Int) : Int := match l[i.toNat]? with | some r => r.len | none => 0
def bestGo (l : List Rn) (b : Int) : List Int → Int
  | [] => b
  | i :: t => bestGo l (if lenAt l i < lenAt l b then i else b) t
def bestV (l : List Rn) (n : Int) : Int := bestGo l (firstV l n) (fitsL l n)

theorem fitsL_mem {l : List Rn} {n x : Int} (h : x ∈ fitsL l n) : ∃ (j : Nat) (r : Rn), l[j]? = some r ∧ n ≤ r.len ∧ x = (j : Int) := by
  unfold fitsL at h
  split at h
  · obtain ⟨j, r, h1, h2, h3⟩ := fitIx_mem.1 h
    exact ⟨j, r, h1, h2, by simpa using h3⟩
  · cases h
theorem fitsL_bad {l : List Rn} {n : Int} (h : fitsE l n ≠ 0) : fitsL l n = [] := by unfold fitsL; rw [if_neg h]
theorem fitsL_ok {l : List Rn} {n : Int} (h : fitsE l n = 0) : fitsL l n = fitIx n 0 l ∧ fitIx n 0 l ≠ [] := by
  refine ⟨by unfold fitsL; rw [if_pos h], (fitsE_ok.1 h).2.2⟩

/-- gap.Gaps: its list. -/
def ggL (a : List Int) : List Rn := if checkE a = 0 then gapsL (spotsL a) else []

theorem gspots_small (a : List Int) : (gspotsL a).length ≤ 256 ∧ (∀ s ∈ gspotsL a, headE s.r s.b s.t s.f = 0) ∧ (checkE a ≠ 0 → gspotsL a = []) ∧ gapsL (gspotsL a) = ggL a := by
  unfold gspotsL ggL
  by_cases h : checkE a = 0
  · rw [if_pos h, if_pos h]
    refine ⟨spotsL_length a, fun s hs => ((parse_mem (parse_ok (checkE_ok.1 h).1).2) s hs).1.head, fun h2 => absurd h h2, rfl⟩
  · rw [if_neg h, if_neg h]
    exact ⟨by simp, by simp, fun _ => rfl, rfl⟩

set_option maxHeartbeats 400000 in
theorem ggapsE_any (A : Option Addr) (n c : Nat) (a : List Int) (w : World) (hr : Reads w w.heap.size 1 A n (a.map (.int .u64))) (hnc : n ≤ c) (ha : ∀ x ∈ a, (Lit.int .u64 x).wf = true) :
    Calls Try.prog 14 #[.slice A n c] w fun e w' => Below w.heap.size w w' ∧ ∃ A' c', e = .returned (.tuple #[.slice A' (ggL a).length c', .int .i64 (checkE a)]) ∧ w'.ownsRow w.heap.size 38 2 (.slice A' (ggL a).length c') (ggL a).length (runsC (ggL a)) := by
  have H1 := Lib.hid (fun w hr => gspots_any A n c a w hr hnc ha)
  obtain ⟨s1, s2, s3, s4⟩ := gspots_small a
  have H2 := Lib.hid (fun A' c' w hr => ggaps_any A' (gspotsL a).length c' (gspotsL a) w hr s1 s2)
  rw [s4] at H2
  have hg : checkE a ≠ 0 → ggL a = [] := fun h => by unfold ggL; rw [if_neg h]
  generalize checkE a = E at *
  generalize gspotsL a = L at *
  generalize ggL a = G at *
  clear s1 s2 s4
  by_cases hE : E = 0
  · subst hE
    clear hg s3
    go_enter Try.func14, Try.ntmps14
    go_wp2_with fail
    refine (H1.out _ hr).mono ?_
    rintro e w1 ⟨hb1, A', c', rfl, hown⟩
    have hrl := Reads.of_own hown
    clear hown
    go_wp2_with fail
    refine (H2.out _ _ _ hrl).mono ?_
    rintro e w2 ⟨hb2, A2, c2, rfl, hown2⟩
    go_wp2
    go_ret2
    exact ⟨below_step hb1 hb2, A2, c2, rfl, own_mono hown2 hb1.size⟩
  · have hE1 : (E != 0) = true := by simpa using hE
    obtain rfl := hg hE
    clear hg hE s3
    go_enter Try.func14, Try.ntmps14
    go_wp2_with fail
    refine (H1.out _ hr).mono ?_
    rintro e w1 ⟨hb1, A', c', rfl, hown⟩
    clear hown
    go_wp2
    go_ret2
    exact ⟨hb1, none, 0, rfl, World.ownsRow_nil _ _ _ _⟩

theorem holes_facts : fitsE [⟨0, 1⟩, ⟨2, 3⟩] 2 = 0 ∧ firstV [⟨0, 1⟩, ⟨2, 3⟩] 2 = 1 := by decide
theorem holes_facts2 : checkE [281474976710656] = 0 ∧ (ggL [281474976710656]).length = 1 := by decide

end Go.Proofs.Ytammailnbgojgaa
