/-
  package gap: First, Best, Gaps; the laws' closed fact 'holes'.
-/
import Derived.Test.YtdlmnnibgpfdbaaGapFits
import Derived.Test.YtdlmnnibgpfdbaaGaps
namespace Go.Proofs.Ytdlmnnibgpfdbaa
open Go.RowKit

def firstV (l : List Rn) (n : Int) : Int := (fitsL l n).headD 0
def lenAt (l : List Rn) (i : Int) : Int := match l[i.toNat]? with | some r => r.len | none => 0
def bestGo (l : List Rn) (b : Int) : List Int → Int
  | [] => b
  | i :: t => bestGo l (if lenAt l i < lenAt l b then i else b) t
def bestV (l : List Rn) (n : Int) : Int := bestGo l (firstV l n) (fitsL l n)

theorem fitsL_mem {l : List Rn} {n x : Int} (h : x ∈ fitsL l n) : ∃ (j : Nat) (r : Rn), l[j]? = some r ∧ n ≤ r.len ∧ x = (j : Int) := by
  unfold fitsL at h
  split at h
  · obtain ⟨j, r, h1, h2, h3⟩ := fitIx_mem.1 h
    exact ⟨j, r, h1, h2, by simpa using h3⟩
  · cases h
theorem fitsL_bad {l : List Rn} {n : Int} (h : fitsE l n ≠ 0) : fitsL l n = [] := by unfold fitsL; rw [if_neg h]
theorem fitsL_ok {l : List Rn} {n : Int} (h : fitsE l n = 0) : fitsL l n = fitIx n 0 l ∧ fitIx n 0 l ≠ [] := by
  refine ⟨by unfold fitsL; rw [if_pos h], (fitsE_ok.1 h).2.2⟩

set_option maxHeartbeats 400000 in
theorem first_any (A : Option Addr) (m c : Nat) (l : List Rn) (n : Int) (w : World) (hr : Reads w w.heap.size 2 A m (runsC l)) (hm : m * 16 ≤ 140737488351232) :
    Calls Try.prog 21 #[.slice A m c, .int .i64 n] w fun e w' => e = .returned (.tuple #[.int .i64 (firstV l n), .int .i64 (fitsE l n)]) ∧ Below w.heap.size w w' := by
  have H := Lib.hid (fun w hr => fits_any A m c l n w hr hm)
  by_cases hE : fitsE l n = 0
  · obtain ⟨h1, h2⟩ := fitsL_ok hE
    rw [hE] at H ⊢
    unfold firstV
    generalize fitsL l n = L at *
    subst h1
    obtain ⟨x, t, hx⟩ := List.exists_cons_of_ne_nil h2
    rw [hx] at H ⊢
    clear hE h2 hx
    go_enter Try.func21, Try.ntmps21
    go_wp2_with fail
    refine (H.out _ hr).mono ?_
    rintro e w1 ⟨hb1, A', c', rfl, hown⟩
    obtain ⟨ad, x', rfl, -, hx', hc⟩ := (Reads.of_own hown).num (k := 0) (by simp)
    obtain rfl : x = x' := by simpa using hx'
    have hk0 : 0 < (x :: t).length := by simp
    generalize (x :: t).length = k at *
    have hc0 : w1.cell? ad = some (.int .i64 x) := by simpa [Addr.add] using hc
    clear hown hx'
    go_wp2
    go_ret2
    exact ⟨rfl, hb1⟩
  · have hl := fitsL_bad hE
    have hf : firstV l n = 0 := by unfold firstV; rw [hl]; rfl
    rw [hf]
    clear hf
    rw [hl] at H
    generalize fitsE l n = E at *
    have hE1 : (E != 0) = true := by simpa using hE
    clear hE hl
    go_enter Try.func21, Try.ntmps21
    go_wp2_with fail
    refine (H.out _ hr).mono ?_
    rintro e w1 ⟨hb1, A', c', rfl, -⟩
    go_wp2
    go_ret2
    exact ⟨rfl, hb1⟩

set_option maxRecDepth 100000 in
set_option maxHeartbeats 1000000 in
theorem best_any (A : Option Addr) (m c : Nat) (l : List Rn) (n : Int) (w : World) (hr : Reads w w.heap.size 2 A m (runsC l)) (hm : m * 16 ≤ 140737488351232) :
    Calls Try.prog 22 #[.slice A m c, .int .i64 n] w fun e w' => e = .returned (.tuple #[.int .i64 (bestV l n), .int .i64 (fitsE l n)]) ∧ Below w.heap.size w w' := by
  have H := Lib.hid (fun w hr => fits_any A m c l n w hr hm)
  have hll : l.length = m := by have := hr.1; rw [runsC_length] at this; omega
  by_cases hE : fitsE l n = 0
  · obtain ⟨h1, h2⟩ := fitsL_ok hE
    have hmem : ∀ x ∈ fitsL l n, ∃ j : Nat, j < m ∧ x = (j : Int) := fun x hx => by
      obtain ⟨j, r, h3, -, h4⟩ := fitsL_mem hx
      exact ⟨j, by have := (List.getElem?_eq_some_iff.1 h3).1; omega, h4⟩
    have hlen : (fitsL l n).length ≤ m := by rw [h1]; have := fitIx_length n l 0; omega
    rw [hE] at H ⊢
    unfold bestV firstV
    generalize fitsL l n = L at *
    rw [← h1] at h2
    clear h1 hE
    obtain ⟨x, t, hx⟩ := List.exists_cons_of_ne_nil h2
    have hh : L.headD 0 = x := by rw [hx]; rfl
    obtain ⟨b0, hb0, rfl⟩ := hmem x (by rw [hx]; exact List.mem_cons_self)
    rw [hh]
    have hk0 : 0 < L.length := by rw [hx]; simp
    have HX0 : Hid (L[0]? = some (b0 : Int)) := by show _ = _; rw [hx]; rfl
    obtain ⟨k, hk⟩ : ∃ k, k = L.length := ⟨_, rfl⟩
    rw [← hk] at H hk0 hlen
    have HK := Lib.hid hk
    have HM := Lib.hid hmem
    have HLL := Lib.hid hll
    clear h2 hx hh hk hmem hll
    go_enter Try.func22, Try.ntmps22
    go_wp2_with fail
    refine (H.out _ hr).mono ?_
    rintro e w1 ⟨hb1, A', c', rfl, hown⟩
    have hrL := Reads.of_own hown
    obtain ⟨adL, x', rfl, hadL, hx', hc⟩ := hrL.num (k := 0) hk0
    obtain rfl : (b0 : Int) = x' := Option.some.inj (HX0.out.symm.trans hx')
    have hr1 := (hr.below hb1).more hb1.size
    have hc0 : w1.cell? adL = some (.int .i64 b0) := by simpa [Addr.add] using hc
    clear hown hx'
    go_wp2
    go_loopw [8, 25] (fun b i wr => ∃ j p : Nat, j ≤ k ∧ i = .int .i64 j ∧ b = .int .i64 p ∧ p < m ∧ Hid (bestGo l b0 L = bestGo l p (L.drop j)) ∧ Below w1.heap.size w1 wr) (fun _ i _ => k - (intOf i).toNat)
    case atStart => exact ⟨0, b0, Nat.zero_le _, rfl, rfl, hb0, rfl, Below.refl _ _⟩
    case round =>
      obtain ⟨j, p, hj, rfl, rfl, hp, hB, hb⟩ := hrel
      by_cases hlt : j < k
      · obtain ⟨ad1, y, e1, had1, hy, cy⟩ := (hrL.below hb).num hlt
        obtain rfl : adL = ad1 := by injection e1
        have HY := Lib.hid (drop_of_get hy)
        obtain ⟨q, hq, rfl⟩ := HM.out y (List.mem_of_getElem? hy)
        obtain ⟨ad2, r1, rfl, had2, hs1, p0, p1⟩ := (hr1.below hb).run hq
        obtain ⟨ad3, r2, e3, had3, hs2, q0, q1⟩ := (hr1.below hb).run hp
        obtain rfl : ad2 = ad3 := by injection e3
        have L1 : Hid (lenAt l q = r1.len) := by show _ = _; unfold lenAt; rw [Int.toNat_natCast, hs1]
        have L2 : Hid (lenAt l p = r2.len) := by show _ = _; unfold lenAt; rw [Int.toNat_natCast, hs2]
        have HB2 : Hid (bestGo l b0 L = bestGo l (if r1.len < r2.len then (q : Int) else p) (L.drop (j + 1))) := by
          show _ = _
          rw [hB.out, HY.out]
          simp only [bestGo]
          rw [L1.out, L2.out]
        obtain ⟨l1, n1⟩ := r1
        obtain ⟨l2, n2⟩ := r2
        dsimp only at *
        have hsz := hb.size
        clear hs1 hs2 e1 e3 hy L1 L2 hB p0 q0
        by_cases hless : n1 < n2
        · rw [if_pos hless] at HB2
          go_wp2
          go_quiet (fail)
          go_wp2
          go_roundw
          case rel => exact ⟨j + 1, q, by omega, by go_num, rfl, hq, HB2, below_drewN hb _⟩
          case measure => simp [intOf]; omega
        · rw [if_neg hless] at HB2
          go_wp2
          go_quiet (fail)
          go_wp2
          go_roundw
          case rel => exact ⟨j + 1, p, by omega, by go_num, rfl, hp, HB2, below_drewN hb _⟩
          case measure => simp [intOf]; omega
      · have hj' : j = k := by omega
        subst hj'
        rw [List.drop_of_length_le (by rw [← HK.out]; exact Nat.le_refl _)] at hB
        have hB : Hid (bestGo l b0 L = p) := hB
        go_wp2
        go_ret2
        rw [hB.out]
        exact ⟨rfl, below_step hb1 hb⟩
  · have hl := fitsL_bad hE
    have hf : bestV l n = 0 := by unfold bestV firstV; rw [hl]; rfl
    rw [hf]
    clear hf
    rw [hl] at H
    generalize fitsE l n = E at *
    have hE1 : (E != 0) = true := by simpa using hE
    clear hE hl hll
    go_enter Try.func22, Try.ntmps22
    go_wp2_with fail
    refine (H.out _ hr).mono ?_
    rintro e w1 ⟨hb1, A', c', rfl, -⟩
    go_wp2
    go_ret2
    exact ⟨rfl, hb1⟩

/-- gap.Gaps: its list. -/
def ggL (a : List Int) : List Rn := if checkE a = 0 then gapsL (spotsL a) else []

theorem gspots_small (a : List Int) : (gspotsL a).length ≤ 256 ∧ (∀ s ∈ gspotsL a, headE s.r s.b s.t s.f = 0) ∧ (checkE a ≠ 0 → gspotsL a = []) ∧ gapsL (gspotsL a) = ggL a := by
  unfold gspotsL ggL
  by_cases h : checkE a = 0
  · rw [if_pos h, if_pos h]
    refine ⟨spotsL_length a, fun s hs => ((parse_mem (parse_ok (checkE_ok.1 h).1).2) s hs).1.head, fun h2 => absurd h h2, rfl⟩
  · rw [if_neg h, if_neg h]
    exact ⟨by simp, by simp, fun _ => rfl, rfl⟩

set_option maxHeartbeats 400000 in
theorem ggapsE_any (A : Option Addr) (n c : Nat) (a : List Int) (w : World) (hr : Reads w w.heap.size 1 A n (a.map (.int .u64))) (hnc : n ≤ c) (ha : ∀ x ∈ a, (Lit.int .u64 x).wf = true) :
    Calls Try.prog 26 #[.slice A n c] w fun e w' => Below w.heap.size w w' ∧ ∃ A' c', e = .returned (.tuple #[.slice A' (ggL a).length c', .int .i64 (checkE a)]) ∧ w'.ownsRow w.heap.size 56 2 (.slice A' (ggL a).length c') (ggL a).length (runsC (ggL a)) := by
  have H1 := Lib.hid (fun w hr => gspots_any A n c a w hr hnc ha)
  obtain ⟨s1, s2, s3, s4⟩ := gspots_small a
  have H2 := Lib.hid (fun A' c' w hr => ggaps_any A' (gspotsL a).length c' (gspotsL a) w hr s1 s2)
  rw [s4] at H2
  have hg : checkE a ≠ 0 → ggL a = [] := fun h => by unfold ggL; rw [if_neg h]
  generalize checkE a = E at *
  generalize gspotsL a = L at *
  generalize ggL a = G at *
  clear s1 s2 s4
  by_cases hE : E = 0
  · subst hE
    clear hg s3
    go_enter Try.func26, Try.ntmps26
    go_wp2_with fail
    refine (H1.out _ hr).mono ?_
    rintro e w1 ⟨hb1, A', c', rfl, hown⟩
    have hrl := Reads.of_own hown
    clear hown
    go_wp2_with fail
    refine (H2.out _ _ _ hrl).mono ?_
    rintro e w2 ⟨hb2, A2, c2, rfl, hown2⟩
    go_wp2
    go_ret2
    exact ⟨below_step hb1 hb2, A2, c2, rfl, own_mono hown2 hb1.size⟩
  · have hE1 : (E != 0) = true := by simpa using hE
    obtain rfl := hg hE
    clear hg hE s3
    go_enter Try.func26, Try.ntmps26
    go_wp2_with fail
    refine (H1.out _ hr).mono ?_
    rintro e w1 ⟨hb1, A', c', rfl, hown⟩
    clear hown
    go_wp2
    go_ret2
    exact ⟨hb1, none, 0, rfl, World.ownsRow_nil _ _ _ _⟩

theorem holes_facts : fitsE [⟨0, 1⟩, ⟨2, 3⟩] 2 = 0 ∧ firstV [⟨0, 1⟩, ⟨2, 3⟩] 2 = 1 := by decide
theorem holes_facts2 : checkE [281474976710656] = 0 ∧ (ggL [281474976710656]).length = 1 := by decide

set_option maxHeartbeats 400000 in
theorem holes_true (w : World) : Calls Try.prog 20 #[] w fun e w' => e = .returned (.bool true) ∧ Below w.heap.size w w' := by
  have H1 := Lib.hid (fun A w hr => first_any A 2 2 [⟨0, 1⟩, ⟨2, 3⟩] 2 w hr (by decide))
  have H2 := Lib.hid (fun A w hr => ggapsE_any A 1 1 [281474976710656] w hr (by decide) (by decide))
  rw [holes_facts.1, holes_facts.2] at H1
  rw [holes_facts2.1] at H2
  have HG := Lib.hid holes_facts2.2
  generalize ggL [281474976710656] = G at *
  have hn1 := reads_new w (runsC [⟨0, 1⟩, ⟨2, 3⟩]) 56 2 2 rfl
  go_enter Try.func20, Try.ntmps20
  go_wp2_with fail
  refine (H1.out _ _ (by simpa [runsC, runC] using hn1)).mono ?_
  rintro e w1 ⟨rfl, hb1⟩
  have hb01 := below_step (below_new _ _) hb1
  have hn2 := reads_new w1 [.int .u64 281474976710656] 29 1 1 rfl
  clear hn1
  go_wp2_with fail
  refine (H2.out _ _ (by simpa using hn2)).mono ?_
  rw [HG.out]
  rintro e w2 ⟨hb2, A', c', rfl, -⟩
  go_wp2
  go_ret
  exact ⟨rfl, below_step hb01 (below_step (below_new _ _) hb2)⟩
end Go.Proofs.Ytdlmnnibgpfdbaa
