/-
  package twin: gaps$1, gaps, Gaps.
-/
import Derived.Test.YtdlmnnibgpfdbabTwinCheck
import Derived.Test.YtdlmnnibgpfdbabSlicesRoom
import Derived.Test.YtdlmnnibgpfdbabConcatRun
namespace Go.Proofs.Ytdlmnnibgpfdbab
open Go.RowKit

set_option maxHeartbeats 400000 in
theorem meets_any (a L : Nat) (r : Rm) (g1 g2 : Nat) (w : World) (ha : a ≤ 1000) (hL : L ≤ 1000) (h0 : 0 ≤ r.loc) (h1 : 0 ≤ r.len) (h2 : r.loc + r.len ≤ 1000)
    (b1 : g1 < w.heap.size) (b2 : g2 < w.heap.size) (c1 : w.cell? ⟨g1, 0, none⟩ = some (.int .i64 a)) (c2 : w.cell? ⟨g2, 0, none⟩ = some (.int .i64 L)) :
    Calls Try.prog 50 #[.agg #[.int .i64 r.loc, .int .i64 r.len, .int .i64 r.used], .pointer (some ⟨g1, 0, none⟩), .pointer (some ⟨g2, 0, none⟩)] w fun e w' => e = .returned (.bool (meetsB a L r)) ∧ Below w.heap.size w w' := by
  obtain ⟨x, y, z⟩ := r
  dsimp only at *
  have hb := below_new w (.cells #[.int .i64 x, .int .i64 y, .int .i64 z] 33)
  have d1 : ∀ o, (w.alloc o).cell? ⟨g1, 0, none⟩ = some (.int .i64 a) := fun o => by rw [World.cell?_alloc_lt _ _ _ (by exact b1)]; exact c1
  have d2 : ∀ o, (w.alloc o).cell? ⟨g2, 0, none⟩ = some (.int .i64 L) := fun o => by rw [World.cell?_alloc_lt _ _ _ (by exact b2)]; exact c2
  obtain ⟨X, rfl⟩ : ∃ X : Nat, x = X := ⟨x.toNat, by omega⟩
  obtain ⟨Y, rfl⟩ : ∃ Y : Nat, y = Y := ⟨y.toNat, by omega⟩
  obtain ⟨S, hS⟩ : ∃ S, S = a + L := ⟨_, rfl⟩
  obtain ⟨T, hT⟩ : ∃ T, T = X + Y := ⟨_, rfl⟩
  have w1 : IntKind.i64.wrap ((a : Int) + L) = S := by rw [IntWalk.i64_in _ (by omega)]; omega
  have w2 : IntKind.i64.wrap ((X : Int) + Y) = T := by rw [IntWalk.i64_in _ (by omega)]; omega
  have hm : meetsB a L ⟨X, Y, z⟩ = (decide (X < S) && decide (a < T)) := by
    unfold meetsB
    dsimp only
    congr 1 <;> exact decide_eq_decide.2 (by omega)
  rw [hm]
  clear hm hS hT c1 c2 h0 h1 h2
  by_cases h1 : X < S
  · rw [decide_eq_true h1, Bool.true_and]
    have e1 : decide (X < S) = true := decide_eq_true h1
    go_enter Try.func50, Try.ntmps50
    go_wp2
    go_ret
    exact ⟨rfl, hb⟩
  · rw [decide_eq_false h1, Bool.false_and]
    have e1 : decide (X < S) = false := decide_eq_false h1
    go_enter Try.func50, Try.ntmps50
    go_wp2
    go_ret
    exact ⟨rfl, hb⟩

/-- The rooms that are handed in lie within bounds. -/
def Rooms (l : List Rm) : Prop := ∀ r ∈ l, 0 ≤ r.loc ∧ 0 ≤ r.len ∧ r.loc + r.len ≤ 1000

set_option maxRecDepth 100000 in
set_option maxHeartbeats 1000000 in
/-- The stretch that nothing meets; and the shortest one that something meets. -/
theorem tgaps_flat (l : List Rm) (hl : Rooms l) (M a : Nat) (A : Option Addr) (n c : Nat) (w : World) (hr : Reads w w.heap.size 3 A n (roomsC l)) (hn : n ≤ 1000) (hM : 1 ≤ M) (hM2 : M ≤ 256) (ha : a ≤ 512) (h : l.any (meetsB a M) = false ∨ M = 1) :
    Calls Try.prog 29 #[.slice A n c, .int .i64 a, .int .i64 M] w fun e w' => ∃ A' q c', e = .returned (.slice A' q c') ∧ w'.ownsRow w.heap.size 35 2 (.slice A' q c') q (runsC (if l.any (meetsB a M) = true then [] else [⟨a, (M : Int)⟩])) ∧ Below w.heap.size w w' := by
  have hb0 := (below_new w (.cells #[.int .i64 a] 3)).alloc (by simp) (.cells #[.int .i64 M] 3)
  have B1 := (Blk.new w 3 #[.int .i64 a]).alloc (.cells #[.int .i64 M] 3)
  have B2 := Blk.new (w.alloc (.cells #[.int .i64 a] 3)) 3 #[.int .i64 M]
  have hsz : (w.alloc (.cells #[.int .i64 a] 3)).heap.size = w.heap.size + 1 := by simp
  rw [hsz] at B2
  have HC := containsRoom2_any 50 (.pointer (some ⟨w.heap.size, 0, none⟩)) (.pointer (some ⟨w.heap.size + 1, 0, none⟩)) A n c _ l (meetsB a M) _ (hr.below hb0) hb0.size (by omega) (plain_of (fn := Try.f50) Try.func50 (by kernel_rfl) (by kernel_rfl)) (fun w' s hb' hs' => by
    obtain ⟨h0, h1, h2⟩ := hl s hs'
    exact meets_any a M s _ _ w' (by omega) (by omega) h0 h1 h2 (by have := hb'.size; have := B1.lt; omega) (by have := hb'.size; have := B2.lt; omega) ((B1.below hb' B1.lt).cell 0) ((B2.below hb' B2.lt).cell 0))
  cases hm : l.any (meetsB a M)
  · rw [hm] at HC
    have HC := Lib.hid HC
    rw [if_neg (by decide)]
    clear h hm hr
    go_enter Try.func29, Try.ntmps29
    go_wp2_with fail
    refine HC.out.mono ?_
    rintro e w1 ⟨rfl, hb1⟩
    have k0 := (B1.below hb1 B1.lt).cell 0
    have k1 := (B2.below hb1 B2.lt).cell 0
    simp only [List.getElem?_toArray, List.getElem?_cons_zero, List.getElem?_cons_succ] at k0 k1
    have hb01 := hb0.trans (hb1.mono hb0.size)
    have hmade := own_close (w := w1.alloc (.cells #[.int .i64 a, .int .i64 M] 35)) (base := w1.heap.size) (e := 35) (size := 2) (n := 1) (c := 1) (g := w1.heap.size) [.int .i64 a, .int .i64 M] (Nat.le_refl _) (heap_alloc_new w1 _) (by decide) (by decide) rfl
    have HM := Lib.hid (own_mono hmade hb01.size)
    clear hmade
    go_wp2
    go_ret
    exact ⟨_, _, _, rfl, HM.out, hb01.alloc hb01.size _⟩
  · have hM1 : M = 1 := by
      rcases h with h | h
      · rw [hm] at h; cases h
      · exact h
    subst hM1
    rw [hm] at HC
    have HC := Lib.hid HC
    rw [if_pos rfl]
    clear h hm hr
    go_enter Try.func29, Try.ntmps29
    go_wp2_with fail
    refine HC.out.mono ?_
    rintro e w1 ⟨rfl, hb1⟩
    have k0 := (B1.below hb1 B1.lt).cell 0
    have k1 := (B2.below hb1 B2.lt).cell 0
    simp only [List.getElem?_toArray, List.getElem?_cons_zero, List.getElem?_cons_succ] at k0 k1
    have hb01 := hb0.trans (hb1.mono hb0.size)
    go_wp2
    go_ret
    exact ⟨none, 0, 0, rfl, World.ownsRow_nil _ _ _ _, hb01⟩

set_option maxRecDepth 100000 in
set_option maxHeartbeats 1000000 in
theorem tgaps_any (l : List Rm) (hl : Rooms l) : ∀ (k a : Nat) (A : Option Addr) (n c : Nat) (w : World), Reads w w.heap.size 3 A n (roomsC l) → n ≤ 1000 → k ≤ 8 → a ≤ 512 - 2 ^ k →
    Calls Try.prog 29 #[.slice A n c, .int .i64 a, .int .i64 ((2 ^ k : Nat) : Int)] w fun e w' => ∃ A' q c', e = .returned (.slice A' q c') ∧ w'.ownsRow w.heap.size 35 2 (.slice A' q c') q (runsC (tgapsL l k a)) ∧ Below w.heap.size w w' := by
  intro k
  induction k with
  | zero =>
    intro a A n c w hr hn hk ha
    exact tgaps_flat l hl 1 a A n c w hr hn (by decide) (by decide) (by omega) (.inr rfl)
  | succ k ih =>
    intro a A n c w hr hn hk ha
    obtain ⟨L, hL, hL1, hL2⟩ : ∃ L : Nat, L = 2 ^ k ∧ 1 ≤ L ∧ L ≤ 128 := ⟨2 ^ k, rfl, Nat.pos_of_ne_zero (by simp), Nat.pow_le_pow_right (by decide) (by omega : k ≤ 7)⟩
    have hL3 : 2 ^ (k + 1) = L + L := by omega
    obtain ⟨M, hM⟩ : ∃ M, M = L + L := ⟨_, rfl⟩
    have hga : tgapsL l (k + 1) a = if l.any (meetsB a M) = true then tgapsL l k a ++ tgapsL l k (a + L) else [⟨a, (M : Int)⟩] := by rw [hM, ← hL3, hL]; rfl
    rw [hL3, ← hM] at ha ⊢
    rw [hga]
    clear hL3 hga
    cases hm : l.any (meetsB a M)
    · have := tgaps_flat l hl M a A n c w hr hn (by omega) (by omega) (by omega) (.inl hm)
      rw [hm] at this
      exact this
    rw [if_pos rfl]
    have hb0 := (below_new w (.cells #[.int .i64 a] 3)).alloc (by simp) (.cells #[.int .i64 M] 3)
    have B1 := (Blk.new w 3 #[.int .i64 a]).alloc (.cells #[.int .i64 M] 3)
    have B2 := Blk.new (w.alloc (.cells #[.int .i64 a] 3)) 3 #[.int .i64 M]
    have hsz : (w.alloc (.cells #[.int .i64 a] 3)).heap.size = w.heap.size + 1 := by simp
    rw [hsz] at B2
    have HC := containsRoom2_any 50 (.pointer (some ⟨w.heap.size, 0, none⟩)) (.pointer (some ⟨w.heap.size + 1, 0, none⟩)) A n c _ l (meetsB a M) _ (hr.below hb0) hb0.size (by omega) (plain_of (fn := Try.f50) Try.func50 (by kernel_rfl) (by kernel_rfl)) (fun w' s hb' hs' => by
      obtain ⟨h0, h1, h2⟩ := hl s hs'
      exact meets_any a M s _ _ w' (by omega) (by omega) h0 h1 h2 (by have := hb'.size; have := B1.lt; omega) (by have := hb'.size; have := B2.lt; omega) ((B1.below hb' B1.lt).cell 0) ((B2.below hb' B2.lt).cell 0))
    rw [hm] at HC
    have HC := Lib.hid HC
    rw [hL.symm] at ih
    obtain ⟨a2, ha2⟩ : ∃ a2, a2 = a + L := ⟨_, rfl⟩
    rw [← ha2]
    have wa : IntKind.i64.wrap ((a : Int) + L) = a2 := by rw [IntWalk.i64_in _ (by omega)]; omega
    have wd : (M : Int) / 2 = L := by omega
    have wL : IntKind.i64.wrap (L : Int) = L := IntWalk.i64_in _ (by omega)
    have H1 := Lib.hid (fun w (hr : Reads w w.heap.size 3 A n (roomsC l)) => ih a A n c w hr hn (by omega) (by omega))
    have H2 := Lib.hid (fun w (hr : Reads w w.heap.size 3 A n (roomsC l)) => ih a2 A n c w hr hn (by omega) (by omega))
    have hq1 := tgapsL_length l k a
    have hq2 := tgapsL_length l k a2
    have o1 := runsC_one (tgapsL l k a)
    have o2 := runsC_one (tgapsL l k a2)
    have ho : runsC (tgapsL l k a ++ tgapsL l k a2) = runsC (tgapsL l k a) ++ runsC (tgapsL l k a2) := by simp [runsC]
    have l1 := runsC_length (tgapsL l k a)
    have l2 := runsC_length (tgapsL l k a2)
    rw [ho]
    rw [hL.symm] at hq1 hq2
    generalize runsC (tgapsL l k a) = X1 at *
    generalize runsC (tgapsL l k a2) = X2 at *
    have M1 : decide ((M : Int) = 1) = false := decide_eq_false (by omega)
    have M2 : decide (M = 1) = false := decide_eq_false (by omega)
    have M3 : ((M : Int) == 1) = false := by simp; omega
    have hLq : L ≤ 128 := hL2
    generalize (tgapsL l k a).length = y1 at *
    generalize (tgapsL l k a2).length = y2 at *
    clear ih hm hM ha ha2 hL ho
    go_enter Try.func29, Try.ntmps29
    go_wp2_with fail
    refine HC.out.mono ?_
    rintro e w1 ⟨rfl, hb1⟩
    have D1 := B1.below hb1 B1.lt
    have D2 := B2.below hb1 B2.lt
    have k0 := D1.cell 0
    have k1 := D2.cell 0
    simp only [List.getElem?_toArray, List.getElem?_cons_zero, List.getElem?_cons_succ] at k0 k1
    have hb01 := hb0.trans (hb1.mono hb0.size)
    have hbz := hb01.drew
    have D1 := D1.drew
    have D2 := D2.drew
    clear hb0 hb1 B1 B2
    go_wp2
    go_region_held3 (fun w' => w'.cell? ⟨w.heap.size, 0, none⟩ = some (.int .i64 a) ∧ w'.cell? ⟨w.heap.size + 1, 0, none⟩ = some (.int .i64 M)) (go_keep)
      (first
        | (go_at_call 29; with_reducible refine (H1.out _ ((hr.below hbz).more hbz.size)).mono ?_; rintro e wA ⟨A1, q1, c1, rfl, hownA, hbA⟩; have D1 := D1.below hbA D1.lt; have D2 := D2.below hbA D2.lt; have k0 := D1.cell 0; have k1 := D2.cell 0; simp only [List.getElem?_toArray, List.getElem?_cons_zero, List.getElem?_cons_succ] at k0 k1; (try have hownB := own_below hownB hbA); have hgA := hbz.size; have hownA := own_mono hownA hgA; have hbz := hbz.trans (hbA.mono hbz.size))
        | (go_at_call 29; with_reducible refine (H2.out _ ((hr.below hbz).more hbz.size)).mono ?_; rintro e wB ⟨A2, q2, c2, rfl, hownB, hbB⟩; have D1 := D1.below hbB D1.lt; have D2 := D2.below hbB D2.lt; have k0 := D1.cell 0; have k1 := D2.cell 0; simp only [List.getElem?_toArray, List.getElem?_cons_zero, List.getElem?_cons_succ] at k0 k1; (try have hownA := own_below hownA hbB); have hgB := hbz.size; have hownB := own_mono hownB hgB; have hbz := hbz.trans (hbB.mono hbz.size))
        | (go_at_call 51; refine (concat2_run A1 q1 c1 X1 A2 q2 c2 X2 _ 2 _ ((reads_new _ [.slice A1 q1 c1, .slice A2 q2 c2] 26 2 1 rfl).more (by simp)) (Reads.of_own (hownA.alloc _)) (Reads.of_own (hownB.alloc _)) o1 o2 (by have := hownA.1; omega) (by have := hownB.1; omega)).mono ?_; rintro e wC ⟨A3, c3, rfl, hownC, hbC⟩; have D1 := (D1.alloc _).below hbC (D1.alloc _).lt; have D2 := (D2.alloc _).below hbC (D2.alloc _).lt; have k0 := D1.cell 0; have k1 := D2.cell 0; simp only [List.getElem?_toArray, List.getElem?_cons_zero, List.getElem?_cons_succ] at k0 k1; have hg3 := (hbz.alloc hbz.size (.cells #[.slice A1 q1 c1, .slice A2 q2 c2] 26)).size; have hownC := own_mono hownC hg3; have hbz := (hbz.alloc hbz.size (.cells #[.slice A1 q1 c1, .slice A2 q2 c2] 26)).trans (hbC.mono hg3)))
    all_goals
      go_wp2
      go_ret
      exact ⟨_, _, _, rfl, hownC, hbz⟩
end Go.Proofs.Ytdlmnnibgpfdbab
