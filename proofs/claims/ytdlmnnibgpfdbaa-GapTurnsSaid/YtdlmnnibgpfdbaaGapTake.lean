/-
  package gap: find, Take, Give.
-/
import Derived.Test.YtdlmnnibgpfdbaaGapJoin
import Derived.Test.YtdlmnnibgpfdbaaTurnsLaw
import Derived.Test.YtdlmnnibgpfdbaaIndexSpot2
import Derived.Test.YtdlmnnibgpfdbaaContains
namespace Go.Proofs.Ytdlmnnibgpfdbaa
open Go.RowKit

def pF (x : Int) (fr : Bool) (s : Spot) : Bool := (s.loc == x) && (s.f == fr)

set_option maxHeartbeats 400000 in
theorem findC_any (g1 g2 : Nat) (x : Int) (fr : Bool) (s : Spot) (w : World) (hg1 : g1 < w.heap.size) (hg2 : g2 < w.heap.size) (hc1 : w.cell? ⟨g1, 0, none⟩ = some (.int .i64 x)) (hc2 : w.cell? ⟨g2, 0, none⟩ = some (.bool fr)) :
    Calls Try.prog 79 #[.agg #[.int .i64 s.loc, .int .i64 s.r, .int .i64 s.b, .int .i64 s.t, .bool s.f], .pointer (some ⟨g1, 0, none⟩), .pointer (some ⟨g2, 0, none⟩)] w fun e w' => e = .returned (.bool (pF x fr s)) ∧ Below w.heap.size w w' := by
  obtain ⟨loc, r, b, t, f⟩ := s
  have hc1' : ∀ o, (w.alloc o).cell? ⟨g1, 0, none⟩ = some (.int .i64 x) := fun o => by rw [World.cell?_alloc_lt _ _ _ (by exact hg1)]; exact hc1
  have hc2' : ∀ o, (w.alloc o).cell? ⟨g2, 0, none⟩ = some (.bool fr) := fun o => by rw [World.cell?_alloc_lt _ _ _ (by exact hg2)]; exact hc2
  unfold pF
  dsimp only
  by_cases h : loc = x
  · subst h
    go_enter Try.func79, Try.ntmps79
    go_wp2
    go_ret
    exact ⟨by simp, below_new _ _⟩
  · have h1 : (loc == x) = false := by simpa using h
    rw [h1, Bool.false_and]
    go_enter Try.func79, Try.ntmps79
    go_wp2
    go_ret
    exact ⟨rfl, below_new _ _⟩

set_option maxRecDepth 100000 in
set_option maxHeartbeats 1000000 in
theorem gfind_none (A : Option Addr) (n c : Nat) (l : List Spot) (x : Int) (fr : Bool) (w : World) (hr : Reads w w.heap.size 5 A n (spotsC l)) (hn : n ≤ 256) (hix : ixOf (pF x fr) l < 0) :
    Calls Try.prog 64 #[.slice A n c, .int .i64 x, .bool fr] w fun e w' => e = .returned (.tuple #[.agg #[.int .i64 0, .int .i64 0, .int .i64 0, .int .i64 0, .bool false], .bool false]) ∧ Below w.heap.size w w' := by
  have HIX := Lib.hid (fun W hr hB HC => indexSpot2_any 79 (.pointer (some ⟨w.heap.size, 0, none⟩)) (.pointer (some ⟨w.heap.size + 1, 0, none⟩)) A n c w.heap.size l (pF x fr) W hr hB (by omega) (plain_of (fn := Try.f79) Try.func79 (by kernel_rfl) (by kernel_rfl)) HC)
  generalize hp : pF x fr = p at *
  have HP := Lib.hid hp
  generalize ixOf p l = z at *
  clear hp
  go_enter Try.func64, Try.ntmps64
  go_wp2_with fail
  have hb0 := (((below_new w (.cells #[.int .i64 x] 3)).alloc (by simp) (.cells #[.bool fr] 4))).alloc (by simp; omega) (.cells #[.int .i64 0, .int .i64 0, .int .i64 0, .int .i64 0, .bool false] 49)
  have B0 := ((Blk.new w 3 #[.int .i64 x]).alloc (.cells #[.bool fr] 4)).alloc (.cells #[.int .i64 0, .int .i64 0, .int .i64 0, .int .i64 0, .bool false] 49)
  have B1 := (Blk.new (w.alloc (.cells #[.int .i64 x] 3)) 4 #[.bool fr]).alloc (.cells #[.int .i64 0, .int .i64 0, .int .i64 0, .int .i64 0, .bool false] 49)
  have B2 := Blk.new ((w.alloc (.cells #[.int .i64 x] 3)).alloc (.cells #[.bool fr] 4)) 49 #[.int .i64 0, .int .i64 0, .int .i64 0, .int .i64 0, .bool false]
  simp only [World.size_alloc] at B1 B2
  refine (HIX.out _ (hr.below hb0) (by simp <;> omega) ?_).mono ?_
  · intro w' s hb' _
    have hsz := hb'.size
    simp only [World.size_alloc] at hsz
    have := findC_any w.heap.size (w.heap.size + 1) x fr s w' (by omega) (by omega) ((B0.below hb' (by simp; omega)).cell 0) ((B1.below hb' (by simp)).cell 0)
    rw [HP.out] at this
    exact this
  rintro e w1 ⟨rfl, hb1⟩
  have D2 := B2.below hb1 (by simp)
  have hb01 := below_step hb0 (hb1.mono (by simp <;> omega))
  have m0 := D2.cell 0
  have m1 := D2.cell 1
  have m2 := D2.cell 2
  have m3 := D2.cell 3
  have m4 := D2.cell 4
  have g0 := D2.frozen 0
  have g1 := D2.frozen 1
  have g2 := D2.frozen 2
  have g3 := D2.frozen 3
  have g4 := D2.frozen 4
  simp only [List.getElem?_toArray, List.getElem?_cons_zero, List.getElem?_cons_succ] at m0 m1 m2 m3 m4
  have HB := Lib.hid hb01
  clear hb0 hb1 hb01 B0 B1 B2 D2
  go_wp2
  refine bodyPost_ret (v := .tuple #[.agg #[.int .i64 0, .int .i64 0, .int .i64 0, .int .i64 0, .bool false], .bool false]) ?_ rfl ⟨rfl, ?_⟩
  · simp only [results, Try.results64]
    go_simp
  · iterate 5 refine Below.setCell ?_ (by dsimp only; omega) _
    exact HB.out

set_option maxRecDepth 100000 in
set_option maxHeartbeats 1000000 in
theorem gfind_ok (A : Option Addr) (n c : Nat) (l : List Spot) (x : Int) (fr : Bool) (i : Nat) (s : Spot) (w : World) (hr : Reads w w.heap.size 5 A n (spotsC l)) (hn : n ≤ 256) (hix : ixOf (pF x fr) l = i) (hs : l[i]? = some s) :
    Calls Try.prog 64 #[.slice A n c, .int .i64 x, .bool fr] w fun e w' => e = .returned (.tuple #[.agg #[.int .i64 s.loc, .int .i64 s.r, .int .i64 s.b, .int .i64 s.t, .bool s.f], .bool true]) ∧ Below w.heap.size w w' := by
  have HIX := fun W hr hB HC => indexSpot2_any 79 (.pointer (some ⟨w.heap.size, 0, none⟩)) (.pointer (some ⟨w.heap.size + 1, 0, none⟩)) A n c w.heap.size l (pF x fr) W hr hB (by omega) (plain_of (fn := Try.f79) Try.func79 (by kernel_rfl) (by kernel_rfl)) HC
  rw [hix] at HIX
  have HIX := Lib.hid HIX
  have hin : i < n := by
    have h1 := (List.getElem?_eq_some_iff.1 hs).1
    have h2 := hr.1
    rw [spotsC_length] at h2
    omega
  generalize hp : pF x fr = p at *
  have HP := Lib.hid hp
  have HS := Lib.hid hs
  clear hp hix hs
  go_enter Try.func64, Try.ntmps64
  go_wp2_with fail
  have hb0 := (((below_new w (.cells #[.int .i64 x] 3)).alloc (by simp) (.cells #[.bool fr] 4))).alloc (by simp; omega) (.cells #[.int .i64 0, .int .i64 0, .int .i64 0, .int .i64 0, .bool false] 49)
  have B0 := ((Blk.new w 3 #[.int .i64 x]).alloc (.cells #[.bool fr] 4)).alloc (.cells #[.int .i64 0, .int .i64 0, .int .i64 0, .int .i64 0, .bool false] 49)
  have B1 := (Blk.new (w.alloc (.cells #[.int .i64 x] 3)) 4 #[.bool fr]).alloc (.cells #[.int .i64 0, .int .i64 0, .int .i64 0, .int .i64 0, .bool false] 49)
  have B2 := Blk.new ((w.alloc (.cells #[.int .i64 x] 3)).alloc (.cells #[.bool fr] 4)) 49 #[.int .i64 0, .int .i64 0, .int .i64 0, .int .i64 0, .bool false]
  simp only [World.size_alloc] at B1 B2
  refine (HIX.out _ (hr.below hb0) (by simp <;> omega) ?_).mono ?_
  · intro w' s hb' _
    have hsz := hb'.size
    simp only [World.size_alloc] at hsz
    have := findC_any w.heap.size (w.heap.size + 1) x fr s w' (by omega) (by omega) ((B0.below hb' (by simp; omega)).cell 0) ((B1.below hb' (by simp)).cell 0)
    rw [HP.out] at this
    exact this
  rintro e w1 ⟨rfl, hb1⟩
  have D2 := B2.below hb1 (by simp)
  have hb01 := below_step hb0 (hb1.mono (by simp <;> omega))
  obtain ⟨ad, s', rfl, had, hs', k0, k1, k2, k3, k4⟩ := (hr.below hb01).spot hin
  obtain rfl : s = s' := Option.some.inj (HS.out.symm.trans hs')
  obtain ⟨loc, r, b, t, f⟩ := s
  dsimp only at *
  have m0 := D2.cell 0
  have m1 := D2.cell 1
  have m2 := D2.cell 2
  have m3 := D2.cell 3
  have m4 := D2.cell 4
  have g0 := D2.frozen 0
  have g1 := D2.frozen 1
  have g2 := D2.frozen 2
  have g3 := D2.frozen 3
  have g4 := D2.frozen 4
  simp only [List.getElem?_toArray, List.getElem?_cons_zero, List.getElem?_cons_succ] at m0 m1 m2 m3 m4
  have HB := Lib.hid hb01
  clear hb0 hb1 hb01 B0 B1 B2 D2 hs'
  go_wp2
  refine bodyPost_ret (v := .tuple #[.agg #[.int .i64 loc, .int .i64 r, .int .i64 b, .int .i64 t, .bool f], .bool true]) ?_ rfl ⟨rfl, ?_⟩
  · simp only [results, Try.results64]
    go_simp
  · iterate 5 refine Below.setCell ?_ (by dsimp only; omega) _
    exact HB.out

set_option maxHeartbeats 400000 in
theorem glay_zero (A : Option Addr) (n c : Nat) (i : Int) (w : World) :
    Calls Try.prog 60 #[.slice A n c, .int .i64 i, .int .i64 0] w fun e w' => e = .returned (.slice A n c) ∧ w' = w := by
  go_enter Try.func60, Try.ntmps60
  go_wp2
  go_ret
  exact ⟨rfl, rfl⟩

set_option maxRecDepth 100000 in
set_option maxHeartbeats 1000000 in
theorem take_bad (A : Option Addr) (n c : Nat) (a : List Int) (x r b t : Int) (f : Bool) (w : World) (hr : Reads w w.heap.size 1 A n (a.map (.int .u64))) (hnc : n ≤ c) (ha : ∀ x ∈ a, (Lit.int .u64 x).wf = true)
    (hbad : ¬ (headE r b t f = 0 ∧ f = false ∧ checkE a = 0 ∧ ∃ (i : Nat) (s : Spot), ixOf (pF x true) (spotsL a) = i ∧ (spotsL a)[i]? = some s ∧ 1 + r + b ≤ s.long)) :
    Calls Try.prog 34 #[.slice A n c, .int .i64 x, .agg #[.int .i64 r, .int .i64 b, .int .i64 t, .bool f]] w fun e w' => (∃ E : Int, E ≠ 0 ∧ e = .returned (.tuple #[.slice none 0 0, .int .i64 E])) ∧ Below w.heap.size w w' := by
  have hba := below_new w (.cells #[.int .i64 r, .int .i64 b, .int .i64 t, .bool f] 47)
  have B0 := Blk.new w 47 #[.int .i64 r, .int .i64 b, .int .i64 t, .bool f]
  by_cases hE : headE r b t f = 0
  · have HW := Lib.hid (fun w => hword_ok r b t f w hE)
    have HGh := Lib.hid (fun w => glong_ok r b t f w hE)
    cases f
    · by_cases hC : checkE a = 0
      · have hE0 := (checkE_ok.1 hC).1
        have H1 := fun w hr => gspots_any A n c a w hr hnc ha
        have hgs : gspotsL a = spotsL a := by unfold gspotsL; rw [if_pos hC]
        rw [hC, hgs] at H1
        have hS := spotsL_length a
        have hsok := fun s (hs : s ∈ spotsL a) => (parse_mem (parse_ok hE0).2 s hs).1
        generalize spotsL a = S at *
        obtain ⟨k, hk⟩ : ∃ k, k = S.length := ⟨_, rfl⟩
        rw [← hk] at H1 hS
        have HK := Lib.hid hk
        clear hk
        have H1 := Lib.hid H1
        have hv := hE
        have hh := headE_ok.1 hE
        generalize wordOf r b t false = v at *
        rcases ixOf_cases (pF x true) S with ⟨hix, -⟩ | ⟨i, s, hix, hs, hps, -⟩
        · have HF := Lib.hid (fun A c w hr => gfind_none A k c S x true w hr hS (by rw [hix]; decide))
          clear hbad hE hC hE0 hgs hsok hix hv hh
          go_enter Try.func34, Try.ntmps34
          go_wp2_with fail
          refine (HW.out _).mono ?_
          rintro e w1 ⟨rfl, hb1⟩
          have hb01 := below_step hba hb1
          have D1 := B0.below hb1 (by simp)
          have k3 := D1.cell 3
          simp only [List.getElem?_toArray, List.getElem?_cons_zero, List.getElem?_cons_succ] at k3
          go_wp2_with fail
          refine (H1.out _ ((hr.below hb01).more hb01.size)).mono ?_
          rintro e w2 ⟨hb2, A', c', rfl, hown⟩
          have hb02 := below_step hb01 hb2
          have hrl := Reads.of_own hown
          clear hown
          go_wp2_with fail
          refine (HF.out _ _ _ hrl).mono ?_
          rintro e w3 ⟨rfl, hb3⟩
          have hb03 := below_step hb02 hb3
          go_wp2
          go_ret2
          exact ⟨⟨5, by decide, rfl⟩, hb03.alloc hb03.size _⟩
        · have hlong : ¬ 1 + r + b ≤ s.long := fun h => hbad ⟨hE, rfl, hC, i, s, hix, hs, h⟩
          have HF := Lib.hid (fun A c w hr => gfind_ok A k c S x true i s w hr hS hix hs)
          have hok := hsok s (List.mem_of_getElem? hs)
          have HGs := Lib.hid (fun w => glong_ok s.r s.b s.t s.f w hok.head)
          obtain ⟨loc, r2, b2, t2, f2⟩ := s
          unfold Spot.long at hlong
          dsimp only at *
          have hgt : decide (1 + r2 + b2 < 1 + r + b) = true := decide_eq_true (by omega)
          clear hbad hE hC hE0 hgs hsok hix hs hps hv hh hok hlong
          go_enter Try.func34, Try.ntmps34
          go_wp2_with fail
          refine (HW.out _).mono ?_
          rintro e w1 ⟨rfl, hb1⟩
          have hb01 := below_step hba hb1
          have D1 := B0.below hb1 (by simp)
          have k3 := D1.cell 3
          simp only [List.getElem?_toArray, List.getElem?_cons_zero, List.getElem?_cons_succ] at k3
          go_wp2_with fail
          refine (H1.out _ ((hr.below hb01).more hb01.size)).mono ?_
          rintro e w2 ⟨hb2, A', c', rfl, hown⟩
          have hb02 := below_step hb01 hb2
          have hrl := Reads.of_own hown
          have D2 := D1.below hb2 (by have := D1.lt; omega)
          clear hown k3 D1
          go_wp2_with fail
          refine (HF.out _ _ _ hrl).mono ?_
          rintro e w3 ⟨rfl, hb3⟩
          have hb03 := (below_step hb02 hb3)
          have hb04 := hb03.alloc hb03.size (.cells #[.int .i64 loc, .int .i64 r2, .int .i64 b2, .int .i64 t2, .bool f2] 49)
          have D4 := (D2.below hb3 (by have := D2.lt; omega)).alloc (.cells #[.int .i64 loc, .int .i64 r2, .int .i64 b2, .int .i64 t2, .bool f2] 49)
          have S4 := Blk.new w3 49 #[.int .i64 loc, .int .i64 r2, .int .i64 b2, .int .i64 t2, .bool f2]
          clear hrl hb01 hb02 hb1 hb2 hb3 D2 B0 hba hb03
          have q0 := D4.cell 0
          have q1 := D4.cell 1
          have q2 := D4.cell 2
          have q3 := D4.cell 3
          have s1 := S4.cell 1
          have s2 := S4.cell 2
          have s3 := S4.cell 3
          have s4 := S4.cell 4
          simp only [List.getElem?_toArray, List.getElem?_cons_zero, List.getElem?_cons_succ] at q0 q1 q2 q3 s1 s2 s3 s4
          have D4 := D4.drew
          have S4 := S4.drew
          have hb04 := hb04.drew
          go_wp2
          go_region_held3 (fun w' => w'.cell? ⟨w.heap.size, 0, none⟩ = some (.int .i64 r) ∧ w'.cell? ⟨w.heap.size, 1, none⟩ = some (.int .i64 b) ∧ w'.cell? ⟨w.heap.size, 2, none⟩ = some (.int .i64 t) ∧ w'.cell? ⟨w.heap.size, 3, none⟩ = some (.bool false) ∧
              w'.cell? ⟨w3.heap.size, 1, none⟩ = some (.int .i64 r2) ∧ w'.cell? ⟨w3.heap.size, 2, none⟩ = some (.int .i64 b2) ∧ w'.cell? ⟨w3.heap.size, 3, none⟩ = some (.int .i64 t2) ∧ w'.cell? ⟨w3.heap.size, 4, none⟩ = some (.bool f2)) (go_keep)
            (first
              | (go_at_call 65; (first | with_reducible refine (HGh.out _).mono ?_ | with_reducible refine (HGs.out _).mono ?_); rintro e w4 ⟨rfl, hb4⟩; have D4 := D4.below hb4 D4.lt; have S4 := S4.below hb4 S4.lt; have q0 := D4.cell 0; have q1 := D4.cell 1; have q2 := D4.cell 2; have q3 := D4.cell 3; have s1 := S4.cell 1; have s2 := S4.cell 2; have s3 := S4.cell 3; have s4 := S4.cell 4; simp only [List.getElem?_toArray, List.getElem?_cons_zero, List.getElem?_cons_succ] at q0 q1 q2 q3 s1 s2 s3 s4; have hb04 := hb04.trans (hb4.mono hb04.size)))
          all_goals
            go_wp2
            go_ret2
            exact ⟨⟨7, by decide, rfl⟩, hb04⟩
      · have H1 := fun w hr => gspots_any A n c a w hr hnc ha
        generalize checkE a = E at *
        generalize gspotsL a = S at *
        have H1 := Lib.hid H1
        have hE1 : (E != 0) = true := by simpa using hC
        have HC := Lib.hid hC
        clear hbad hE hC
        go_enter Try.func34, Try.ntmps34
        go_wp2_with fail
        refine (HW.out _).mono ?_
        rintro e w1 ⟨rfl, hb1⟩
        have hb01 := below_step hba hb1
        have D1 := B0.below hb1 (by simp)
        have k3 := D1.cell 3
        simp only [List.getElem?_toArray, List.getElem?_cons_zero, List.getElem?_cons_succ] at k3
        go_wp2_with fail
        refine (H1.out _ ((hr.below hb01).more hb01.size)).mono ?_
        rintro e w2 ⟨hb2, A', c', rfl, hown⟩
        clear hown
        go_wp2
        go_ret2
        exact ⟨⟨E, HC.out, rfl⟩, below_step hb01 hb2⟩
    · clear hbad hE
      go_enter Try.func34, Try.ntmps34
      go_wp2_with fail
      refine (HW.out _).mono ?_
      rintro e w1 ⟨rfl, hb1⟩
      have hb01 := below_step hba hb1
      have D1 := B0.below hb1 (by simp)
      have k3 := D1.cell 3
      simp only [List.getElem?_toArray, List.getElem?_cons_zero, List.getElem?_cons_succ] at k3
      go_wp2
      go_ret2
      exact ⟨⟨3, by decide, rfl⟩, hb01⟩
  · have HW := Lib.hid (fun w => hword_bad r b t f w hE)
    generalize headE r b t f = E at *
    have hE1 : (E != 0) = true := by simpa using hE
    have HE := Lib.hid hE
    clear hbad hE
    go_enter Try.func34, Try.ntmps34
    go_wp2_with fail
    refine (HW.out _).mono ?_
    rintro e w1 ⟨rfl, hb1⟩
    go_wp2
    go_ret2
    exact ⟨⟨E, HE.out, rfl⟩, below_step hba hb1⟩

set_option maxRecDepth 100000 in
set_option maxHeartbeats 2000000 in
theorem take_good (A : Option Addr) (n c : Nat) (a : List Int) (x r b t : Int) (i : Nat) (s : Spot) (w : World) (hr : Reads w w.heap.size 1 A n (a.map (.int .u64))) (hnc : n ≤ c) (ha : ∀ x ∈ a, (Lit.int .u64 x).wf = true)
    (hE : headE r b t false = 0) (hC : checkE a = 0) (hix : ixOf (pF x true) (spotsL a) = i) (hs : (spotsL a)[i]? = some s) (hxs : s.loc = x) (hfs : s.f = true) (hk : 1 + r + b ≤ s.long) :
    Calls Try.prog 34 #[.slice A n c, .int .i64 x, .agg #[.int .i64 r, .int .i64 b, .int .i64 t, .bool false]] w fun e w' => Below w.heap.size w w' ∧ ∃ A' c', e = .returned (.tuple #[.slice A' n c', .int .i64 0]) ∧
      w'.ownsRow w.heap.size 29 1 (.slice A' n c') n ((takeL a s.loc.toNat s.long.toNat (1 + r + b).toNat (wordOf r b t false)).map (.int .u64)) := by
  have hba := below_new w (.cells #[.int .i64 r, .int .i64 b, .int .i64 t, .bool false] 47)
  have B0 := Blk.new w 47 #[.int .i64 r, .int .i64 b, .int .i64 t, .bool false]
  have HW := Lib.hid (fun w => hword_ok r b t false w hE)
  have HGh := fun w => glong_ok r b t false w hE
  have hE0 := (checkE_ok.1 hC).1
  have H1 := fun w hr => gspots_any A n c a w hr hnc ha
  have hgs : gspotsL a = spotsL a := by unfold gspotsL; rw [if_pos hC]
  rw [hC, hgs] at H1
  have hS := spotsL_length a
  have hlen := (parse_ok hE0).1
  have hal : a.length = n := by have := hr.1; simpa using this
  have hok := (parse_mem (parse_ok hE0).2 s (List.mem_of_getElem? hs)).1
  have hh := headE_ok.1 hE
  generalize spotsL a = S at *
  obtain ⟨k0, hk0⟩ : ∃ k, k = S.length := ⟨_, rfl⟩
  rw [← hk0] at H1 hS
  have HF := Lib.hid (fun A c w hr => gfind_ok A k0 c S x true i s w hr hS hix hs)
  have HGs := fun w => glong_ok s.r s.b s.t s.f w hok.head
  have hl0 := hok.loc0
  have hlf := hok.fits
  have hr0 := hok.r0
  have hb0 := hok.b0
  obtain ⟨loc, r2, b2, t2, f2⟩ := s
  unfold Spot.long at *
  dsimp only at *
  subst hxs hfs
  obtain ⟨L, rfl⟩ : ∃ L : Nat, loc = L := ⟨loc.toNat, by omega⟩
  obtain ⟨k, hkk⟩ : ∃ k : Nat, 1 + r + b = k := ⟨(1 + r + b).toNat, by omega⟩
  obtain ⟨m, hmm⟩ : ∃ m : Nat, 1 + r2 + b2 = m := ⟨(1 + r2 + b2).toNat, by omega⟩
  rw [hkk] at HGh hk ⊢
  rw [hmm] at HGs hk hlf ⊢
  simp only [Int.toNat_natCast]
  obtain ⟨p, hp⟩ : ∃ p : Nat, (L : Int) + k = p := ⟨L + k, by omega⟩
  obtain ⟨q, hq⟩ : ∃ q : Nat, (m : Int) - k = q := ⟨m - k, by omega⟩
  have hw1 : IntKind.i64.wrap ((L : Int) + k) = p := by rw [hp]; exact IntWalk.i64_in _ (by omega)
  have hw2 : IntKind.i64.wrap ((m : Int) - k) = q := by rw [hq]; exact IntWalk.i64_in _ (by omega)
  have HP : Hid (p = L + k ∧ q = m - k ∧ p + q ≤ n) := by show _ ∧ _ ∧ _; omega
  have hF : fillE n L m = 0 := fillE_ok.2 ⟨by omega, by omega, by omega, by omega, by omega⟩
  have HFl := fun w B hr hB => fill_ok A n c B a L m 0 w hr hB hF
  simp only [Int.toNat_natCast] at HFl
  have hLn : L < n := by omega
  have hgt : decide ((m : Int) < k) = false := decide_eq_false (by omega)
  have hgt2 : decide (m < k) = false := decide_eq_false (by omega)
  have HT : Hid (takeL a L m k (wordOf r b t false) = layL ((fillL a L m 0).set L (wordOf r b t false)) p q) := by show _ = _; unfold takeL; rw [HP.out.1, HP.out.2.1]
  rw [HT.out]
  generalize fillL a L m 0 = F at *
  generalize wordOf r b t false = v at *
  have H1 := Lib.hid H1
  have HGh := Lib.hid HGh
  have HGs := Lib.hid HGs
  have HFl := Lib.hid HFl
  have hn : n ≤ 256 := by omega
  have HK0 := Lib.hid hk0
  clear hix hs hE hC hE0 hgs hok hh hk0 hkk hmm hp hq hF HT hal hlen hl0 hlf hr0 hb0 hk
  go_enter Try.func34, Try.ntmps34
  go_wp2_with fail
  refine (HW.out _).mono ?_
  rintro e w1 ⟨rfl, hb1⟩
  have hb01 := below_step hba hb1
  have D1 := B0.below hb1 (by simp)
  have k3 := D1.cell 3
  simp only [List.getElem?_toArray, List.getElem?_cons_zero, List.getElem?_cons_succ] at k3
  go_wp2_with fail
  refine (H1.out _ ((hr.below hb01).more hb01.size)).mono ?_
  rintro e w2 ⟨hb2, A', c', rfl, hown⟩
  have hb02 := below_step hb01 hb2
  have hrl := Reads.of_own hown
  have D2 := D1.below hb2 (by have := D1.lt; omega)
  clear hown k3 D1
  go_wp2_with fail
  refine (HF.out _ _ _ hrl).mono ?_
  rintro e w3 ⟨rfl, hb3⟩
  have hb03 := (below_step hb02 hb3)
  have hb04 := hb03.alloc hb03.size (.cells #[.int .i64 L, .int .i64 r2, .int .i64 b2, .int .i64 t2, .bool true] 49)
  have D4 := (D2.below hb3 (by have := D2.lt; omega)).alloc (.cells #[.int .i64 L, .int .i64 r2, .int .i64 b2, .int .i64 t2, .bool true] 49)
  have S4 := Blk.new w3 49 #[.int .i64 L, .int .i64 r2, .int .i64 b2, .int .i64 t2, .bool true]
  clear hrl hb01 hb02 hb1 hb2 hb3 D2 B0 hba hb03
  have q0 := D4.cell 0
  have q1 := D4.cell 1
  have q2 := D4.cell 2
  have q3 := D4.cell 3
  have s1 := S4.cell 1
  have s2 := S4.cell 2
  have s3 := S4.cell 3
  have s4 := S4.cell 4
  simp only [List.getElem?_toArray, List.getElem?_cons_zero, List.getElem?_cons_succ] at q0 q1 q2 q3 s1 s2 s3 s4
  have D4 := D4.drew
  have S4 := S4.drew
  have hb04 := hb04.drew
  go_wp2
  go_region_held3 (fun w' => w'.cell? ⟨w.heap.size, 0, none⟩ = some (.int .i64 r) ∧ w'.cell? ⟨w.heap.size, 1, none⟩ = some (.int .i64 b) ∧ w'.cell? ⟨w.heap.size, 2, none⟩ = some (.int .i64 t) ∧ w'.cell? ⟨w.heap.size, 3, none⟩ = some (.bool false) ∧
            w'.cell? ⟨w3.heap.size, 1, none⟩ = some (.int .i64 r2) ∧ w'.cell? ⟨w3.heap.size, 2, none⟩ = some (.int .i64 b2) ∧ w'.cell? ⟨w3.heap.size, 3, none⟩ = some (.int .i64 t2) ∧ w'.cell? ⟨w3.heap.size, 4, none⟩ = some (.bool true)) (go_keep)
    (first
      | (go_at_call 65; (first | with_reducible refine (HGh.out _).mono ?_ | with_reducible refine (HGs.out _).mono ?_); rintro e w4 ⟨rfl, hb4⟩; have D4 := D4.below hb4 D4.lt; have S4 := S4.below hb4 S4.lt; have q0 := D4.cell 0; have q1 := D4.cell 1; have q2 := D4.cell 2; have q3 := D4.cell 3; have s1 := S4.cell 1; have s2 := S4.cell 2; have s3 := S4.cell 3; have s4 := S4.cell 4; simp only [List.getElem?_toArray, List.getElem?_cons_zero, List.getElem?_cons_succ] at q0 q1 q2 q3 s1 s2 s3 s4; have hb04 := hb04.trans (hb4.mono hb04.size)))
  all_goals
    go_wp2_with fail
    refine (HGs.out _).mono ?_
    rintro e w5 ⟨rfl, hb5⟩
    have D4 := D4.below hb5 D4.lt
    have S4 := S4.below hb5 S4.lt
    have hb04 := hb04.trans (hb5.mono hb04.size)
    go_wp2_with fail
    refine (HFl.out _ _ (hr.below hb04) hb04.size).mono ?_
    rintro e w6 ⟨hb6, A6, c6, rfl, hown6⟩
    have D4 := D4.below hb6 D4.lt
    have S4 := S4.below hb6 S4.lt
    have hg6 := hb04.size
    have hb04 := hb04.trans (hb6.mono hb04.size)
    obtain ⟨g, cap, hv, hg, -⟩ := hown6.form (by omega)
    obtain ⟨rfl, rfl⟩ : A6 = some ⟨g, 0, none⟩ ∧ c6 = cap := by simpa using hv
    have hF0 := hown6.frozenAt L
    have hl := hown6.1
    simp only [List.length_map] at hl
    have hc0 := hown6.cellAt L (by omega)
    rw [List.getElem?_map, List.getElem?_eq_getElem (by omega)] at hc0
    have hc1 : w6.cell? ⟨g, L, none⟩ = some (.int .u64 (F[L]'(by omega))) := hc0
    have hownR := own_mono (hown6.stored L (.int .u64 v)).1 hg6
    rw [← List.map_set] at hownR
    have D4 := (D4.far (p := ⟨g, L, none⟩) (by dsimp only; have := own_blk_ne hown6 D4 (by decide); intro h; exact this (by rw [h]; rfl)) (.int .u64 v)).drew
    have S4 := (S4.far (p := ⟨g, L, none⟩) (by dsimp only; have := own_blk_ne hown6 S4 (by decide); intro h; exact this (by rw [h]; rfl)) (.int .u64 v)).drew
    have hb04 := (hb04.setCell (p := ⟨g, L, none⟩) (by dsimp only; omega) (.int .u64 v)).drew
    have hownR := hownR.drew
    clear hv hc0 hown6 hb5 hb6 hg q0 q1 q2 q3 s1 s2 s3 s4
    have q0 := D4.cell 0
    have q1 := D4.cell 1
    have q2 := D4.cell 2
    have q3 := D4.cell 3
    have s1 := S4.cell 1
    have s2 := S4.cell 2
    have s3 := S4.cell 3
    have s4 := S4.cell 4
    simp only [List.getElem?_toArray, List.getElem?_cons_zero, List.getElem?_cons_succ] at q0 q1 q2 q3 s1 s2 s3 s4
    by_cases hq0 : q = 0
    · subst hq0
      have HL : Hid (layL (F.set L v) p 0 = F.set L v) := rfl
      go_wp2
      go_region_held3 (fun w' => w'.cell? ⟨w.heap.size, 0, none⟩ = some (.int .i64 r) ∧ w'.cell? ⟨w.heap.size, 1, none⟩ = some (.int .i64 b) ∧ w'.cell? ⟨w.heap.size, 2, none⟩ = some (.int .i64 t) ∧ w'.cell? ⟨w.heap.size, 3, none⟩ = some (.bool false) ∧
            w'.cell? ⟨w3.heap.size, 1, none⟩ = some (.int .i64 r2) ∧ w'.cell? ⟨w3.heap.size, 2, none⟩ = some (.int .i64 b2) ∧ w'.cell? ⟨w3.heap.size, 3, none⟩ = some (.int .i64 t2) ∧ w'.cell? ⟨w3.heap.size, 4, none⟩ = some (.bool true)) (go_keep)
        (first
          | (go_at_call 65; (first | with_reducible refine (HGh.out _).mono ?_ | with_reducible refine (HGs.out _).mono ?_); rintro e w4 ⟨rfl, hb4⟩; have D4 := D4.below hb4 D4.lt; have S4 := S4.below hb4 S4.lt; have q0 := D4.cell 0; have q1 := D4.cell 1; have q2 := D4.cell 2; have q3 := D4.cell 3; have s1 := S4.cell 1; have s2 := S4.cell 2; have s3 := S4.cell 3; have s4 := S4.cell 4; simp only [List.getElem?_toArray, List.getElem?_cons_zero, List.getElem?_cons_succ] at q0 q1 q2 q3 s1 s2 s3 s4; have hb04 := hb04.trans (hb4.mono hb04.size); have hownR := own_below hownR hb4)
          | (go_at_call 60; refine (glay_zero _ _ _ _ _).mono ?_; rintro e w5 ⟨rfl, rfl⟩))
      all_goals
        go_wp2
        go_ret2
        exact ⟨hb04, _, _, rfl, by rw [HL.out]; exact hownR⟩
    · have HLay := Lib.hid (fun c W hr => glay_ok (some ⟨g, 0, none⟩) n c W.heap.size (F.set L v) p q W hr (Nat.le_refl _) hn HP.out.2.2 (by omega))
      go_wp2
      go_region_held3 (fun w' => w'.cell? ⟨w.heap.size, 0, none⟩ = some (.int .i64 r) ∧ w'.cell? ⟨w.heap.size, 1, none⟩ = some (.int .i64 b) ∧ w'.cell? ⟨w.heap.size, 2, none⟩ = some (.int .i64 t) ∧ w'.cell? ⟨w.heap.size, 3, none⟩ = some (.bool false) ∧
            w'.cell? ⟨w3.heap.size, 1, none⟩ = some (.int .i64 r2) ∧ w'.cell? ⟨w3.heap.size, 2, none⟩ = some (.int .i64 b2) ∧ w'.cell? ⟨w3.heap.size, 3, none⟩ = some (.int .i64 t2) ∧ w'.cell? ⟨w3.heap.size, 4, none⟩ = some (.bool true)) (go_keep)
        (first
          | (go_at_call 65; (first | with_reducible refine (HGh.out _).mono ?_ | with_reducible refine (HGs.out _).mono ?_); rintro e w4 ⟨rfl, hb4⟩; have D4 := D4.below hb4 D4.lt; have S4 := S4.below hb4 S4.lt; have q0 := D4.cell 0; have q1 := D4.cell 1; have q2 := D4.cell 2; have q3 := D4.cell 3; have s1 := S4.cell 1; have s2 := S4.cell 2; have s3 := S4.cell 3; have s4 := S4.cell 4; simp only [List.getElem?_toArray, List.getElem?_cons_zero, List.getElem?_cons_succ] at q0 q1 q2 q3 s1 s2 s3 s4; have hb04 := hb04.trans (hb4.mono hb04.size); have hownR := own_below hownR hb4)
          | (go_at_call 60; refine (HLay.out _ _ (Reads.of_own hownR)).mono ?_; rintro e w5 ⟨hb5, A5, c5, rfl, hown5⟩; have D4 := D4.below hb5 D4.lt; have S4 := S4.below hb5 S4.lt; have q0 := D4.cell 0; have q1 := D4.cell 1; have q2 := D4.cell 2; have q3 := D4.cell 3; have s1 := S4.cell 1; have s2 := S4.cell 2; have s3 := S4.cell 3; have s4 := S4.cell 4; simp only [List.getElem?_toArray, List.getElem?_cons_zero, List.getElem?_cons_succ] at q0 q1 q2 q3 s1 s2 s3 s4; have hg5 := hb04.size; have hb04 := hb04.trans (hb5.mono hb04.size); have hownZ := own_mono hown5 hg5))
      all_goals
        go_wp2
        go_ret2
        exact ⟨hb04, _, _, rfl, hownZ⟩
end Go.Proofs.Ytdlmnnibgpfdbaa
