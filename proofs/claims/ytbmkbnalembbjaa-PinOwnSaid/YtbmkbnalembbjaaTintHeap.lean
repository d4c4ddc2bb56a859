/-
  package tint: newHeap.
-/
import Derived.Test.YtbmkbnalembbjaaTintDefs
import Derived.Test.YtbmkbnalembbjaaCheck
import Derived.Test.YtbmkbnalembbjaaCloneInt
import Derived.Test.YtbmkbnalembbjaaMem
import Derived.Deep.RegionHeld3
import Derived.StillTailTactics
import Derived.IntWalk
namespace Go.Proofs.Ytbmkbnalembbjaa
open Go.RowKit

/-- The heap that newHeap makes: what it holds, where. -/
def HeapIs (w : World) (base gh : Nat) (A : Option Addr) (n c : Nat) (S : List Spot) : Prop :=
  ∃ b Ao k co, Blk w gh 152 #[.slice A n c, .map (some b), .slice Ao k co] ∧ base ≤ gh ∧ base ≤ b ∧ MapIs w Try.prog 3 .i64 b 300 (headF S) ∧ w.ownsRow base 3 1 (.slice Ao k co) k ((begsL S).map (.int .i64))
theorem HeapIs.below {w w' : World} {base gh n c : Nat} {A : Option Addr} {S : List Spot} (h : HeapIs w base gh A n c S) (hb : Below w.heap.size w w') : HeapIs w' base gh A n c S := by
  obtain ⟨b, Ao, k, co, h1, h2, h3, h4, h5⟩ := h
  exact ⟨b, Ao, k, co, h1.below hb h1.lt, h2, h3, h4.below hb h4.lt, own_below h5 hb⟩
theorem HeapIs.mono {w : World} {base base' gh n c : Nat} {A : Option Addr} {S : List Spot} (h : HeapIs w base' gh A n c S) (hb : base ≤ base') : HeapIs w base gh A n c S := by
  obtain ⟨b, Ao, k, co, h1, h2, h3, h4, h5⟩ := h
  exact ⟨b, Ao, k, co, h1, by omega, by omega, h4, own_mono h5 hb⟩

theorem own_kinds {w : World} {base base' size size' n n' : Nat} {e e' : TypeId} {v v' : Value} {xs xs' : List Value} (h : w.ownsRow base e size v n xs) (h' : w.ownsRow base' e' size' v' n' xs') (hne : e ≠ e') {g : Nat} (hg : v.ownBlock = some g) : v'.ownBlock ≠ some g := by
  intro hg'
  rcases h.2 with ⟨rfl, _⟩ | ⟨g1, cap, cur, rfl, _, hh, _⟩
  · cases hg
  · rcases h'.2 with ⟨rfl, _⟩ | ⟨g2, cap2, cur2, rfl, _, hh2, _⟩
    · cases hg'
    · simp only [Value.ownBlock, Option.some.injEq] at hg hg'
      subst hg hg'
      rw [hh] at hh2
      injection hh2 with hh2
      injection hh2 with _ ht
      exact hne ht
theorem own_off {w : World} {base size n b : Nat} {e : TypeId} {v : Value} {xs : List Value} (h : w.ownsRow base e size v n xs) (hb : b < base) : v.ownBlock ≠ some b := fun hg => by have := (h.lt b hg).1; omega
theorem zero_head (w : World) : (zeroValue 110).run Try.prog w = .ok (.agg #[.int .i64 0, .int .i64 0, .int .i64 0, .bool false]) w := by kernel_rfl
theorem underlying_int : Try.prog.underlying 3 = some (.int .i64) := Try.underlying3

set_option maxHeartbeats 400000 in
theorem heap_bad (A : Option Addr) (n c : Nat) (a : List Int) (A2 : Option Addr) (n2 c2 : Nat) (w : World) (hr : Reads w w.heap.size 1 A n (a.map (.int .u64))) (hnc : n ≤ c) (ha : ∀ x ∈ a, (Lit.int .u64 x).wf = true) (hE : checkE a ≠ 0) :
    Calls Try.prog 54 #[.slice A n c, .slice A2 n2 c2] w fun e w' => e = .returned (.tuple #[.pointer none, .int .i64 (checkE a)]) ∧ Below w.heap.size w w' := by
  have H := Lib.hid (checkFn_any A n c a w hr hnc ha)
  have hE1 : (checkE a != 0) = true := by simpa using hE
  generalize checkE a = E at *
  clear hE hr
  go_enter Try.func54, Try.ntmps54
  go_wp2_with fail
  refine H.out.mono ?_
  rintro e w1 ⟨rfl, hb1⟩
  go_wp2
  go_ret2
  exact ⟨rfl, hb1⟩

set_option maxRecDepth 100000 in
set_option maxHeartbeats 2000000 in
theorem heap_ok (A : Option Addr) (n c : Nat) (a : List Int) (A2 : Option Addr) (n2 c2 : Nat) (f : List Int) (w : World) (hr : Reads w w.heap.size 1 A n (a.map (.int .u64))) (hnc : n ≤ c) (ha : ∀ x ∈ a, (Lit.int .u64 x).wf = true)
    (hr2 : Reads w w.heap.size 1 A2 n2 (f.map (.int .i64))) (hn2 : n2 ≤ 1000000000000000000) (hx2 : ∀ x ∈ f, (Lit.int .i64 x).wf = true) (hE : checkE a = 0) :
    Calls Try.prog 54 #[.slice A n c, .slice A2 n2 c2] w fun e w' => Below w.heap.size w w' ∧
      (((∀ x ∈ f, x ∈ begsL (spotsL a)) ∧ ∃ gh, e = .returned (.tuple #[.pointer (some ⟨gh, 0, none⟩), .int .i64 0]) ∧ HeapIs w' w.heap.size gh A n c (spotsL a)) ∨
       ((∃ x ∈ f, x ∉ begsL (spotsL a)) ∧ e = .returned (.tuple #[.pointer none, .int .i64 5]))) := by
  have H := checkFn_any A n c a w hr hnc ha
  rw [hE] at H
  have H := Lib.hid H
  have h0 := (checkE_ok.1 hE).1
  have H2 := fun w hr => spots_any A n c a w hr ha
  rw [h0] at H2
  have hrise := spots_rise h0
  have hbnd := spots_bounds h0
  have hm256 := spotsL_length a
  generalize spotsL a = S at *
  obtain ⟨m, hm⟩ : ∃ m, m = S.length := ⟨_, rfl⟩
  rw [← hm] at H2 hm256
  have HM := Lib.hid hm
  have HR := Lib.hid hrise
  have HB := Lib.hid hbnd
  have H2 := Lib.hid H2
  have hfl : f.length = n2 := by have := hr2.1; simpa using this
  have HFL := Lib.hid hfl
  have HX := Lib.hid hx2
  have hmm := @run_makeMap Try.prog
  obtain ⟨i0, hi, hz0, hz1, hz2⟩ := info_parts info_int
  clear hE h0 hm hrise hbnd hfl hx2 ha
  go_enter Try.func54, Try.ntmps54
  go_wp2_with fail
  refine H.out.mono ?_
  rintro e w1 ⟨rfl, hb1⟩
  have hbA := below_step hb1 (below_new w1 (.map #[] 0))
  have hM0 := MapIs.made w1 Try.prog 3 .i64
  have hMz := hM0.alloc (.cells #[.slice A n c, .map (some w1.heap.size), .slice none 0 0] 152)
  have hBh := Blk.new (w1.alloc (.map #[] 0)) 152 #[.slice A n c, .map (some w1.heap.size), .slice none 0 0]
  have hbB := below_step hbA (below_new (w1.alloc (.map #[] 0)) (.cells #[.slice A n c, .map (some w1.heap.size), .slice none 0 0] 152))
  simp only [World.size_alloc] at hBh
  clear hM0 hbA
  go_wp2_with fail
  refine (H2.out _ ((hr.below hbB).more hbB.size)).mono ?_
  rintro e w2 ⟨hb2, A3, c3, rfl, hown⟩
  have hMz := hMz.below hb2 hMz.lt
  have hBh := hBh.below hb2 hBh.lt
  have hb02 := below_step hbB hb2
  have HS0 := Lib.hid hown
  simp only [World.size_alloc] at HS0
  have hw1 := hb1.size
  have hBlt : w1.heap.size + 1 < w2.heap.size := hBh.lt
  clear hown hb2 hbB
  go_wp2
  go_loopw [32] (fun i wr => ∃ (j k co : Nat) (Ao : Option Addr), j ≤ m ∧ i = .int .i64 j ∧ k ≤ j ∧ Blk wr (w1.heap.size + 1) 152 #[.slice A n c, .map (some w1.heap.size), .slice Ao k co] ∧ MapIs wr Try.prog 3 .i64 w1.heap.size j (headF (S.take j)) ∧
      Hid (wr.ownsRow (w1.heap.size + 1 + 1) 3 1 (.slice Ao k co) k ((begsL (S.take j)).map (.int .i64))) ∧ Below w.heap.size w wr ∧ Hid (wr.ownsRow (w1.heap.size + 1 + 1) 146 5 (.slice A3 m c3) m (spotsC S))) (fun i _ => m - (intOf i).toNat)
  case atStart => exact ⟨0, 0, 0, none, Nat.zero_le _, rfl, Nat.zero_le _, hBh, hMz, World.ownsRow_nil _ _ _ _, hb02, HS0⟩
  case round =>
    obtain ⟨j, k, co, Ao, hj, rfl, hkj, hBh, hM, HO, hb, HRS⟩ := hrel
    by_cases hlt : j < m
    · obtain ⟨ad, s, rfl, had, hs, c0, c1, c2', c3', c4⟩ := (Reads.of_own HRS.out).spot hlt
      have hq := HB.out s (List.mem_of_getElem? hs)
      have HT : Hid (S.take (j + 1) = S.take j ++ [s]) := by
        show _ = _
        obtain ⟨h1, rfl⟩ := List.getElem?_eq_some_iff.1 hs
        exact List.take_succ_eq_append_getElem h1
      have HJ : Hid (∀ x ∈ S.take j, x.loc < s.loc) := by
        intro x hx
        rw [List.mem_take_iff_getElem] at hx
        obtain ⟨i, hi, rfl⟩ := hx
        obtain ⟨h1, rfl⟩ := List.getElem?_eq_some_iff.1 hs
        exact List.pairwise_iff_getElem.1 HR.out i j (by omega) h1 (by omega)
      obtain ⟨loc, r, b, t, fr⟩ := s
      dsimp only at c0 c1 c2' c3' c4 hq
      have hMx := hM.alloc (.cells #[.int .i64 loc, .int .i64 r, .int .i64 b, .int .i64 t, .bool fr] 146)
      have hbx := hb.alloc hb.size (.cells #[.int .i64 loc, .int .i64 r, .int .i64 b, .int .i64 t, .bool fr] 146)
      have hBx := hBh.alloc (.cells #[.int .i64 loc, .int .i64 r, .int .i64 b, .int .i64 t, .bool fr] 146)
      have hSx := Blk.new wr 146 #[.int .i64 loc, .int .i64 r, .int .i64 b, .int .i64 t, .bool fr]
      have HOx := Lib.hid (HO.out.alloc (.cells #[.int .i64 loc, .int .i64 r, .int .i64 b, .int .i64 t, .bool fr] 146))
      have hbs := below_new wr (.cells #[.int .i64 loc, .int .i64 r, .int .i64 b, .int .i64 t, .bool fr] 146)
      have HRx := Lib.hid (HRS.out.alloc (.cells #[.int .i64 loc, .int .i64 r, .int .i64 b, .int .i64 t, .bool fr] 146))
      have hj1 : j + 1 ≤ m := hlt
      have hws := hb.size
      have k0 := hBx.cell 0
      have k1 := hBx.cell 1
      have k2 := hBx.cell 2
      have s0 := hSx.cell 0
      have s1 := hSx.cell 1
      have s2 := hSx.cell 2
      have s3 := hSx.cell 3
      have s4 := hSx.cell 4
      simp only [List.getElem?_toArray, List.getElem?_cons_zero, List.getElem?_cons_succ] at k0 k1 k2 s0 s1 s2 s3 s4
      clear hs hbs HRS HO
      cases fr
      · have HP := Lib.hid (headF_snoc (l := S.take j) (s := ⟨loc, r, b, t, false⟩) rfl HJ.out)
        have HQ := Lib.hid (begsL_snoc (S.take j) ⟨loc, r, b, t, false⟩)
        rw [← HT.out] at HP HQ
        have hwl := hBh.lt
        obtain ⟨w3, hupd, hM3, hg3⟩ := hMx.drew.store (k := 3) (t := 150) Try.underlying3 Try.underlying150 (by unfold maxLen; omega) (x := loc) (by simp [Lit.wf, IntKind.min, IntKind.max, IntKind.signed, IntKind.bits]; omega) (.agg #[.int .i64 r, .int .i64 b, .int .i64 t, .bool false])
        have hB3 := hBx.drew.grown hg3 (fun h => by injection h with h; omega)
        have hS3 := hSx.drew.grown hg3 (fun h => by injection h with h; omega)
        have hb3 := hbx.drew.grown hg3 (by exact hbx.size) (fun g hg => by injection hg with hg; omega)
        have hO3 := own_grown HOx.out.drew hg3 (fun g hg h => by injection h with h; have := (HOx.out.lt g hg).1; omega)
        have hR3 := own_grown HRx.out.drew hg3 (fun g hg h => by injection h with h; have := (HRx.out.lt g hg).1; omega)
        -- the list grows by one
        have hB4 := (hB3.alloc (.cells #[.int .i64 loc] 3)).drew
        have hM4 := (hM3.alloc (.cells #[.int .i64 loc] 3)).drew
        have hb4 := (hb3.alloc hb3.size (.cells #[.int .i64 loc] 3)).drew
        have hO4 := (hO3.alloc (.cells #[.int .i64 loc] 3)).drew
        have hR4 := (hR3.alloc (.cells #[.int .i64 loc] 3)).drew
        have hw3 : w1.heap.size + 1 < w3.heap.size := hB3.lt
        obtain ⟨v5, w5, hrun, hO5, hg5, -, -⟩ := run_append_any (P := Try.prog) (w3.alloc (.cells #[.int .i64 loc] 3)).drew (w1.heap.size + 1 + 1) 24 24 3 i0 (.int .i64 0) 1 8 Try.underlying24 hi hz0 hz1 hz2 rfl (by decide) (.slice Ao k co) k _ hO4 _ (some ⟨w3.heap.size, 0, none⟩) 1 1 [.int .i64 loc] (reads_new w3 [.int .i64 loc] 3 1 1 rfl) (by simp [Value.oneCell']) (by unfold maxLen; omega) (by omega) (by show _ ≤ (w3.alloc _).heap.size; rw [World.size_alloc]; omega)
        obtain ⟨A5, c5, rfl⟩ := own_slice hO5
        have hB5 := hB4.grown hg5 (fun h => own_off hO4 (by omega) h.symm)
        have hM5 := hM4.kept hg5 (fun h => own_off hO4 (by omega) h.symm)
        have hb5 := hb4.grown hg5 hb4.size (fun g hg => by have := (hO4.lt g hg).1; omega)
        have hR5 := own_grown hR4 hg5 (fun g hg => own_kinds hR4 hO4 (by decide) hg)
        have hB6 : Blk (w5.setCell ⟨w1.heap.size + 1, 2, none⟩ (.slice A5 (k + 1) c5)) (w1.heap.size + 1) 152 #[.slice A n c, .map (some w1.heap.size), .slice A5 (k + 1) c5] := by simpa using hB5.set_ 2 (.slice A5 (k + 1) c5)
        have hM6 := hM5.setCell (a := ⟨w1.heap.size + 1, 2, none⟩) (by dsimp only; omega) (.slice A5 (k + 1) c5)
        have hb6 := hb5.setCell (p := ⟨w1.heap.size + 1, 2, none⟩) (by dsimp only; omega) (.slice A5 (k + 1) c5)
        have hO6 := own_apart hO5 (p := ⟨w1.heap.size + 1, 2, none⟩) (own_off hO5 (by dsimp only; omega)) (.slice A5 (k + 1) c5)
        have hR6 := own_apart hR5 (p := ⟨w1.heap.size + 1, 2, none⟩) (own_off hR5 (by dsimp only; omega)) (.slice A5 (k + 1) c5)
        have q0 := hB3.cell 0
        have q2 := hB3.cell 2
        have q1 := hB3.cell 1
        have u0 := hS3.cell 0
        have u1 := hS3.cell 1
        have u2 := hS3.cell 2
        have u3 := hS3.cell 3
        have u4 := hS3.cell 4
        have p2 := hB5.cell 2
        have pf := hB5.frozen 2
        have q2' := (hB3.alloc (.cells #[.int .i64 loc] 3)).cell 2
        have u0' := (hS3.alloc (.cells #[.int .i64 loc] 3)).cell 0
        simp only [List.getElem?_toArray, List.getElem?_cons_zero, List.getElem?_cons_succ] at q0 q1 q2 u0 u1 u2 u3 u4 p2 q2' u0'
        have HM6 := Lib.hid hM6
        have HO6 : Hid ((w5.setCell ⟨w1.heap.size + 1, 2, none⟩ (.slice A5 (k + 1) c5)).ownsRow (w1.heap.size + 1 + 1) 3 1 (.slice A5 (k + 1) c5) (k + 1) ((begsL (S.take (j + 1))).map (.int .i64))) := by
          rw [HQ.out, if_neg (by simp), List.map_append]
          exact hO6
        have HR6 := Lib.hid hR6
        have HRun := Lib.hid hrun
        clear hM hb hM3 hB3 hS3 hb3 hO3 hR3 hB4 hM4 hb4 hO4 hR4 hB5 hM5 hb5 hR5 hM6 hO6 hO5 hR6 hrun hg5 hg3 hMx hbx HOx HRx
        go_wp2
        go_region_held3 (fun w' => w'.cell? ⟨w1.heap.size + 1, 1, none⟩ = some (.map (some w1.heap.size)) ∧ w'.cell? ⟨wr.heap.size, 0, none⟩ = some (.int .i64 loc) ∧ w'.cell? ⟨wr.heap.size, 1, none⟩ = some (.int .i64 r) ∧ w'.cell? ⟨wr.heap.size, 2, none⟩ = some (.int .i64 b) ∧ w'.cell? ⟨wr.heap.size, 3, none⟩ = some (.int .i64 t) ∧ w'.cell? ⟨wr.heap.size, 4, none⟩ = some (.bool false)) (go_keep) (fail)
        go_wp2
        go_region_law (refine step_append_run rfl (.tmp 52) (.tmp 55) 24 24 rfl (.slice Ao k co) (.slice (some ⟨w3.heap.size, 0, none⟩) 1 1) (by simp [Act.eval]) (by simp [Act.eval]) HRun.out ?_)
        all_goals
          try simp only [Act.put, Act.eval, List.getElem_toArray, List.getElem_cons_zero, List.getElem_cons_succ, List.setIfInBounds_toArray, List.set_cons_zero, List.set_cons_succ]
          clear q0 q1 q2 u0 u1 u2 u3 u4 p2 pf q2' u0'
          go_wp2
          go_roundw
          case rel => exact ⟨j + 1, k + 1, c5, A5, hj1, by go_num, by omega, hB6, by rw [HP.out]; exact HM6.out, HO6, hb6, HR6⟩
          case measure => simp [intOf]; omega
      · have HP : Hid (headF (S.take (j + 1)) = headF (S.take j)) := by show _ = _; rw [HT.out]; exact headF_free rfl
        have HQ : Hid (begsL (S.take (j + 1)) = begsL (S.take j)) := by show _ = _; rw [HT.out, begsL_snoc]; rfl
        clear hM hb
        go_wp2
        go_roundw
        case rel => exact ⟨j + 1, k, co, Ao, hj1, by go_num, by omega, hBx, by rw [HP.out]; exact hMx.mono (by omega), by rw [HQ.out]; exact HOx, hbx, HRx⟩
        case measure => simp [intOf]; omega
    · have hjm : j = m := by omega
      have hM : MapIs wr Try.prog 3 .i64 w1.heap.size 300 (headF S) := by
        rw [hjm, List.take_of_length_le (by rw [HM.out]; exact Nat.le_refl _)] at hM
        exact hM.mono (by omega)
      have HI : Hid (HeapIs wr w.heap.size (w1.heap.size + 1) A n c S) := by
        refine ⟨w1.heap.size, Ao, k, co, hBh, by omega, by omega, hM, ?_⟩
        have := HO.out
        rw [hjm, List.take_of_length_le (by rw [HM.out]; exact Nat.le_refl _)] at this
        exact own_mono this (by omega)
      obtain ⟨wo, hwo⟩ : ∃ x, x = wr := ⟨wr, rfl⟩
      subst hwo
      have hr2' := hr2.below hb
      have hwl := hM.lt
      have g0 : decide (j < m) = false := decide_eq_false hlt
      have hgh := hBh.lt
      clear HO HRS hjm hb02 hMz
      go_wp2
      go_loopw [62] (fun i wr => ∃ j : Nat, j ≤ n2 ∧ i = .int .i64 j ∧ Hid (∀ x ∈ f.take j, x ∈ begsL S) ∧ Below wo.heap.size wo wr) (fun i _ => n2 - (intOf i).toNat)
      case atStart => exact ⟨0, Nat.zero_le _, rfl, by intro x hx; simp at hx, Below.refl _ _⟩
      case round =>
        obtain ⟨j2, hj2, rfl, HA, hb2⟩ := hrel
        have hb02 := below_step hb hb2
        have hMr := hM.below hb2 hwl
        have hBr := hBh.below hb2 hgh
        have k1 := hBr.cell 1
        simp only [List.getElem?_toArray, List.getElem?_cons_zero, List.getElem?_cons_succ] at k1
        by_cases hlt2 : j2 < n2
        · obtain ⟨ad, x, rfl, had, hx, cx⟩ := (hr2.below hb02).num hlt2
          have hlook := hMr.look_ok (k := 3) (t := 150) Try.underlying3 Try.underlying150 (zero_head _) (HX.out x (List.mem_of_getElem? hx))
          have hj3 : j2 + 1 ≤ n2 := hlt2
          by_cases hm : x ∈ begsL S
          · obtain ⟨s, hs⟩ := begsL_iff.1 hm
            have e1 : headF S x = some (headC s) := by unfold headF; rw [hs]; rfl
            rw [e1] at hlook
            obtain ⟨loc, r, b, t, fr⟩ := s
            have hlook2 : (Instr.lookup 150 (.map (some w1.heap.size)) (.int .i64 x) true).run Try.prog wr = .ok (.tuple #[.agg #[.int .i64 r, .int .i64 b, .int .i64 t, .bool fr], .bool true]) wr := hlook
            clear hlook
            have HA2 : Hid (∀ x ∈ f.take (j2 + 1), x ∈ begsL S) := by
              intro y hy
              obtain ⟨q1, q2⟩ := List.getElem?_eq_some_iff.1 hx
              rw [List.take_succ_eq_append_getElem q1, List.mem_append] at hy
              rcases hy with hy | hy
              · exact HA.out y hy
              · simp only [List.mem_cons, List.not_mem_nil, or_false] at hy
                rw [hy, q2]; exact hm
            have hbx := hb2.alloc hb2.size (.cells #[.int .i64 r, .int .i64 b, .int .i64 t, .bool fr] 110)
            clear hx hm hs e1 HA
            go_wp2
            go_roundw
            case rel => exact ⟨j2 + 1, hj3, by go_num, HA2, hbx⟩
            case measure => simp [intOf]; omega
          · have e1 : headF S x = none := by
              cases hh : headF S x with
              | none => rfl
              | some v => exact absurd (headF_isSome.1 (by rw [hh]; rfl)) hm
            rw [e1] at hlook
            have hlook2 : (Instr.lookup 150 (.map (some w1.heap.size)) (.int .i64 x) true).run Try.prog wr = .ok (.tuple #[.agg #[.int .i64 0, .int .i64 0, .int .i64 0, .bool false], .bool false]) wr := hlook
            clear hlook
            have hex : ∃ x ∈ f, x ∉ begsL S := ⟨x, List.mem_of_getElem? hx, hm⟩
            have HEx := Lib.hid hex
            have hbx := hb02.alloc hb02.size (.cells #[.int .i64 0, .int .i64 0, .int .i64 0, .bool false] 110)
            clear hx hm e1 HA hex
            go_wp2
            go_ret2
            exact ⟨hbx, .inr ⟨HEx.out, rfl⟩⟩
        · have HAll : Hid (∀ x ∈ f, x ∈ begsL S) := by
            have := HA.out
            rw [List.take_of_length_le (by rw [HFL.out]; omega)] at this
            exact this
          have g2 : decide (j2 < n2) = false := decide_eq_false hlt2
          clear HA
          go_wp2
          go_ret2
          exact ⟨hb02, .inl ⟨HAll.out, _, rfl, HI.out.below hb2⟩⟩
end Go.Proofs.Ytbmkbnalembbjaa
