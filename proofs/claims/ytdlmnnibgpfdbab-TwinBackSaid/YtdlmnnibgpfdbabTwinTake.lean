/-
  package twin: Take.
-/
import Derived.Test.YtdlmnnibgpfdbabTwinTakeLaw
import Derived.Test.YtdlmnnibgpfdbabTwinGapsFn
import Derived.Test.YtdlmnnibgpfdbabInsertRoom
import Derived.BigQuiet
import Derived.Deep.RegionHeld3
import Derived.StillTailTactics
import Derived.IntWalk
namespace Go.Proofs.Ytdlmnnibgpfdbab
open Go.RowKit

/-- An answer with an error. -/
def takeNo (e : Int) : Value := .tuple #[.agg #[.int .i64 0, .slice none 0 0], .agg #[.int .i64 0, .int .i64 0], .int .i64 e]

set_option maxRecDepth 100000 in
set_option maxHeartbeats 1000000 in
theorem take_bad (o : Int) (A : Option Addr) (n c : Nat) (l : List Rm) (N : Int) (w : World) (hr : Reads w w.heap.size 3 A n (roomsC l)) (hn : n ≤ 9223372036854775807) (hE : twinE o l ≠ 0) :
    Calls Try.prog 12 #[.agg #[.int .i64 o, .slice A n c], .int .i64 N] w fun e w' => e = .returned (takeNo (twinE o l)) ∧ Below w.heap.size w w' := by
  have hb0 := ((below_new w (.cells #[.int .i64 o, .slice A n c] 24)).alloc (by simp) (.cells #[.int .i64 0, .slice none 0 0] 24)).alloc (by simp; omega) (.cells #[.int .i64 0, .int .i64 0] 35)
  have B0 := ((Blk.new w 24 #[.int .i64 o, .slice A n c]).alloc (.cells #[.int .i64 0, .slice none 0 0] 24)).alloc (.cells #[.int .i64 0, .int .i64 0] 35)
  have B1 := (Blk.new (w.alloc (.cells #[.int .i64 o, .slice A n c] 24)) 24 #[.int .i64 0, .slice none 0 0]).alloc (.cells #[.int .i64 0, .int .i64 0] 35)
  have B2 := Blk.new ((w.alloc (.cells #[.int .i64 o, .slice A n c] 24)).alloc (.cells #[.int .i64 0, .slice none 0 0] 24)) 35 #[.int .i64 0, .int .i64 0]
  have H1 := Lib.hid (fun w hr => twinGaps_bad o A n c l w hr hn hE)
  have hE1 : (twinE o l != 0) = true := by simpa using hE
  generalize twinE o l = E at *
  clear hE
  unfold takeNo
  go_enter Try.func12, Try.ntmps12
  go_wp2_with fail
  refine (H1.out _ ((hr.below hb0).more hb0.size)).mono ?_
  rintro e w1 ⟨rfl, hb1⟩
  have C1 := B1.below hb1 B1.lt
  have C2 := B2.below hb1 B2.lt
  simp only [World.size_alloc] at C1 C2
  have k0 := C1.cell 0
  have k1 := C1.cell 1
  have k2 := C2.cell 0
  have k3 := C2.cell 1
  simp only [List.getElem?_toArray, List.getElem?_cons_zero, List.getElem?_cons_succ] at k0 k1 k2 k3
  have f0 := C1.frozen 0
  have f1 := C1.frozen 1
  have f2 := C2.frozen 0
  have f3 := C2.frozen 1
  have hb2 := below_step hb0 hb1
  clear B0 B1 B2
  go_wp2
  refine bodyPost_ret (v := .tuple #[.agg #[.int .i64 0, .slice none 0 0], .agg #[.int .i64 0, .int .i64 0], .int .i64 E]) ?_ rfl ⟨rfl, ?_⟩
  · simp only [results, Try.results12]
    go_simp
  · iterate 4 refine Below.setCell ?_ (by dsimp only; omega) _
    exact hb2

set_option maxRecDepth 100000 in
set_option maxHeartbeats 1000000 in
theorem take_range (K : Nat) (A : Option Addr) (n c : Nat) (l : List Rm) (N : Int) (w : World) (hr : Reads w w.heap.size 3 A n (roomsC l)) (hK : K ≤ 8) (hC : Chain K 0 l) (hN : N < 1 ∨ ((2 ^ K : Nat) : Int) < N) :
    Calls Try.prog 12 #[.agg #[.int .i64 K, .slice A n c], .int .i64 N] w fun e w' => e = .returned (takeNo 4) ∧ Below w.heap.size w w' := by
  have hb0 := ((below_new w (.cells #[.int .i64 K, .slice A n c] 24)).alloc (by simp) (.cells #[.int .i64 0, .slice none 0 0] 24)).alloc (by simp; omega) (.cells #[.int .i64 0, .int .i64 0] 35)
  have B0 := ((Blk.new w 24 #[.int .i64 K, .slice A n c]).alloc (.cells #[.int .i64 0, .slice none 0 0] 24)).alloc (.cells #[.int .i64 0, .int .i64 0] 35)
  have B1 := (Blk.new (w.alloc (.cells #[.int .i64 K, .slice A n c] 24)) 24 #[.int .i64 0, .slice none 0 0]).alloc (.cells #[.int .i64 0, .int .i64 0] 35)
  have B2 := Blk.new ((w.alloc (.cells #[.int .i64 K, .slice A n c] 24)).alloc (.cells #[.int .i64 0, .slice none 0 0] 24)) 35 #[.int .i64 0, .int .i64 0]
  have H1 := Lib.hid (fun w hr => twinGaps_ok K A n c l w hr hK hC)
  have h256 : 2 ^ K ≤ 256 := Nat.pow_le_pow_right (by decide) hK
  obtain ⟨all, ha⟩ : ∃ all : Nat, all = 2 ^ K := ⟨2 ^ K, rfl⟩
  have hp2 : ((2 : Int) ^ K) = (all : Int) := by rw [ha]; simp
  rw [← ha] at h256 hN
  have wa : IntKind.i64.wrap ((2 : Int) ^ K) = (all : Int) := by rw [hp2]; exact IntWalk.i64_in _ (by omega)
  clear hp2 ha hC
  unfold takeNo
  go_enter Try.func12, Try.ntmps12
  go_wp2_with fail
  refine (H1.out _ ((hr.below hb0).more hb0.size)).mono ?_
  rintro e w1 ⟨A2, q, c2, rfl, hown, hb1⟩
  have C0 := B0.below hb1 B0.lt
  have C1 := B1.below hb1 B1.lt
  have C2 := B2.below hb1 B2.lt
  simp only [World.size_alloc] at C1 C2
  have m0 := C0.cell 0
  have m1 := C0.cell 1
  have k0 := C1.cell 0
  have k1 := C1.cell 1
  have k2 := C2.cell 0
  have k3 := C2.cell 1
  simp only [List.getElem?_toArray, List.getElem?_cons_zero, List.getElem?_cons_succ] at m0 m1 k0 k1 k2 k3
  have f0 := C1.frozen 0
  have f1 := C1.frozen 1
  have f2 := C2.frozen 0
  have f3 := C2.frozen 1
  have hb2 := below_step hb0 hb1
  clear B0 B1 B2 hown hr
  by_cases h1 : N < 1
  · go_wp2
    refine bodyPost_ret (v := .tuple #[.agg #[.int .i64 0, .slice none 0 0], .agg #[.int .i64 0, .int .i64 0], .int .i64 4]) ?_ rfl ⟨rfl, ?_⟩
    · simp only [results, Try.results12]
      go_simp
    · iterate 4 refine Below.setCell ?_ (by dsimp only; omega) _
      exact hb2
  · have g1 : decide (N < 1) = false := decide_eq_false h1
    have h2 : (all : Int) < N := by omega
    go_wp2
    refine bodyPost_ret (v := .tuple #[.agg #[.int .i64 0, .slice none 0 0], .agg #[.int .i64 0, .int .i64 0], .int .i64 4]) ?_ rfl ⟨rfl, ?_⟩
    · simp only [results, Try.results12]
      go_simp
    · iterate 4 refine Below.setCell ?_ (by dsimp only; omega) _
      exact hb2

theorem roomC_one (r : Rm) : ∀ u ∈ roomC r, u.oneCell' = true := by
  intro u hu
  simp only [roomC, List.mem_cons, List.not_mem_nil, or_false] at hu
  rcases hu with rfl | rfl | rfl <;> rfl
def Picked (l : List Rm) (K u : Nat) (X L : Int) : Prop := ∃ x j : Nat, X = x ∧ L = ((2 ^ j : Nat) : Int) ∧ FreeP l K x j ∧ u ≤ 2 ^ j

set_option maxRecDepth 100000 in
set_option maxHeartbeats 2000000 in
theorem take_ok (K : Nat) (A : Option Addr) (n c : Nat) (l : List Rm) (u : Nat) (w : World) (hr : Reads w w.heap.size 3 A n (roomsC l)) (hK : K ≤ 8) (hC : Chain K 0 l) (hu : 1 ≤ u) (hu2 : u ≤ 2 ^ K) :
    Calls Try.prog 12 #[.agg #[.int .i64 K, .slice A n c], .int .i64 u] w fun e w' => (e = .returned (takeNo 7) ∨ ∃ A' c' a j i, FreeP l K a j ∧ u ≤ 2 ^ j ∧ 2 ^ j < 2 * u ∧ AtIx l a i ∧
      e = .returned (.tuple #[.agg #[.int .i64 K, .slice A' (n + 1) c'], .agg #[.int .i64 a, .int .i64 ((2 ^ j : Nat) : Int)], .int .i64 0]) ∧ w'.ownsRow w.heap.size 33 3 (.slice A' (n + 1) c') (n + 1) (roomsC (insRm l i ⟨a, ((2 ^ j : Nat) : Int), u⟩))) ∧ Below w.heap.size w w' := by
  have hb0 := ((below_new w (.cells #[.int .i64 K, .slice A n c] 24)).alloc (by simp) (.cells #[.int .i64 0, .slice none 0 0] 24)).alloc (by simp; omega) (.cells #[.int .i64 0, .int .i64 0] 35)
  have B0 := ((Blk.new w 24 #[.int .i64 K, .slice A n c]).alloc (.cells #[.int .i64 0, .slice none 0 0] 24)).alloc (.cells #[.int .i64 0, .int .i64 0] 35)
  have B1 := (Blk.new (w.alloc (.cells #[.int .i64 K, .slice A n c] 24)) 24 #[.int .i64 0, .slice none 0 0]).alloc (.cells #[.int .i64 0, .int .i64 0] 35)
  have B2 := Blk.new ((w.alloc (.cells #[.int .i64 K, .slice A n c] 24)).alloc (.cells #[.int .i64 0, .slice none 0 0] 24)) 35 #[.int .i64 0, .int .i64 0]
  have H1 := Lib.hid (fun w hr => twinGaps_ok K A n c l w hr hK hC)
  have hlen := hC.len (Nat.zero_le _)
  have hll : l.length = n := by have := hr.1; rw [roomsC_length] at this; omega
  have h256 : 2 ^ K ≤ 256 := Nat.pow_le_pow_right (by decide) hK
  obtain ⟨all, ha⟩ : ∃ all : Nat, all = 2 ^ K := ⟨2 ^ K, rfl⟩
  have hp2 : ((2 : Int) ^ K) = (all : Int) := by rw [ha]; simp
  have hn : n ≤ 256 := by omega
  have hmem := Lib.hid (fun g hg => FreeP.of_gap (l := l) (K := K) (g := g) hg)
  have hgl := tgapsL_length l K 0
  have HM := Lib.hid hC.mem
  have HL := Lib.hid hll
  have HCl := Lib.hid (fun w hr => clone_room A n c _ (roomsC l) w hr (Nat.le_refl _) (roomsC_one l) (by omega))
  rw [← ha] at h256 hu2 hgl
  have wa : IntKind.i64.wrap ((2 : Int) ^ K) = (all : Int) := by rw [hp2]; exact IntWalk.i64_in _ (by omega)
  have HA := Lib.hid ha
  generalize tgapsL l K 0 = G at *
  clear hp2 ha hC hll hlen
  unfold takeNo
  go_enter Try.func12, Try.ntmps12
  go_wp2_with fail
  refine (H1.out _ ((hr.below hb0).more hb0.size)).mono ?_
  rintro e w1 ⟨A2, q, c2, rfl, hown, hb1⟩
  have hql : G.length = q := by have := hown.1; rw [runsC_length] at this; omega
  have hq : q ≤ 256 := by omega
  have hrl := Reads.of_own hown
  have C0 := B0.below hb1 B0.lt
  have C1 := B1.below hb1 B1.lt
  have C2 := B2.below hb1 B2.lt
  simp only [World.size_alloc] at C1 C2
  have m0 := C0.cell 0
  have m1 := C0.cell 1
  simp only [List.getElem?_toArray, List.getElem?_cons_zero, List.getElem?_cons_succ] at m0 m1
  have hb2 := below_step hb0 hb1
  have hs1 : w.heap.size + 1 + 1 < w1.heap.size := C2.lt
  clear B0 B1 B2 hown hql hgl hb0 hb1
  have g1 : decide (u < 1) = false := decide_eq_false (by omega)
  have g2 : decide (all < u) = false := decide_eq_false (by omega)
  have g3 : decide ((u : Int) < 1) = false := decide_eq_false (by omega)
  go_wp2
  go_loopw [38] (fun i wr => ∃ (j : Nat) (X L : Int), j ≤ q ∧ i = .int .i64 j ∧ 0 ≤ L ∧ L ≤ 256 ∧ Blk wr w1.heap.size 35 #[.int .i64 X, .int .i64 L] ∧ Hid (L = 0 ∨ Picked l K u X L) ∧ Below w1.heap.size w1 wr) (fun i _ => q - (intOf i).toNat)
  case atStart => exact ⟨0, 0, 0, Nat.zero_le _, rfl, by decide, by decide, Blk.new _ _ _, .inl rfl, below_new _ _⟩
  case round =>
    obtain ⟨j, X, L, hj, rfl, hL0, hL1, D, HP, hb⟩ := hrel
    by_cases hlt : j < q
    · obtain ⟨ad, g, rfl, had, hx, cx0, cx1⟩ := (hrl.below hb).run hlt
      obtain ⟨x, jj, rfl, hF⟩ := hmem.out g (List.mem_of_getElem? hx)
      obtain ⟨d, hd⟩ : ∃ d, d = 2 ^ jj := ⟨_, rfl⟩
      have hd2 : d ≤ 256 := by have := hF.2.1; rw [← HA.out, ← hd] at this; omega
      dsimp only at cx1 cx0
      rw [← hd] at cx1
      have HP2 : Hid (u ≤ d → Picked l K u (x : Int) (d : Int)) := fun h => ⟨x, jj, rfl, by rw [hd], hF, by omega⟩
      have C := Blk.new wr 35 #[.int .i64 x, .int .i64 d]
      have D' := D.alloc (.cells #[.int .i64 x, .int .i64 d] 35)
      have b0 := C.cell 0
      have b1 := C.cell 1
      have b2 := D'.cell 0
      have b3 := D'.cell 1
      have b4 := D'.frozen 0
      have b5 := D'.frozen 1
      simp only [List.getElem?_toArray, List.getElem?_cons_zero, List.getElem?_cons_succ] at b0 b1 b2 b3
      have hbx := hb.alloc hb.size (.cells #[.int .i64 x, .int .i64 d] 35)
      have hd0 : (0 : Int) ≤ d := by omega
      have hd3 : (d : Int) ≤ 256 := by omega
      have hj1 : j + 1 ≤ q := hlt
      have E' : Blk (((wr.alloc (.cells #[.int .i64 x, .int .i64 d] 35)).setCell ⟨w1.heap.size, 0, none⟩ (.int .i64 x)).setCell ⟨w1.heap.size, 1, none⟩ (.int .i64 d)) w1.heap.size 35 #[.int .i64 x, .int .i64 d] := by simpa using (D'.set_ 0 (.int .i64 x)).set_ 1 (.int .i64 d)
      have hby := (hbx.setCell (p := ⟨w1.heap.size, 0, none⟩) (Nat.le_refl _) (.int .i64 x)).setCell (p := ⟨w1.heap.size, 1, none⟩) (Nat.le_refl _) (.int .i64 d)
      clear C D hd hF hx
      by_cases h1 : u ≤ d
      · have HP3 := Lib.hid (Or.inr (HP2.out h1) : (d : Int) = 0 ∨ Picked l K u (x : Int) (d : Int))
        by_cases h2 : L = 0
        · subst h2
          clear HP HP2
          go_wp2
          go_roundw
          case rel => exact ⟨j + 1, x, d, hj1, by go_num, hd0, hd3, E', HP3, hby⟩
          case measure => simp [intOf]; omega
        · have h3 : (L == 0) = false := by simpa using h2
          clear HP2
          by_cases h4 : (d : Int) < L
          · clear HP
            go_wp2
            go_roundw
            case rel => exact ⟨j + 1, x, d, hj1, by go_num, hd0, hd3, E', HP3, hby⟩
            case measure => simp [intOf]; omega
          · have h5 : decide ((d : Int) < L) = false := decide_eq_false h4
            clear HP3
            go_wp2
            go_roundw
            case rel => exact ⟨j + 1, X, L, hj1, by go_num, hL0, hL1, D', HP, hbx⟩
            case measure => simp [intOf]; omega
      · have h5 : decide (u ≤ d) = false := decide_eq_false h1
        clear HP2
        go_wp2
        go_roundw
        case rel => exact ⟨j + 1, X, L, hj1, by go_num, hL0, hL1, D', HP, hbx⟩
        case measure => simp [intOf]; omega
    · obtain rfl : j = q := by omega
      obtain ⟨wo, hwo⟩ : ∃ x, x = wr := ⟨wr, rfl⟩
      subst hwo
      have C0 := C0.below hb C0.lt
      have C1 := C1.below hb C1.lt
      have C2 := C2.below hb C2.lt
      have d0 := D.cell 0
      have d1 := D.cell 1
      simp only [List.getElem?_toArray, List.getElem?_cons_zero, List.getElem?_cons_succ] at d0 d1
      by_cases h1 : L = 0
      · subst h1
        have k0 := C1.cell 0
        have k1 := C1.cell 1
        have k2 := C2.cell 0
        have k3 := C2.cell 1
        simp only [List.getElem?_toArray, List.getElem?_cons_zero, List.getElem?_cons_succ] at k0 k1 k2 k3
        have f0 := C1.frozen 0
        have f1 := C1.frozen 1
        have f2 := C2.frozen 0
        have f3 := C2.frozen 1
        have hb3 := below_step hb2 hb
        clear HP m0 m1 hb
        go_wp2
        refine bodyPost_ret (v := .tuple #[.agg #[.int .i64 0, .slice none 0 0], .agg #[.int .i64 0, .int .i64 0], .int .i64 7]) ?_ rfl ⟨.inl rfl, ?_⟩
        · simp only [results, Try.results12]
          go_simp
        · iterate 4 refine Below.setCell ?_ (by dsimp only; omega) _
          exact hb3
      · have h2 : (L == 0) = false := by simpa using h1
        have HP : Hid (Picked l K u X L) := HP.out.resolve_left h1
        obtain ⟨P, hP⟩ : ∃ P : Nat, L = P := ⟨L.toNat, by omega⟩
        subst hP
        have hwo1 := hb.size
        clear hj hlt h1 hL0
        go_wp2
        go_loopw [66] (fun s wr => ∃ (P : Nat), P ≤ 256 ∧ Blk wr w1.heap.size 35 #[.int .i64 X, .int .i64 P] ∧ Hid (Picked l K u X P) ∧ Below w1.heap.size wo wr) (fun _ wr => match wr.cell? ⟨w1.heap.size, 1, none⟩ with | some v => (intOf v).toNat | none => 0)
        case atStart => exact ⟨P, by omega, D, HP, Below.refl _ _⟩
        case round =>
          obtain ⟨P, hP1, D, HP, hbr⟩ := hrel
          have d0 := D.cell 0
          have d1 := D.cell 1
          simp only [List.getElem?_toArray, List.getElem?_cons_zero, List.getElem?_cons_succ] at d0 d1
          have f1 := D.frozen 1
          obtain ⟨H, hH⟩ : ∃ H, H = P / 2 := ⟨_, rfl⟩
          have wH : (P : Int) / 2 = (H : Int) := by omega
          by_cases hlt : u ≤ H
          · have HP2 : Hid (Picked l K u X (H : Int)) := by
              obtain ⟨x, jj, e1, e2, e3, e4⟩ := HP.out
              cases jj with
              | zero => exfalso; simp at e2; omega
              | succ jj =>
                have hs : 2 ^ (jj + 1) = 2 * 2 ^ jj := by rw [Nat.pow_succ]; omega
                have e5 : P = 2 ^ (jj + 1) := by exact_mod_cast e2
                rw [hs] at e5
                exact ⟨x, jj, e1, by rw [hH, e5]; congr 1; omega, e3.half, by omega⟩
            have E' : Blk (wr.setCell ⟨w1.heap.size, 1, none⟩ (.int .i64 H)) w1.heap.size 35 #[.int .i64 X, .int .i64 H] := by simpa using D.set_ 1 (.int .i64 H)
            have hbx := hbr.setCell (p := ⟨w1.heap.size, 1, none⟩) (Nat.le_refl _) (.int .i64 H)
            have hHP : H < P := by omega
            have hH1 : H ≤ 256 := by omega
            clear hH HP
            go_wp2
            go_roundw
            case rel => exact ⟨H, hH1, E', HP2, hbx⟩
            case measure =>
              have e1 := E'.cell 1
              simp only [List.getElem?_toArray, List.getElem?_cons_zero, List.getElem?_cons_succ] at e1
              simp only [e1, d1]
              simp [intOf]
              omega
          · have g4 : decide (u ≤ H) = false := decide_eq_false hlt
            obtain ⟨a, jj, rfl, e2, hF, hu3⟩ := HP.out
            have e3 : P = 2 ^ jj := by exact_mod_cast e2
            have hu4 : P < 2 * u := by omega
            have hba : Below w1.heap.size w1 wr := hb.trans (hbr.mono (Nat.le_refl _))
            obtain ⟨wp, hwp⟩ : ∃ x, x = wr := ⟨wr, rfl⟩
            subst hwp
            have C0 := C0.below hbr (by omega)
            have C1 := C1.below hbr (by omega)
            have C2 := C2.below hbr (by omega)
            have hr0 := (hr.below (below_step hb2 hba)).more (below_step hb2 hba).size
            have m0 := C0.cell 0
            have m1 := C0.cell 1
            simp only [List.getElem?_toArray, List.getElem?_cons_zero, List.getElem?_cons_succ] at m0 m1
            have HF := Lib.hid hF
            have HH := Lib.hid e3
            have HU := Lib.hid hu3
            clear e2 HP hF e3 hu3 hH hbr hb
            go_wp2
            clear wH hlt d1
            go_loopw [12] (fun i wr => ∃ k : Nat, k ≤ n ∧ i = .int .i64 k ∧ Hid (∀ r ∈ l.take k, r.loc < (a : Int)) ∧ ∃ q, wr = wp.drewN q) (fun i _ => n - (intOf i).toNat)
            case atStart => exact ⟨0, Nat.zero_le _, rfl, by intro r hr; simp at hr, 0, rfl⟩
            case round =>
              obtain ⟨k, hk, rfl, HT, z, rfl⟩ := hrel
              by_cases hlt : k < n
              · obtain ⟨ad, r, rfl, had, hx, cx0, cx1, cx2⟩ := hr0.room hlt
                obtain ⟨k', b, v, hk', rfl, h1, -⟩ := HM.out r (List.mem_of_getElem? hx)
                dsimp only at cx0
                by_cases h2 : b < a
                · have HT2 : Hid (∀ r ∈ l.take (k + 1), r.loc < (a : Int)) := by
                    intro r hr
                    obtain ⟨q1, q2⟩ := List.getElem?_eq_some_iff.1 hx
                    rw [List.take_succ_eq_append_getElem q1, List.mem_append] at hr
                    rcases hr with hr | hr
                    · exact HT.out r hr
                    · simp only [List.mem_cons, List.not_mem_nil, or_false] at hr
                      subst hr
                      rw [q2]
                      dsimp only
                      omega
                  have hk1 : k + 1 ≤ n := hlt
                  clear hx h1 HT
                  go_wp2
                  go_quiet (fail)
                  go_wp2
                  go_roundw
                  case rel => exact ⟨k + 1, hk1, by go_num, HT2, _, rfl⟩
                  case measure => simp [intOf]; omega
                · have g5 : decide (b < a) = false := decide_eq_false h2
                  have HI : Hid (AtIx l a k) := by
                    refine ⟨by rw [HL.out]; omega, HT.out, ?_⟩
                    intro r hr
                    obtain rfl := Option.some.inj (hx.symm.trans hr)
                    dsimp only
                    omega
                  clear hx h1 HT hk
                  go_wp2
                  go_quiet (fail)
                  go_wp2
                  have C0 := ((C0.drewN z).drewN nq)
                  have C1 := ((C1.drewN z).drewN nq)
                  have C2 := ((C2.drewN z).drewN nq)
                  have D := ((D.drewN z).drewN nq)
                  have hbz := (below_drewN (below_drewN (below_step hb2 hba) z) nq)
                  generalize (wp.drewN z).drewN nq = wz at *
                  have hn9 : ¬ w1.heap.size = w.heap.size := by omega
                  have hn8 : ¬ w.heap.size = w1.heap.size := by omega
                  have hbv := (hbz.alloc hbz.size (.cells #[.int .i64 a, .int .i64 P, .int .i64 u] 33)).drew
                  have BV := (Blk.new wz 33 #[.int .i64 a, .int .i64 P, .int .i64 u]).drew
                  have CV0 := (C0.alloc (.cells #[.int .i64 a, .int .i64 P, .int .i64 u] 33)).drew
                  have CV1 := (C1.alloc (.cells #[.int .i64 a, .int .i64 P, .int .i64 u] 33)).drew
                  have CV2 := (C2.alloc (.cells #[.int .i64 a, .int .i64 P, .int .i64 u] 33)).drew
                  have DV := (D.alloc (.cells #[.int .i64 a, .int .i64 P, .int .i64 u] 33)).drew
                  have v0 : (wz.alloc (.cells #[.int .i64 a, .int .i64 P, .int .i64 u] 33)).cell? ⟨w1.heap.size, 0, none⟩ = _ := DV.cell 0
                  have v1 : (wz.alloc (.cells #[.int .i64 a, .int .i64 P, .int .i64 u] 33)).cell? ⟨w1.heap.size, 1, none⟩ = _ := DV.cell 1
                  have v2 : (wz.alloc (.cells #[.int .i64 a, .int .i64 P, .int .i64 u] 33)).cell? ⟨w.heap.size, 1, none⟩ = _ := CV0.cell 1
                  have hsv : (wz.alloc (.cells #[.int .i64 a, .int .i64 P, .int .i64 u] 33)).drew.heap.size = wz.heap.size + 1 := World.size_alloc _ _
                  have hbz := hbz.drew
                  have hdr : wz.drew.heap.size = wz.heap.size := rfl
                  have s0 : w.heap.size < wz.heap.size := C0.lt
                  have s1 : w.heap.size + 1 < wz.heap.size := C1.lt
                  have s2 : w.heap.size + 1 + 1 < wz.heap.size := C2.lt
                  have s9 : w1.heap.size < wz.heap.size := D.lt
                  have HIns := Lib.hid (fun A' c' gv W h1 h2 (h3 : Blk W gv 33 #[.int .i64 a, .int .i64 P, .int .i64 u]) h4 => insert_room wz.heap.size A' n c' k (roomsC l) gv (roomC ⟨a, (P : Int), u⟩) W h1 h2 (by have := HI.out.1; rw [HL.out] at this; exact this) (by omega) h3 h4 (roomsC_one l) (roomC_one _) rfl)
                  rw [roomsC_ins] at HIns
                  have c0 := C0.cell 0
                  have c1 := C0.cell 1
                  have d0 := D.cell 0
                  have d1 := D.cell 1
                  have f1 := C0.frozen 1
                  simp only [List.getElem?_toArray, List.getElem?_cons_zero, List.getElem?_cons_succ] at c0 c1 d0 d1 v0 v1 v2
                  have C0 := C0.drew
                  have C1 := C1.drew
                  have C2 := C2.drew
                  have D := D.drew
                  clear m0 m1
                  refine wp_region_held_drew (S := fun w' => w'.cell? ⟨w1.heap.size, 0, none⟩ = some (.int .i64 a) ∧ w'.cell? ⟨w1.heap.size, 1, none⟩ = some (.int .i64 P)) (by kernel_rfl) ⟨d0, d1⟩ (fun hHeld => ?_)
                  refine wpAnyH_take (i := 0) (v := .pointer (some ⟨w.heap.size, 1, none⟩)) (List.getElem?_toArray.trans rfl) (by kernel_rfl) (by kernel_rfl) (by kernel_rfl) (fun _ _ _ h => h) (Or.inl ⟨by rfl, fun w _ => by go_simp⟩) hHeld ?_
                  try simp only [Act.put, List.setIfInBounds_toArray, List.set_cons_zero, List.set_cons_succ]
                  refine wpAnyH_take (i := 3) (v := .int .i64 k) (List.getElem?_toArray.trans rfl) (by kernel_rfl) (by kernel_rfl) (by kernel_rfl) (fun _ _ _ h => h) (Or.inl ⟨by rfl, fun w _ => by go_simp⟩) hHeld ?_
                  try simp only [Act.put, List.setIfInBounds_toArray, List.set_cons_zero, List.set_cons_succ]
                  refine wpAnyH_take (i := 4) (v := .pointer (some ⟨w1.heap.size, 0, none⟩)) (List.getElem?_toArray.trans rfl) (by kernel_rfl) (by kernel_rfl) (by kernel_rfl) (fun _ _ _ h => h) (Or.inl ⟨by rfl, fun w _ => by go_simp⟩) hHeld ?_
                  try simp only [Act.put, List.setIfInBounds_toArray, List.set_cons_zero, List.set_cons_succ]
                  refine wpAnyH_take (i := 5) (v := .int .i64 a) (List.getElem?_toArray.trans rfl) (by kernel_rfl) (by kernel_rfl) (by kernel_rfl) (fun _ _ _ h => h) (Or.inl ⟨by rfl, fun w _ => by go_simp⟩) hHeld ?_
                  try simp only [Act.put, List.setIfInBounds_toArray, List.set_cons_zero, List.set_cons_succ]
                  refine wpAnyH_take (i := 6) (v := .pointer (some ⟨w1.heap.size, 1, none⟩)) (List.getElem?_toArray.trans rfl) (by kernel_rfl) (by kernel_rfl) (by kernel_rfl) (fun _ _ _ h => h) (Or.inl ⟨by rfl, fun w _ => by go_simp⟩) hHeld ?_
                  try simp only [Act.put, List.setIfInBounds_toArray, List.set_cons_zero, List.set_cons_succ]
                  refine wpAnyH_take (i := 7) (v := .int .i64 P) (List.getElem?_toArray.trans rfl) (by kernel_rfl) (by kernel_rfl) (by kernel_rfl) (fun _ _ _ h => h) (Or.inl ⟨by rfl, fun w _ => by go_simp⟩) hHeld ?_
                  try simp only [Act.put, List.setIfInBounds_toArray, List.set_cons_zero, List.set_cons_succ]
                  refine wpAnyH_take (i := 8) (v := .int .i64 u) (List.getElem?_toArray.trans rfl) (by kernel_rfl) (by kernel_rfl) (by kernel_rfl) (fun _ _ _ h => h) (Or.inl ⟨by rfl, fun w _ => by go_simp⟩) hHeld ?_
                  try simp only [Act.put, List.setIfInBounds_toArray, List.set_cons_zero, List.set_cons_succ]
                  refine wpAnyH_take (i := 9) (v := .agg #[.int .i64 a, .int .i64 P, .int .i64 u]) (List.getElem?_toArray.trans rfl) (by kernel_rfl) (by kernel_rfl) (by kernel_rfl) (fun _ _ _ h => h) (Or.inl ⟨by rfl, fun w _ => by go_simp⟩) hHeld ?_
                  try simp only [Act.put, List.setIfInBounds_toArray, List.set_cons_zero, List.set_cons_succ]
                  refine wpAnyH_ready (rs := [1, 10]) (by kernel_rfl) (by simp) (AllReadyH.cons (List.getElem?_toArray.trans rfl) (fun K hK => ?_) (AllReadyH.cons (List.getElem?_toArray.trans rfl) (fun K hK => ?_) AllReadyH.nil))
                  · go_simp
                    refine hK.out _ _ (by first | exact ⟨d0, d1⟩ | exact ⟨v0, v1⟩ | go_keep) (fun hHeld => ?_)
                    clear hK K
                    try simp only [Act.put, List.setIfInBounds_toArray, List.set_cons_zero, List.set_cons_succ]
                    refine wpAnyH_ready (rs := [2, 10]) (by kernel_rfl) (by simp) (AllReadyH.cons (List.getElem?_toArray.trans rfl) (fun K hK => ?_) (AllReadyH.cons (List.getElem?_toArray.trans rfl) (fun K hK => ?_) AllReadyH.nil))
                    · skip
                      go_simp
                      go_at_call 31
                      with_reducible refine (HCl.out wz.drew ((hr.below hbz).more hbz.size)).mono ?_; rintro e wA ⟨AC, cC, rfl, hownC, hbA⟩; have C0 := C0.below hbA C0.lt; have C1 := C1.below hbA C1.lt; have C2 := C2.below hbA C2.lt; have D := D.below hbA D.lt; have c0 := C0.cell 0; have c1 := C0.cell 1; have d0 := D.cell 0; have d1 := D.cell 1; have f1 := C0.frozen 1; simp only [List.getElem?_toArray, List.getElem?_cons_zero, List.getElem?_cons_succ] at c0 c1 d0 d1; have hlC := fun g h => (hownC.lt g h).2; have hbz := hbz.trans (hbA.mono hbz.size); have hsA : wz.heap.size ≤ wA.heap.size := (by have := hbA.size; omega); have hownC := own_mono hownC (show wz.heap.size ≤ _ from (by omega))
                      refine hK.out _ _ (by first | exact ⟨d0, d1⟩ | exact ⟨v0, v1⟩ | go_keep) (fun hHeld => ?_)
                      clear hK K
                      try simp only [Act.put, List.setIfInBounds_toArray, List.set_cons_zero, List.set_cons_succ]
                      refine wpAnyH_ready (rs := [10]) (by kernel_rfl) (by simp) (AllReadyH.cons (List.getElem?_toArray.trans rfl) (fun K hK => ?_) AllReadyH.nil)
                      go_simp
                      refine hK.out _ _ (by first | exact ⟨d0, d1⟩ | exact ⟨v0, v1⟩ | go_keep) (fun hHeld => ?_)
                      clear hK K
                      try simp only [Act.put, List.setIfInBounds_toArray, List.set_cons_zero, List.set_cons_succ]
                      refine wpAnyH_ready (rs := [11]) (by kernel_rfl) (by simp) (AllReadyH.cons (List.getElem?_toArray.trans rfl) (fun K hK => ?_) AllReadyH.nil)
                      go_simp
                      go_at_call 30
                      have hsI : wz.heap.size ≤ (wA.alloc (.cells #[.int .i64 a, .int .i64 P, .int .i64 u] 33)).heap.size := (by rw [World.size_alloc]; omega); have hBI := Blk.new wA 33 #[.int .i64 a, .int .i64 P, .int .i64 u]; have hoI := hownC.alloc (.cells #[.int .i64 a, .int .i64 P, .int .i64 u] 33); have hnI : (Value.slice AC n cC).ownBlock ≠ some wA.heap.size := (fun h => Nat.lt_irrefl _ (hlC _ h)); with_reducible refine (HIns.out AC cC wA.heap.size (wA.alloc (.cells #[.int .i64 a, .int .i64 P, .int .i64 u] 33)) hoI hsI hBI hnI).mono ?_; rintro e wI ⟨AI, cI, rfl, hownI, hbI⟩; have C0 := (C0.alloc _).below hbI s0; have C1 := (C1.alloc _).below hbI s1; have C2 := (C2.alloc _).below hbI s2; have D := (D.alloc _).below hbI s9; have c0 := C0.cell 0; have c1 := C0.cell 1; have d0 := D.cell 0; have d1 := D.cell 1; have f1 := C0.frozen 1; simp only [List.getElem?_toArray, List.getElem?_cons_zero, List.getElem?_cons_succ] at c0 c1 d0 d1; have hbz := (hbz.alloc hbz.size (.cells #[.int .i64 a, .int .i64 P, .int .i64 u] 33)).trans (hbI.mono (Nat.le_of_lt s0))
                      refine hK.out _ _ (by first | exact ⟨d0, d1⟩ | exact ⟨v0, v1⟩ | go_keep) (fun hHeld => ?_)
                      clear hK K
                      try simp only [Act.put, List.setIfInBounds_toArray, List.set_cons_zero, List.set_cons_succ]
                      refine wpAnyH_take (i := 12) (v := .pointer (some ⟨w.heap.size, 1, none⟩)) (List.getElem?_toArray.trans rfl) (by kernel_rfl) (by kernel_rfl) (by kernel_rfl) (fun _ _ _ h => h) (Or.inl ⟨by rfl, fun w _ => by go_simp⟩) hHeld ?_
                      try simp only [Act.put, List.setIfInBounds_toArray, List.set_cons_zero, List.set_cons_succ]
                      refine wpAnyH_ready (rs := [13]) (by kernel_rfl) (by simp) (AllReadyH.cons (List.getElem?_toArray.trans rfl) (fun K hK => ?_) AllReadyH.nil)
                      go_simp
                      refine hK.out _ _ (by first | exact ⟨d0, d1⟩ | exact ⟨v0, v1⟩ | go_keep) (fun hHeld => ?_)
                      clear hK K
                      try simp only [Act.put, List.setIfInBounds_toArray, List.set_cons_zero, List.set_cons_succ]
                      refine wpAnyH_done (by kernel_rfl) ?_ _
                      clear v0 v1 v2 c0 c1 d0 d1 hsv hbv
                      have C1 := C1.far (p := ⟨w.heap.size, 1, none⟩) (by dsimp only; omega) (.slice AI (n + 1) cI)
                      have C2 := C2.far (p := ⟨w.heap.size, 1, none⟩) (by dsimp only; omega) (.slice AI (n + 1) cI)
                      have D := D.far (p := ⟨w.heap.size, 1, none⟩) (by dsimp only; omega) (.slice AI (n + 1) cI)
                      have E0 : Blk (wI.setCell ⟨w.heap.size, 1, none⟩ (.slice AI (n + 1) cI)) w.heap.size 24 #[.int .i64 K, .slice AI (n + 1) cI] := by simpa using C0.set_ 1 (.slice AI (n + 1) cI)
                      have hbz := hbz.setCell (p := ⟨w.heap.size, 1, none⟩) (Nat.le_refl _) (.slice AI (n + 1) cI)
                      have hown := own_apart hownI (p := ⟨w.heap.size, 1, none⟩) (own_blk_ne hownI C0 (by decide)) (.slice AI (n + 1) cI)
                      generalize wI.setCell ⟨w.heap.size, 1, none⟩ (.slice AI (n + 1) cI) = wJ at *
                      have c0 := E0.cell 0
                      have c1 := E0.cell 1
                      have d0 := D.cell 0
                      have d1 := D.cell 1
                      have f0 := C1.frozen 0
                      have f1 := C1.frozen 1
                      have f2 := C2.frozen 0
                      have f3 := C2.frozen 1
                      have k0 := C1.cell 0
                      have k1 := C1.cell 1
                      have k2 := C2.cell 0
                      have k3 := C2.cell 1
                      simp only [List.getElem?_toArray, List.getElem?_cons_zero, List.getElem?_cons_succ] at c0 c1 d0 d1 k0 k1 k2 k3
                      have HO := Lib.hid hown
                      clear hownI hbI hown
                      have n1 : ¬ w1.heap.size = w.heap.size + 1 := by omega
                      have n2 : ¬ w1.heap.size = w.heap.size + 1 + 1 := by omega
                      have n3 : ¬ w.heap.size + 1 = w1.heap.size := by omega
                      have n4 : ¬ w.heap.size + 1 + 1 = w1.heap.size := by omega
                      have n5 : ¬ w.heap.size + 1 + 1 = w.heap.size := by omega
                      have n6 : ¬ w.heap.size = w.heap.size + 1 + 1 := by omega
                      go_wp2
                      go_region_held3 (fun w' => w'.cell? ⟨w.heap.size, 0, none⟩ = some (.int .i64 K) ∧ w'.cell? ⟨w.heap.size, 1, none⟩ = some (.slice AI (n + 1) cI) ∧ w'.cell? ⟨w1.heap.size, 0, none⟩ = some (.int .i64 a) ∧ w'.cell? ⟨w1.heap.size, 1, none⟩ = some (.int .i64 P)) (go_keep) (fail)
                      all_goals
                        have hne := fun (p : Addr) (hp : p.block < wz.heap.size) (h : (Value.slice AI (n + 1) cI).ownBlock = some p.block) => Nat.lt_irrefl p.block (Nat.lt_of_lt_of_le hp (HO.out.lt _ h).1)
                        have HO2 := Lib.hid (own_mono (own_apart (own_apart (own_apart (own_apart HO.out (p := ⟨w.heap.size + 1, 0, none⟩) (hne _ s1) (.int .i64 K)) (p := ⟨w.heap.size + 1, 1, none⟩) (hne _ s1) (.slice AI (n + 1) cI)) (p := ⟨w.heap.size + 1 + 1, 0, none⟩) (hne _ s2) (.int .i64 a)) (p := ⟨w.heap.size + 1 + 1, 1, none⟩) (hne _ s2) (.int .i64 P)) (Nat.le_of_lt s0))
                        clear hne
                        go_wp2
                        refine bodyPost_ret (v := .tuple #[.agg #[.int .i64 K, .slice AI (n + 1) cI], .agg #[.int .i64 a, .int .i64 P], .int .i64 0]) ?_ rfl ⟨.inr ?_, ?_⟩
                        · simp only [results, Try.results12]
                          go_simp
                        · have hP := HH.out
                          subst hP
                          exact ⟨AI, cI, a, jj, k, HF.out, HU.out, hu4, HI.out, rfl, HO2.out.drew⟩
                        · refine Below.drew ?_
                          iterate 4 refine Below.setCell ?_ (by dsimp only; omega) _
                          exact hbz
                    · go_simp
                      refine hK.out _ _ (by first | exact ⟨d0, d1⟩ | exact ⟨v0, v1⟩ | go_keep) (fun hHeld => ?_)
                      clear hK K
                      try simp only [Act.put, List.setIfInBounds_toArray, List.set_cons_zero, List.set_cons_succ]
                      refine wpAnyH_ready (rs := [2]) (by kernel_rfl) (by simp) (AllReadyH.cons (List.getElem?_toArray.trans rfl) (fun K hK => ?_) AllReadyH.nil)
                      go_simp
                      go_at_call 31
                      with_reducible refine (HCl.out (wz.alloc (.cells #[.int .i64 a, .int .i64 P, .int .i64 u] 33)).drew ((hr.below hbv).more hbv.size)).mono ?_; rintro e wA ⟨AC, cC, rfl, hownC, hbA⟩; have BV := BV.below hbA BV.lt; have C0 := CV0; have C1 := CV1; have C2 := CV2; have D := DV; have C0 := C0.below hbA C0.lt; have C1 := C1.below hbA C1.lt; have C2 := C2.below hbA C2.lt; have D := D.below hbA D.lt; have c0 := C0.cell 0; have c1 := C0.cell 1; have d0 := D.cell 0; have d1 := D.cell 1; have f1 := C0.frozen 1; simp only [List.getElem?_toArray, List.getElem?_cons_zero, List.getElem?_cons_succ] at c0 c1 d0 d1; have hneC : (Value.slice AC n cC).ownBlock ≠ some wz.heap.size := (fun h => by have := (hownC.lt _ h).1; omega); have hbz := hbv.trans (hbA.mono hbv.size); have hsA : wz.heap.size ≤ wA.heap.size := (by have := hbA.size; omega); have hownC := own_mono hownC (show wz.heap.size ≤ _ from (by omega))
                      refine hK.out _ _ (by first | exact ⟨d0, d1⟩ | exact ⟨v0, v1⟩ | go_keep) (fun hHeld => ?_)
                      clear hK K
                      try simp only [Act.put, List.setIfInBounds_toArray, List.set_cons_zero, List.set_cons_succ]
                      refine wpAnyH_ready (rs := [11]) (by kernel_rfl) (by simp) (AllReadyH.cons (List.getElem?_toArray.trans rfl) (fun K hK => ?_) AllReadyH.nil)
                      go_simp
                      go_at_call 30
                      with_reducible refine (HIns.out AC cC wz.heap.size wA hownC hsA BV hneC).mono ?_; rintro e wI ⟨AI, cI, rfl, hownI, hbI⟩; have C0 := C0.below hbI s0; have C1 := C1.below hbI s1; have C2 := C2.below hbI s2; have D := D.below hbI s9; have c0 := C0.cell 0; have c1 := C0.cell 1; have d0 := D.cell 0; have d1 := D.cell 1; have f1 := C0.frozen 1; simp only [List.getElem?_toArray, List.getElem?_cons_zero, List.getElem?_cons_succ] at c0 c1 d0 d1; have hbz := hbz.trans (hbI.mono (Nat.le_of_lt s0))
                      refine hK.out _ _ (by first | exact ⟨d0, d1⟩ | exact ⟨v0, v1⟩ | go_keep) (fun hHeld => ?_)
                      clear hK K
                      try simp only [Act.put, List.setIfInBounds_toArray, List.set_cons_zero, List.set_cons_succ]
                      refine wpAnyH_take (i := 12) (v := .pointer (some ⟨w.heap.size, 1, none⟩)) (List.getElem?_toArray.trans rfl) (by kernel_rfl) (by kernel_rfl) (by kernel_rfl) (fun _ _ _ h => h) (Or.inl ⟨by rfl, fun w _ => by go_simp⟩) hHeld ?_
                      try simp only [Act.put, List.setIfInBounds_toArray, List.set_cons_zero, List.set_cons_succ]
                      refine wpAnyH_ready (rs := [13]) (by kernel_rfl) (by simp) (AllReadyH.cons (List.getElem?_toArray.trans rfl) (fun K hK => ?_) AllReadyH.nil)
                      go_simp
                      refine hK.out _ _ (by first | exact ⟨d0, d1⟩ | exact ⟨v0, v1⟩ | go_keep) (fun hHeld => ?_)
                      clear hK K
                      try simp only [Act.put, List.setIfInBounds_toArray, List.set_cons_zero, List.set_cons_succ]
                      refine wpAnyH_done (by kernel_rfl) ?_ _
                      clear v0 v1 v2 c0 c1 d0 d1 hsv hbv
                      have C1 := C1.far (p := ⟨w.heap.size, 1, none⟩) (by dsimp only; omega) (.slice AI (n + 1) cI)
                      have C2 := C2.far (p := ⟨w.heap.size, 1, none⟩) (by dsimp only; omega) (.slice AI (n + 1) cI)
                      have D := D.far (p := ⟨w.heap.size, 1, none⟩) (by dsimp only; omega) (.slice AI (n + 1) cI)
                      have E0 : Blk (wI.setCell ⟨w.heap.size, 1, none⟩ (.slice AI (n + 1) cI)) w.heap.size 24 #[.int .i64 K, .slice AI (n + 1) cI] := by simpa using C0.set_ 1 (.slice AI (n + 1) cI)
                      have hbz := hbz.setCell (p := ⟨w.heap.size, 1, none⟩) (Nat.le_refl _) (.slice AI (n + 1) cI)
                      have hown := own_apart hownI (p := ⟨w.heap.size, 1, none⟩) (own_blk_ne hownI C0 (by decide)) (.slice AI (n + 1) cI)
                      generalize wI.setCell ⟨w.heap.size, 1, none⟩ (.slice AI (n + 1) cI) = wJ at *
                      have c0 := E0.cell 0
                      have c1 := E0.cell 1
                      have d0 := D.cell 0
                      have d1 := D.cell 1
                      have f0 := C1.frozen 0
                      have f1 := C1.frozen 1
                      have f2 := C2.frozen 0
                      have f3 := C2.frozen 1
                      have k0 := C1.cell 0
                      have k1 := C1.cell 1
                      have k2 := C2.cell 0
                      have k3 := C2.cell 1
                      simp only [List.getElem?_toArray, List.getElem?_cons_zero, List.getElem?_cons_succ] at c0 c1 d0 d1 k0 k1 k2 k3
                      have HO := Lib.hid hown
                      clear hownI hbI hown
                      have n1 : ¬ w1.heap.size = w.heap.size + 1 := by omega
                      have n2 : ¬ w1.heap.size = w.heap.size + 1 + 1 := by omega
                      have n3 : ¬ w.heap.size + 1 = w1.heap.size := by omega
                      have n4 : ¬ w.heap.size + 1 + 1 = w1.heap.size := by omega
                      have n5 : ¬ w.heap.size + 1 + 1 = w.heap.size := by omega
                      have n6 : ¬ w.heap.size = w.heap.size + 1 + 1 := by omega
                      go_wp2
                      go_region_held3 (fun w' => w'.cell? ⟨w.heap.size, 0, none⟩ = some (.int .i64 K) ∧ w'.cell? ⟨w.heap.size, 1, none⟩ = some (.slice AI (n + 1) cI) ∧ w'.cell? ⟨w1.heap.size, 0, none⟩ = some (.int .i64 a) ∧ w'.cell? ⟨w1.heap.size, 1, none⟩ = some (.int .i64 P)) (go_keep) (fail)
                      all_goals
                        have hne := fun (p : Addr) (hp : p.block < wz.heap.size) (h : (Value.slice AI (n + 1) cI).ownBlock = some p.block) => Nat.lt_irrefl p.block (Nat.lt_of_lt_of_le hp (HO.out.lt _ h).1)
                        have HO2 := Lib.hid (own_mono (own_apart (own_apart (own_apart (own_apart HO.out (p := ⟨w.heap.size + 1, 0, none⟩) (hne _ s1) (.int .i64 K)) (p := ⟨w.heap.size + 1, 1, none⟩) (hne _ s1) (.slice AI (n + 1) cI)) (p := ⟨w.heap.size + 1 + 1, 0, none⟩) (hne _ s2) (.int .i64 a)) (p := ⟨w.heap.size + 1 + 1, 1, none⟩) (hne _ s2) (.int .i64 P)) (Nat.le_of_lt s0))
                        clear hne
                        go_wp2
                        refine bodyPost_ret (v := .tuple #[.agg #[.int .i64 K, .slice AI (n + 1) cI], .agg #[.int .i64 a, .int .i64 P], .int .i64 0]) ?_ rfl ⟨.inr ?_, ?_⟩
                        · simp only [results, Try.results12]
                          go_simp
                        · have hP := HH.out
                          subst hP
                          exact ⟨AI, cI, a, jj, k, HF.out, HU.out, hu4, HI.out, rfl, HO2.out.drew⟩
                        · refine Below.drew ?_
                          iterate 4 refine Below.setCell ?_ (by dsimp only; omega) _
                          exact hbz
                  · go_simp
                    refine hK.out _ _ (by first | exact ⟨d0, d1⟩ | exact ⟨v0, v1⟩ | go_keep) (fun hHeld => ?_)
                    clear hK K
                    try simp only [Act.put, List.setIfInBounds_toArray, List.set_cons_zero, List.set_cons_succ]
                    refine wpAnyH_ready (rs := [1]) (by kernel_rfl) (by simp) (AllReadyH.cons (List.getElem?_toArray.trans rfl) (fun K hK => ?_) AllReadyH.nil)
                    go_simp
                    refine hK.out _ _ (by first | exact ⟨d0, d1⟩ | exact ⟨v0, v1⟩ | go_keep) (fun hHeld => ?_)
                    clear hK K
                    try simp only [Act.put, List.setIfInBounds_toArray, List.set_cons_zero, List.set_cons_succ]
                    refine wpAnyH_ready (rs := [2]) (by kernel_rfl) (by simp) (AllReadyH.cons (List.getElem?_toArray.trans rfl) (fun K hK => ?_) AllReadyH.nil)
                    go_simp
                    go_at_call 31
                    with_reducible refine (HCl.out (wz.alloc (.cells #[.int .i64 a, .int .i64 P, .int .i64 u] 33)).drew ((hr.below hbv).more hbv.size)).mono ?_; rintro e wA ⟨AC, cC, rfl, hownC, hbA⟩; have BV := BV.below hbA BV.lt; have C0 := CV0; have C1 := CV1; have C2 := CV2; have D := DV; have C0 := C0.below hbA C0.lt; have C1 := C1.below hbA C1.lt; have C2 := C2.below hbA C2.lt; have D := D.below hbA D.lt; have c0 := C0.cell 0; have c1 := C0.cell 1; have d0 := D.cell 0; have d1 := D.cell 1; have f1 := C0.frozen 1; simp only [List.getElem?_toArray, List.getElem?_cons_zero, List.getElem?_cons_succ] at c0 c1 d0 d1; have hneC : (Value.slice AC n cC).ownBlock ≠ some wz.heap.size := (fun h => by have := (hownC.lt _ h).1; omega); have hbz := hbv.trans (hbA.mono hbv.size); have hsA : wz.heap.size ≤ wA.heap.size := (by have := hbA.size; omega); have hownC := own_mono hownC (show wz.heap.size ≤ _ from (by omega))
                    refine hK.out _ _ (by first | exact ⟨d0, d1⟩ | exact ⟨v0, v1⟩ | go_keep) (fun hHeld => ?_)
                    clear hK K
                    try simp only [Act.put, List.setIfInBounds_toArray, List.set_cons_zero, List.set_cons_succ]
                    refine wpAnyH_ready (rs := [11]) (by kernel_rfl) (by simp) (AllReadyH.cons (List.getElem?_toArray.trans rfl) (fun K hK => ?_) AllReadyH.nil)
                    go_simp
                    go_at_call 30
                    with_reducible refine (HIns.out AC cC wz.heap.size wA hownC hsA BV hneC).mono ?_; rintro e wI ⟨AI, cI, rfl, hownI, hbI⟩; have C0 := C0.below hbI s0; have C1 := C1.below hbI s1; have C2 := C2.below hbI s2; have D := D.below hbI s9; have c0 := C0.cell 0; have c1 := C0.cell 1; have d0 := D.cell 0; have d1 := D.cell 1; have f1 := C0.frozen 1; simp only [List.getElem?_toArray, List.getElem?_cons_zero, List.getElem?_cons_succ] at c0 c1 d0 d1; have hbz := hbz.trans (hbI.mono (Nat.le_of_lt s0))
                    refine hK.out _ _ (by first | exact ⟨d0, d1⟩ | exact ⟨v0, v1⟩ | go_keep) (fun hHeld => ?_)
                    clear hK K
                    try simp only [Act.put, List.setIfInBounds_toArray, List.set_cons_zero, List.set_cons_succ]
                    refine wpAnyH_take (i := 12) (v := .pointer (some ⟨w.heap.size, 1, none⟩)) (List.getElem?_toArray.trans rfl) (by kernel_rfl) (by kernel_rfl) (by kernel_rfl) (fun _ _ _ h => h) (Or.inl ⟨by rfl, fun w _ => by go_simp⟩) hHeld ?_
                    try simp only [Act.put, List.setIfInBounds_toArray, List.set_cons_zero, List.set_cons_succ]
                    refine wpAnyH_ready (rs := [13]) (by kernel_rfl) (by simp) (AllReadyH.cons (List.getElem?_toArray.trans rfl) (fun K hK => ?_) AllReadyH.nil)
                    go_simp
                    refine hK.out _ _ (by first | exact ⟨d0, d1⟩ | exact ⟨v0, v1⟩ | go_keep) (fun hHeld => ?_)
                    clear hK K
                    try simp only [Act.put, List.setIfInBounds_toArray, List.set_cons_zero, List.set_cons_succ]
                    refine wpAnyH_done (by kernel_rfl) ?_ _
                    clear v0 v1 v2 c0 c1 d0 d1 hsv hbv
                    have C1 := C1.far (p := ⟨w.heap.size, 1, none⟩) (by dsimp only; omega) (.slice AI (n + 1) cI)
                    have C2 := C2.far (p := ⟨w.heap.size, 1, none⟩) (by dsimp only; omega) (.slice AI (n + 1) cI)
                    have D := D.far (p := ⟨w.heap.size, 1, none⟩) (by dsimp only; omega) (.slice AI (n + 1) cI)
                    have E0 : Blk (wI.setCell ⟨w.heap.size, 1, none⟩ (.slice AI (n + 1) cI)) w.heap.size 24 #[.int .i64 K, .slice AI (n + 1) cI] := by simpa using C0.set_ 1 (.slice AI (n + 1) cI)
                    have hbz := hbz.setCell (p := ⟨w.heap.size, 1, none⟩) (Nat.le_refl _) (.slice AI (n + 1) cI)
                    have hown := own_apart hownI (p := ⟨w.heap.size, 1, none⟩) (own_blk_ne hownI C0 (by decide)) (.slice AI (n + 1) cI)
                    generalize wI.setCell ⟨w.heap.size, 1, none⟩ (.slice AI (n + 1) cI) = wJ at *
                    have c0 := E0.cell 0
                    have c1 := E0.cell 1
                    have d0 := D.cell 0
                    have d1 := D.cell 1
                    have f0 := C1.frozen 0
                    have f1 := C1.frozen 1
                    have f2 := C2.frozen 0
                    have f3 := C2.frozen 1
                    have k0 := C1.cell 0
                    have k1 := C1.cell 1
                    have k2 := C2.cell 0
                    have k3 := C2.cell 1
                    simp only [List.getElem?_toArray, List.getElem?_cons_zero, List.getElem?_cons_succ] at c0 c1 d0 d1 k0 k1 k2 k3
                    have HO := Lib.hid hown
                    clear hownI hbI hown
                    have n1 : ¬ w1.heap.size = w.heap.size + 1 := by omega
                    have n2 : ¬ w1.heap.size = w.heap.size + 1 + 1 := by omega
                    have n3 : ¬ w.heap.size + 1 = w1.heap.size := by omega
                    have n4 : ¬ w.heap.size + 1 + 1 = w1.heap.size := by omega
                    have n5 : ¬ w.heap.size + 1 + 1 = w.heap.size := by omega
                    have n6 : ¬ w.heap.size = w.heap.size + 1 + 1 := by omega
                    go_wp2
                    go_region_held3 (fun w' => w'.cell? ⟨w.heap.size, 0, none⟩ = some (.int .i64 K) ∧ w'.cell? ⟨w.heap.size, 1, none⟩ = some (.slice AI (n + 1) cI) ∧ w'.cell? ⟨w1.heap.size, 0, none⟩ = some (.int .i64 a) ∧ w'.cell? ⟨w1.heap.size, 1, none⟩ = some (.int .i64 P)) (go_keep) (fail)
                    all_goals
                      have hne := fun (p : Addr) (hp : p.block < wz.heap.size) (h : (Value.slice AI (n + 1) cI).ownBlock = some p.block) => Nat.lt_irrefl p.block (Nat.lt_of_lt_of_le hp (HO.out.lt _ h).1)
                      have HO2 := Lib.hid (own_mono (own_apart (own_apart (own_apart (own_apart HO.out (p := ⟨w.heap.size + 1, 0, none⟩) (hne _ s1) (.int .i64 K)) (p := ⟨w.heap.size + 1, 1, none⟩) (hne _ s1) (.slice AI (n + 1) cI)) (p := ⟨w.heap.size + 1 + 1, 0, none⟩) (hne _ s2) (.int .i64 a)) (p := ⟨w.heap.size + 1 + 1, 1, none⟩) (hne _ s2) (.int .i64 P)) (Nat.le_of_lt s0))
                      clear hne
                      go_wp2
                      refine bodyPost_ret (v := .tuple #[.agg #[.int .i64 K, .slice AI (n + 1) cI], .agg #[.int .i64 a, .int .i64 P], .int .i64 0]) ?_ rfl ⟨.inr ?_, ?_⟩
                      · simp only [results, Try.results12]
                        go_simp
                      · have hP := HH.out
                        subst hP
                        exact ⟨AI, cI, a, jj, k, HF.out, HU.out, hu4, HI.out, rfl, HO2.out.drew⟩
                      · refine Below.drew ?_
                        iterate 4 refine Below.setCell ?_ (by dsimp only; omega) _
                        exact hbz
              · have hkn : k = n := by omega
                have HI : Hid (AtIx l a k) := by
                  refine ⟨by rw [HL.out]; omega, HT.out, ?_⟩
                  intro r hr
                  have := (List.getElem?_eq_some_iff.1 hr).1
                  have := HL.out
                  omega
                have g5 : decide (k < n) = false := decide_eq_false hlt
                clear HT hkn
                go_wp2
                go_quiet (fail)
                go_wp2
                have C0 := ((C0.drewN z).drewN nq)
                have C1 := ((C1.drewN z).drewN nq)
                have C2 := ((C2.drewN z).drewN nq)
                have D := ((D.drewN z).drewN nq)
                have hbz := (below_drewN (below_drewN (below_step hb2 hba) z) nq)
                generalize (wp.drewN z).drewN nq = wz at *
                have hn9 : ¬ w1.heap.size = w.heap.size := by omega
                have hn8 : ¬ w.heap.size = w1.heap.size := by omega
                have hbv := (hbz.alloc hbz.size (.cells #[.int .i64 a, .int .i64 P, .int .i64 u] 33)).drew
                have BV := (Blk.new wz 33 #[.int .i64 a, .int .i64 P, .int .i64 u]).drew
                have CV0 := (C0.alloc (.cells #[.int .i64 a, .int .i64 P, .int .i64 u] 33)).drew
                have CV1 := (C1.alloc (.cells #[.int .i64 a, .int .i64 P, .int .i64 u] 33)).drew
                have CV2 := (C2.alloc (.cells #[.int .i64 a, .int .i64 P, .int .i64 u] 33)).drew
                have DV := (D.alloc (.cells #[.int .i64 a, .int .i64 P, .int .i64 u] 33)).drew
                have v0 : (wz.alloc (.cells #[.int .i64 a, .int .i64 P, .int .i64 u] 33)).cell? ⟨w1.heap.size, 0, none⟩ = _ := DV.cell 0
                have v1 : (wz.alloc (.cells #[.int .i64 a, .int .i64 P, .int .i64 u] 33)).cell? ⟨w1.heap.size, 1, none⟩ = _ := DV.cell 1
                have v2 : (wz.alloc (.cells #[.int .i64 a, .int .i64 P, .int .i64 u] 33)).cell? ⟨w.heap.size, 1, none⟩ = _ := CV0.cell 1
                have hsv : (wz.alloc (.cells #[.int .i64 a, .int .i64 P, .int .i64 u] 33)).drew.heap.size = wz.heap.size + 1 := World.size_alloc _ _
                have hbz := hbz.drew
                have hdr : wz.drew.heap.size = wz.heap.size := rfl
                have s0 : w.heap.size < wz.heap.size := C0.lt
                have s1 : w.heap.size + 1 < wz.heap.size := C1.lt
                have s2 : w.heap.size + 1 + 1 < wz.heap.size := C2.lt
                have s9 : w1.heap.size < wz.heap.size := D.lt
                have HIns := Lib.hid (fun A' c' gv W h1 h2 (h3 : Blk W gv 33 #[.int .i64 a, .int .i64 P, .int .i64 u]) h4 => insert_room wz.heap.size A' n c' k (roomsC l) gv (roomC ⟨a, (P : Int), u⟩) W h1 h2 (by have := HI.out.1; rw [HL.out] at this; exact this) (by omega) h3 h4 (roomsC_one l) (roomC_one _) rfl)
                rw [roomsC_ins] at HIns
                have c0 := C0.cell 0
                have c1 := C0.cell 1
                have d0 := D.cell 0
                have d1 := D.cell 1
                have f1 := C0.frozen 1
                simp only [List.getElem?_toArray, List.getElem?_cons_zero, List.getElem?_cons_succ] at c0 c1 d0 d1 v0 v1 v2
                have C0 := C0.drew
                have C1 := C1.drew
                have C2 := C2.drew
                have D := D.drew
                clear m0 m1
                refine wp_region_held_drew (S := fun w' => w'.cell? ⟨w1.heap.size, 0, none⟩ = some (.int .i64 a) ∧ w'.cell? ⟨w1.heap.size, 1, none⟩ = some (.int .i64 P)) (by kernel_rfl) ⟨d0, d1⟩ (fun hHeld => ?_)
                refine wpAnyH_take (i := 0) (v := .pointer (some ⟨w.heap.size, 1, none⟩)) (List.getElem?_toArray.trans rfl) (by kernel_rfl) (by kernel_rfl) (by kernel_rfl) (fun _ _ _ h => h) (Or.inl ⟨by rfl, fun w _ => by go_simp⟩) hHeld ?_
                try simp only [Act.put, List.setIfInBounds_toArray, List.set_cons_zero, List.set_cons_succ]
                refine wpAnyH_take (i := 3) (v := .int .i64 k) (List.getElem?_toArray.trans rfl) (by kernel_rfl) (by kernel_rfl) (by kernel_rfl) (fun _ _ _ h => h) (Or.inl ⟨by rfl, fun w _ => by go_simp⟩) hHeld ?_
                try simp only [Act.put, List.setIfInBounds_toArray, List.set_cons_zero, List.set_cons_succ]
                refine wpAnyH_take (i := 4) (v := .pointer (some ⟨w1.heap.size, 0, none⟩)) (List.getElem?_toArray.trans rfl) (by kernel_rfl) (by kernel_rfl) (by kernel_rfl) (fun _ _ _ h => h) (Or.inl ⟨by rfl, fun w _ => by go_simp⟩) hHeld ?_
                try simp only [Act.put, List.setIfInBounds_toArray, List.set_cons_zero, List.set_cons_succ]
                refine wpAnyH_take (i := 5) (v := .int .i64 a) (List.getElem?_toArray.trans rfl) (by kernel_rfl) (by kernel_rfl) (by kernel_rfl) (fun _ _ _ h => h) (Or.inl ⟨by rfl, fun w _ => by go_simp⟩) hHeld ?_
                try simp only [Act.put, List.setIfInBounds_toArray, List.set_cons_zero, List.set_cons_succ]
                refine wpAnyH_take (i := 6) (v := .pointer (some ⟨w1.heap.size, 1, none⟩)) (List.getElem?_toArray.trans rfl) (by kernel_rfl) (by kernel_rfl) (by kernel_rfl) (fun _ _ _ h => h) (Or.inl ⟨by rfl, fun w _ => by go_simp⟩) hHeld ?_
                try simp only [Act.put, List.setIfInBounds_toArray, List.set_cons_zero, List.set_cons_succ]
                refine wpAnyH_take (i := 7) (v := .int .i64 P) (List.getElem?_toArray.trans rfl) (by kernel_rfl) (by kernel_rfl) (by kernel_rfl) (fun _ _ _ h => h) (Or.inl ⟨by rfl, fun w _ => by go_simp⟩) hHeld ?_
                try simp only [Act.put, List.setIfInBounds_toArray, List.set_cons_zero, List.set_cons_succ]
                refine wpAnyH_take (i := 8) (v := .int .i64 u) (List.getElem?_toArray.trans rfl) (by kernel_rfl) (by kernel_rfl) (by kernel_rfl) (fun _ _ _ h => h) (Or.inl ⟨by rfl, fun w _ => by go_simp⟩) hHeld ?_
                try simp only [Act.put, List.setIfInBounds_toArray, List.set_cons_zero, List.set_cons_succ]
                refine wpAnyH_take (i := 9) (v := .agg #[.int .i64 a, .int .i64 P, .int .i64 u]) (List.getElem?_toArray.trans rfl) (by kernel_rfl) (by kernel_rfl) (by kernel_rfl) (fun _ _ _ h => h) (Or.inl ⟨by rfl, fun w _ => by go_simp⟩) hHeld ?_
                try simp only [Act.put, List.setIfInBounds_toArray, List.set_cons_zero, List.set_cons_succ]
                refine wpAnyH_ready (rs := [1, 10]) (by kernel_rfl) (by simp) (AllReadyH.cons (List.getElem?_toArray.trans rfl) (fun K hK => ?_) (AllReadyH.cons (List.getElem?_toArray.trans rfl) (fun K hK => ?_) AllReadyH.nil))
                · go_simp
                  refine hK.out _ _ (by first | exact ⟨d0, d1⟩ | exact ⟨v0, v1⟩ | go_keep) (fun hHeld => ?_)
                  clear hK K
                  try simp only [Act.put, List.setIfInBounds_toArray, List.set_cons_zero, List.set_cons_succ]
                  refine wpAnyH_ready (rs := [2, 10]) (by kernel_rfl) (by simp) (AllReadyH.cons (List.getElem?_toArray.trans rfl) (fun K hK => ?_) (AllReadyH.cons (List.getElem?_toArray.trans rfl) (fun K hK => ?_) AllReadyH.nil))
                  · skip
                    go_simp
                    go_at_call 31
                    with_reducible refine (HCl.out wz.drew ((hr.below hbz).more hbz.size)).mono ?_; rintro e wA ⟨AC, cC, rfl, hownC, hbA⟩; have C0 := C0.below hbA C0.lt; have C1 := C1.below hbA C1.lt; have C2 := C2.below hbA C2.lt; have D := D.below hbA D.lt; have c0 := C0.cell 0; have c1 := C0.cell 1; have d0 := D.cell 0; have d1 := D.cell 1; have f1 := C0.frozen 1; simp only [List.getElem?_toArray, List.getElem?_cons_zero, List.getElem?_cons_succ] at c0 c1 d0 d1; have hlC := fun g h => (hownC.lt g h).2; have hbz := hbz.trans (hbA.mono hbz.size); have hsA : wz.heap.size ≤ wA.heap.size := (by have := hbA.size; omega); have hownC := own_mono hownC (show wz.heap.size ≤ _ from (by omega))
                    refine hK.out _ _ (by first | exact ⟨d0, d1⟩ | exact ⟨v0, v1⟩ | go_keep) (fun hHeld => ?_)
                    clear hK K
                    try simp only [Act.put, List.setIfInBounds_toArray, List.set_cons_zero, List.set_cons_succ]
                    refine wpAnyH_ready (rs := [10]) (by kernel_rfl) (by simp) (AllReadyH.cons (List.getElem?_toArray.trans rfl) (fun K hK => ?_) AllReadyH.nil)
                    go_simp
                    refine hK.out _ _ (by first | exact ⟨d0, d1⟩ | exact ⟨v0, v1⟩ | go_keep) (fun hHeld => ?_)
                    clear hK K
                    try simp only [Act.put, List.setIfInBounds_toArray, List.set_cons_zero, List.set_cons_succ]
                    refine wpAnyH_ready (rs := [11]) (by kernel_rfl) (by simp) (AllReadyH.cons (List.getElem?_toArray.trans rfl) (fun K hK => ?_) AllReadyH.nil)
                    go_simp
                    go_at_call 30
                    have hsI : wz.heap.size ≤ (wA.alloc (.cells #[.int .i64 a, .int .i64 P, .int .i64 u] 33)).heap.size := (by rw [World.size_alloc]; omega); have hBI := Blk.new wA 33 #[.int .i64 a, .int .i64 P, .int .i64 u]; have hoI := hownC.alloc (.cells #[.int .i64 a, .int .i64 P, .int .i64 u] 33); have hnI : (Value.slice AC n cC).ownBlock ≠ some wA.heap.size := (fun h => Nat.lt_irrefl _ (hlC _ h)); with_reducible refine (HIns.out AC cC wA.heap.size (wA.alloc (.cells #[.int .i64 a, .int .i64 P, .int .i64 u] 33)) hoI hsI hBI hnI).mono ?_; rintro e wI ⟨AI, cI, rfl, hownI, hbI⟩; have C0 := (C0.alloc _).below hbI s0; have C1 := (C1.alloc _).below hbI s1; have C2 := (C2.alloc _).below hbI s2; have D := (D.alloc _).below hbI s9; have c0 := C0.cell 0; have c1 := C0.cell 1; have d0 := D.cell 0; have d1 := D.cell 1; have f1 := C0.frozen 1; simp only [List.getElem?_toArray, List.getElem?_cons_zero, List.getElem?_cons_succ] at c0 c1 d0 d1; have hbz := (hbz.alloc hbz.size (.cells #[.int .i64 a, .int .i64 P, .int .i64 u] 33)).trans (hbI.mono (Nat.le_of_lt s0))
                    refine hK.out _ _ (by first | exact ⟨d0, d1⟩ | exact ⟨v0, v1⟩ | go_keep) (fun hHeld => ?_)
                    clear hK K
                    try simp only [Act.put, List.setIfInBounds_toArray, List.set_cons_zero, List.set_cons_succ]
                    refine wpAnyH_take (i := 12) (v := .pointer (some ⟨w.heap.size, 1, none⟩)) (List.getElem?_toArray.trans rfl) (by kernel_rfl) (by kernel_rfl) (by kernel_rfl) (fun _ _ _ h => h) (Or.inl ⟨by rfl, fun w _ => by go_simp⟩) hHeld ?_
                    try simp only [Act.put, List.setIfInBounds_toArray, List.set_cons_zero, List.set_cons_succ]
                    refine wpAnyH_ready (rs := [13]) (by kernel_rfl) (by simp) (AllReadyH.cons (List.getElem?_toArray.trans rfl) (fun K hK => ?_) AllReadyH.nil)
                    go_simp
                    refine hK.out _ _ (by first | exact ⟨d0, d1⟩ | exact ⟨v0, v1⟩ | go_keep) (fun hHeld => ?_)
                    clear hK K
                    try simp only [Act.put, List.setIfInBounds_toArray, List.set_cons_zero, List.set_cons_succ]
                    refine wpAnyH_done (by kernel_rfl) ?_ _
                    clear v0 v1 v2 c0 c1 d0 d1 hsv hbv
                    have C1 := C1.far (p := ⟨w.heap.size, 1, none⟩) (by dsimp only; omega) (.slice AI (n + 1) cI)
                    have C2 := C2.far (p := ⟨w.heap.size, 1, none⟩) (by dsimp only; omega) (.slice AI (n + 1) cI)
                    have D := D.far (p := ⟨w.heap.size, 1, none⟩) (by dsimp only; omega) (.slice AI (n + 1) cI)
                    have E0 : Blk (wI.setCell ⟨w.heap.size, 1, none⟩ (.slice AI (n + 1) cI)) w.heap.size 24 #[.int .i64 K, .slice AI (n + 1) cI] := by simpa using C0.set_ 1 (.slice AI (n + 1) cI)
                    have hbz := hbz.setCell (p := ⟨w.heap.size, 1, none⟩) (Nat.le_refl _) (.slice AI (n + 1) cI)
                    have hown := own_apart hownI (p := ⟨w.heap.size, 1, none⟩) (own_blk_ne hownI C0 (by decide)) (.slice AI (n + 1) cI)
                    generalize wI.setCell ⟨w.heap.size, 1, none⟩ (.slice AI (n + 1) cI) = wJ at *
                    have c0 := E0.cell 0
                    have c1 := E0.cell 1
                    have d0 := D.cell 0
                    have d1 := D.cell 1
                    have f0 := C1.frozen 0
                    have f1 := C1.frozen 1
                    have f2 := C2.frozen 0
                    have f3 := C2.frozen 1
                    have k0 := C1.cell 0
                    have k1 := C1.cell 1
                    have k2 := C2.cell 0
                    have k3 := C2.cell 1
                    simp only [List.getElem?_toArray, List.getElem?_cons_zero, List.getElem?_cons_succ] at c0 c1 d0 d1 k0 k1 k2 k3
                    have HO := Lib.hid hown
                    clear hownI hbI hown
                    have n1 : ¬ w1.heap.size = w.heap.size + 1 := by omega
                    have n2 : ¬ w1.heap.size = w.heap.size + 1 + 1 := by omega
                    have n3 : ¬ w.heap.size + 1 = w1.heap.size := by omega
                    have n4 : ¬ w.heap.size + 1 + 1 = w1.heap.size := by omega
                    have n5 : ¬ w.heap.size + 1 + 1 = w.heap.size := by omega
                    have n6 : ¬ w.heap.size = w.heap.size + 1 + 1 := by omega
                    go_wp2
                    go_region_held3 (fun w' => w'.cell? ⟨w.heap.size, 0, none⟩ = some (.int .i64 K) ∧ w'.cell? ⟨w.heap.size, 1, none⟩ = some (.slice AI (n + 1) cI) ∧ w'.cell? ⟨w1.heap.size, 0, none⟩ = some (.int .i64 a) ∧ w'.cell? ⟨w1.heap.size, 1, none⟩ = some (.int .i64 P)) (go_keep) (fail)
                    all_goals
                      have hne := fun (p : Addr) (hp : p.block < wz.heap.size) (h : (Value.slice AI (n + 1) cI).ownBlock = some p.block) => Nat.lt_irrefl p.block (Nat.lt_of_lt_of_le hp (HO.out.lt _ h).1)
                      have HO2 := Lib.hid (own_mono (own_apart (own_apart (own_apart (own_apart HO.out (p := ⟨w.heap.size + 1, 0, none⟩) (hne _ s1) (.int .i64 K)) (p := ⟨w.heap.size + 1, 1, none⟩) (hne _ s1) (.slice AI (n + 1) cI)) (p := ⟨w.heap.size + 1 + 1, 0, none⟩) (hne _ s2) (.int .i64 a)) (p := ⟨w.heap.size + 1 + 1, 1, none⟩) (hne _ s2) (.int .i64 P)) (Nat.le_of_lt s0))
                      clear hne
                      go_wp2
                      refine bodyPost_ret (v := .tuple #[.agg #[.int .i64 K, .slice AI (n + 1) cI], .agg #[.int .i64 a, .int .i64 P], .int .i64 0]) ?_ rfl ⟨.inr ?_, ?_⟩
                      · simp only [results, Try.results12]
                        go_simp
                      · have hP := HH.out
                        subst hP
                        exact ⟨AI, cI, a, jj, k, HF.out, HU.out, hu4, HI.out, rfl, HO2.out.drew⟩
                      · refine Below.drew ?_
                        iterate 4 refine Below.setCell ?_ (by dsimp only; omega) _
                        exact hbz
                  · go_simp
                    refine hK.out _ _ (by first | exact ⟨d0, d1⟩ | exact ⟨v0, v1⟩ | go_keep) (fun hHeld => ?_)
                    clear hK K
                    try simp only [Act.put, List.setIfInBounds_toArray, List.set_cons_zero, List.set_cons_succ]
                    refine wpAnyH_ready (rs := [2]) (by kernel_rfl) (by simp) (AllReadyH.cons (List.getElem?_toArray.trans rfl) (fun K hK => ?_) AllReadyH.nil)
                    go_simp
                    go_at_call 31
                    with_reducible refine (HCl.out (wz.alloc (.cells #[.int .i64 a, .int .i64 P, .int .i64 u] 33)).drew ((hr.below hbv).more hbv.size)).mono ?_; rintro e wA ⟨AC, cC, rfl, hownC, hbA⟩; have BV := BV.below hbA BV.lt; have C0 := CV0; have C1 := CV1; have C2 := CV2; have D := DV; have C0 := C0.below hbA C0.lt; have C1 := C1.below hbA C1.lt; have C2 := C2.below hbA C2.lt; have D := D.below hbA D.lt; have c0 := C0.cell 0; have c1 := C0.cell 1; have d0 := D.cell 0; have d1 := D.cell 1; have f1 := C0.frozen 1; simp only [List.getElem?_toArray, List.getElem?_cons_zero, List.getElem?_cons_succ] at c0 c1 d0 d1; have hneC : (Value.slice AC n cC).ownBlock ≠ some wz.heap.size := (fun h => by have := (hownC.lt _ h).1; omega); have hbz := hbv.trans (hbA.mono hbv.size); have hsA : wz.heap.size ≤ wA.heap.size := (by have := hbA.size; omega); have hownC := own_mono hownC (show wz.heap.size ≤ _ from (by omega))
                    refine hK.out _ _ (by first | exact ⟨d0, d1⟩ | exact ⟨v0, v1⟩ | go_keep) (fun hHeld => ?_)
                    clear hK K
                    try simp only [Act.put, List.setIfInBounds_toArray, List.set_cons_zero, List.set_cons_succ]
                    refine wpAnyH_ready (rs := [11]) (by kernel_rfl) (by simp) (AllReadyH.cons (List.getElem?_toArray.trans rfl) (fun K hK => ?_) AllReadyH.nil)
                    go_simp
                    go_at_call 30
                    with_reducible refine (HIns.out AC cC wz.heap.size wA hownC hsA BV hneC).mono ?_; rintro e wI ⟨AI, cI, rfl, hownI, hbI⟩; have C0 := C0.below hbI s0; have C1 := C1.below hbI s1; have C2 := C2.below hbI s2; have D := D.below hbI s9; have c0 := C0.cell 0; have c1 := C0.cell 1; have d0 := D.cell 0; have d1 := D.cell 1; have f1 := C0.frozen 1; simp only [List.getElem?_toArray, List.getElem?_cons_zero, List.getElem?_cons_succ] at c0 c1 d0 d1; have hbz := hbz.trans (hbI.mono (Nat.le_of_lt s0))
                    refine hK.out _ _ (by first | exact ⟨d0, d1⟩ | exact ⟨v0, v1⟩ | go_keep) (fun hHeld => ?_)
                    clear hK K
                    try simp only [Act.put, List.setIfInBounds_toArray, List.set_cons_zero, List.set_cons_succ]
                    refine wpAnyH_take (i := 12) (v := .pointer (some ⟨w.heap.size, 1, none⟩)) (List.getElem?_toArray.trans rfl) (by kernel_rfl) (by kernel_rfl) (by kernel_rfl) (fun _ _ _ h => h) (Or.inl ⟨by rfl, fun w _ => by go_simp⟩) hHeld ?_
                    try simp only [Act.put, List.setIfInBounds_toArray, List.set_cons_zero, List.set_cons_succ]
                    refine wpAnyH_ready (rs := [13]) (by kernel_rfl) (by simp) (AllReadyH.cons (List.getElem?_toArray.trans rfl) (fun K hK => ?_) AllReadyH.nil)
                    go_simp
                    refine hK.out _ _ (by first | exact ⟨d0, d1⟩ | exact ⟨v0, v1⟩ | go_keep) (fun hHeld => ?_)
                    clear hK K
                    try simp only [Act.put, List.setIfInBounds_toArray, List.set_cons_zero, List.set_cons_succ]
                    refine wpAnyH_done (by kernel_rfl) ?_ _
                    clear v0 v1 v2 c0 c1 d0 d1 hsv hbv
                    have C1 := C1.far (p := ⟨w.heap.size, 1, none⟩) (by dsimp only; omega) (.slice AI (n + 1) cI)
                    have C2 := C2.far (p := ⟨w.heap.size, 1, none⟩) (by dsimp only; omega) (.slice AI (n + 1) cI)
                    have D := D.far (p := ⟨w.heap.size, 1, none⟩) (by dsimp only; omega) (.slice AI (n + 1) cI)
                    have E0 : Blk (wI.setCell ⟨w.heap.size, 1, none⟩ (.slice AI (n + 1) cI)) w.heap.size 24 #[.int .i64 K, .slice AI (n + 1) cI] := by simpa using C0.set_ 1 (.slice AI (n + 1) cI)
                    have hbz := hbz.setCell (p := ⟨w.heap.size, 1, none⟩) (Nat.le_refl _) (.slice AI (n + 1) cI)
                    have hown := own_apart hownI (p := ⟨w.heap.size, 1, none⟩) (own_blk_ne hownI C0 (by decide)) (.slice AI (n + 1) cI)
                    generalize wI.setCell ⟨w.heap.size, 1, none⟩ (.slice AI (n + 1) cI) = wJ at *
                    have c0 := E0.cell 0
                    have c1 := E0.cell 1
                    have d0 := D.cell 0
                    have d1 := D.cell 1
                    have f0 := C1.frozen 0
                    have f1 := C1.frozen 1
                    have f2 := C2.frozen 0
                    have f3 := C2.frozen 1
                    have k0 := C1.cell 0
                    have k1 := C1.cell 1
                    have k2 := C2.cell 0
                    have k3 := C2.cell 1
                    simp only [List.getElem?_toArray, List.getElem?_cons_zero, List.getElem?_cons_succ] at c0 c1 d0 d1 k0 k1 k2 k3
                    have HO := Lib.hid hown
                    clear hownI hbI hown
                    have n1 : ¬ w1.heap.size = w.heap.size + 1 := by omega
                    have n2 : ¬ w1.heap.size = w.heap.size + 1 + 1 := by omega
                    have n3 : ¬ w.heap.size + 1 = w1.heap.size := by omega
                    have n4 : ¬ w.heap.size + 1 + 1 = w1.heap.size := by omega
                    have n5 : ¬ w.heap.size + 1 + 1 = w.heap.size := by omega
                    have n6 : ¬ w.heap.size = w.heap.size + 1 + 1 := by omega
                    go_wp2
                    go_region_held3 (fun w' => w'.cell? ⟨w.heap.size, 0, none⟩ = some (.int .i64 K) ∧ w'.cell? ⟨w.heap.size, 1, none⟩ = some (.slice AI (n + 1) cI) ∧ w'.cell? ⟨w1.heap.size, 0, none⟩ = some (.int .i64 a) ∧ w'.cell? ⟨w1.heap.size, 1, none⟩ = some (.int .i64 P)) (go_keep) (fail)
                    all_goals
                      have hne := fun (p : Addr) (hp : p.block < wz.heap.size) (h : (Value.slice AI (n + 1) cI).ownBlock = some p.block) => Nat.lt_irrefl p.block (Nat.lt_of_lt_of_le hp (HO.out.lt _ h).1)
                      have HO2 := Lib.hid (own_mono (own_apart (own_apart (own_apart (own_apart HO.out (p := ⟨w.heap.size + 1, 0, none⟩) (hne _ s1) (.int .i64 K)) (p := ⟨w.heap.size + 1, 1, none⟩) (hne _ s1) (.slice AI (n + 1) cI)) (p := ⟨w.heap.size + 1 + 1, 0, none⟩) (hne _ s2) (.int .i64 a)) (p := ⟨w.heap.size + 1 + 1, 1, none⟩) (hne _ s2) (.int .i64 P)) (Nat.le_of_lt s0))
                      clear hne
                      go_wp2
                      refine bodyPost_ret (v := .tuple #[.agg #[.int .i64 K, .slice AI (n + 1) cI], .agg #[.int .i64 a, .int .i64 P], .int .i64 0]) ?_ rfl ⟨.inr ?_, ?_⟩
                      · simp only [results, Try.results12]
                        go_simp
                      · have hP := HH.out
                        subst hP
                        exact ⟨AI, cI, a, jj, k, HF.out, HU.out, hu4, HI.out, rfl, HO2.out.drew⟩
                      · refine Below.drew ?_
                        iterate 4 refine Below.setCell ?_ (by dsimp only; omega) _
                        exact hbz
                · go_simp
                  refine hK.out _ _ (by first | exact ⟨d0, d1⟩ | exact ⟨v0, v1⟩ | go_keep) (fun hHeld => ?_)
                  clear hK K
                  try simp only [Act.put, List.setIfInBounds_toArray, List.set_cons_zero, List.set_cons_succ]
                  refine wpAnyH_ready (rs := [1]) (by kernel_rfl) (by simp) (AllReadyH.cons (List.getElem?_toArray.trans rfl) (fun K hK => ?_) AllReadyH.nil)
                  go_simp
                  refine hK.out _ _ (by first | exact ⟨d0, d1⟩ | exact ⟨v0, v1⟩ | go_keep) (fun hHeld => ?_)
                  clear hK K
                  try simp only [Act.put, List.setIfInBounds_toArray, List.set_cons_zero, List.set_cons_succ]
                  refine wpAnyH_ready (rs := [2]) (by kernel_rfl) (by simp) (AllReadyH.cons (List.getElem?_toArray.trans rfl) (fun K hK => ?_) AllReadyH.nil)
                  go_simp
                  go_at_call 31
                  with_reducible refine (HCl.out (wz.alloc (.cells #[.int .i64 a, .int .i64 P, .int .i64 u] 33)).drew ((hr.below hbv).more hbv.size)).mono ?_; rintro e wA ⟨AC, cC, rfl, hownC, hbA⟩; have BV := BV.below hbA BV.lt; have C0 := CV0; have C1 := CV1; have C2 := CV2; have D := DV; have C0 := C0.below hbA C0.lt; have C1 := C1.below hbA C1.lt; have C2 := C2.below hbA C2.lt; have D := D.below hbA D.lt; have c0 := C0.cell 0; have c1 := C0.cell 1; have d0 := D.cell 0; have d1 := D.cell 1; have f1 := C0.frozen 1; simp only [List.getElem?_toArray, List.getElem?_cons_zero, List.getElem?_cons_succ] at c0 c1 d0 d1; have hneC : (Value.slice AC n cC).ownBlock ≠ some wz.heap.size := (fun h => by have := (hownC.lt _ h).1; omega); have hbz := hbv.trans (hbA.mono hbv.size); have hsA : wz.heap.size ≤ wA.heap.size := (by have := hbA.size; omega); have hownC := own_mono hownC (show wz.heap.size ≤ _ from (by omega))
                  refine hK.out _ _ (by first | exact ⟨d0, d1⟩ | exact ⟨v0, v1⟩ | go_keep) (fun hHeld => ?_)
                  clear hK K
                  try simp only [Act.put, List.setIfInBounds_toArray, List.set_cons_zero, List.set_cons_succ]
                  refine wpAnyH_ready (rs := [11]) (by kernel_rfl) (by simp) (AllReadyH.cons (List.getElem?_toArray.trans rfl) (fun K hK => ?_) AllReadyH.nil)
                  go_simp
                  go_at_call 30
                  with_reducible refine (HIns.out AC cC wz.heap.size wA hownC hsA BV hneC).mono ?_; rintro e wI ⟨AI, cI, rfl, hownI, hbI⟩; have C0 := C0.below hbI s0; have C1 := C1.below hbI s1; have C2 := C2.below hbI s2; have D := D.below hbI s9; have c0 := C0.cell 0; have c1 := C0.cell 1; have d0 := D.cell 0; have d1 := D.cell 1; have f1 := C0.frozen 1; simp only [List.getElem?_toArray, List.getElem?_cons_zero, List.getElem?_cons_succ] at c0 c1 d0 d1; have hbz := hbz.trans (hbI.mono (Nat.le_of_lt s0))
                  refine hK.out _ _ (by first | exact ⟨d0, d1⟩ | exact ⟨v0, v1⟩ | go_keep) (fun hHeld => ?_)
                  clear hK K
                  try simp only [Act.put, List.setIfInBounds_toArray, List.set_cons_zero, List.set_cons_succ]
                  refine wpAnyH_take (i := 12) (v := .pointer (some ⟨w.heap.size, 1, none⟩)) (List.getElem?_toArray.trans rfl) (by kernel_rfl) (by kernel_rfl) (by kernel_rfl) (fun _ _ _ h => h) (Or.inl ⟨by rfl, fun w _ => by go_simp⟩) hHeld ?_
                  try simp only [Act.put, List.setIfInBounds_toArray, List.set_cons_zero, List.set_cons_succ]
                  refine wpAnyH_ready (rs := [13]) (by kernel_rfl) (by simp) (AllReadyH.cons (List.getElem?_toArray.trans rfl) (fun K hK => ?_) AllReadyH.nil)
                  go_simp
                  refine hK.out _ _ (by first | exact ⟨d0, d1⟩ | exact ⟨v0, v1⟩ | go_keep) (fun hHeld => ?_)
                  clear hK K
                  try simp only [Act.put, List.setIfInBounds_toArray, List.set_cons_zero, List.set_cons_succ]
                  refine wpAnyH_done (by kernel_rfl) ?_ _
                  clear v0 v1 v2 c0 c1 d0 d1 hsv hbv
                  have C1 := C1.far (p := ⟨w.heap.size, 1, none⟩) (by dsimp only; omega) (.slice AI (n + 1) cI)
                  have C2 := C2.far (p := ⟨w.heap.size, 1, none⟩) (by dsimp only; omega) (.slice AI (n + 1) cI)
                  have D := D.far (p := ⟨w.heap.size, 1, none⟩) (by dsimp only; omega) (.slice AI (n + 1) cI)
                  have E0 : Blk (wI.setCell ⟨w.heap.size, 1, none⟩ (.slice AI (n + 1) cI)) w.heap.size 24 #[.int .i64 K, .slice AI (n + 1) cI] := by simpa using C0.set_ 1 (.slice AI (n + 1) cI)
                  have hbz := hbz.setCell (p := ⟨w.heap.size, 1, none⟩) (Nat.le_refl _) (.slice AI (n + 1) cI)
                  have hown := own_apart hownI (p := ⟨w.heap.size, 1, none⟩) (own_blk_ne hownI C0 (by decide)) (.slice AI (n + 1) cI)
                  generalize wI.setCell ⟨w.heap.size, 1, none⟩ (.slice AI (n + 1) cI) = wJ at *
                  have c0 := E0.cell 0
                  have c1 := E0.cell 1
                  have d0 := D.cell 0
                  have d1 := D.cell 1
                  have f0 := C1.frozen 0
                  have f1 := C1.frozen 1
                  have f2 := C2.frozen 0
                  have f3 := C2.frozen 1
                  have k0 := C1.cell 0
                  have k1 := C1.cell 1
                  have k2 := C2.cell 0
                  have k3 := C2.cell 1
                  simp only [List.getElem?_toArray, List.getElem?_cons_zero, List.getElem?_cons_succ] at c0 c1 d0 d1 k0 k1 k2 k3
                  have HO := Lib.hid hown
                  clear hownI hbI hown
                  have n1 : ¬ w1.heap.size = w.heap.size + 1 := by omega
                  have n2 : ¬ w1.heap.size = w.heap.size + 1 + 1 := by omega
                  have n3 : ¬ w.heap.size + 1 = w1.heap.size := by omega
                  have n4 : ¬ w.heap.size + 1 + 1 = w1.heap.size := by omega
                  have n5 : ¬ w.heap.size + 1 + 1 = w.heap.size := by omega
                  have n6 : ¬ w.heap.size = w.heap.size + 1 + 1 := by omega
                  go_wp2
                  go_region_held3 (fun w' => w'.cell? ⟨w.heap.size, 0, none⟩ = some (.int .i64 K) ∧ w'.cell? ⟨w.heap.size, 1, none⟩ = some (.slice AI (n + 1) cI) ∧ w'.cell? ⟨w1.heap.size, 0, none⟩ = some (.int .i64 a) ∧ w'.cell? ⟨w1.heap.size, 1, none⟩ = some (.int .i64 P)) (go_keep) (fail)
                  all_goals
                    have hne := fun (p : Addr) (hp : p.block < wz.heap.size) (h : (Value.slice AI (n + 1) cI).ownBlock = some p.block) => Nat.lt_irrefl p.block (Nat.lt_of_lt_of_le hp (HO.out.lt _ h).1)
                    have HO2 := Lib.hid (own_mono (own_apart (own_apart (own_apart (own_apart HO.out (p := ⟨w.heap.size + 1, 0, none⟩) (hne _ s1) (.int .i64 K)) (p := ⟨w.heap.size + 1, 1, none⟩) (hne _ s1) (.slice AI (n + 1) cI)) (p := ⟨w.heap.size + 1 + 1, 0, none⟩) (hne _ s2) (.int .i64 a)) (p := ⟨w.heap.size + 1 + 1, 1, none⟩) (hne _ s2) (.int .i64 P)) (Nat.le_of_lt s0))
                    clear hne
                    go_wp2
                    refine bodyPost_ret (v := .tuple #[.agg #[.int .i64 K, .slice AI (n + 1) cI], .agg #[.int .i64 a, .int .i64 P], .int .i64 0]) ?_ rfl ⟨.inr ?_, ?_⟩
                    · simp only [results, Try.results12]
                      go_simp
                    · have hP := HH.out
                      subst hP
                      exact ⟨AI, cI, a, jj, k, HF.out, HU.out, hu4, HI.out, rfl, HO2.out.drew⟩
                    · refine Below.drew ?_
                      iterate 4 refine Below.setCell ?_ (by dsimp only; omega) _
                      exact hbz
end Go.Proofs.Ytdlmnnibgpfdbab
