/-
  FaintLeast answers true for all arenas and lists within the bulk of the statement, and changes no argument: the set that ephemerons keep alive is the least closed set.
-/
import Derived.Test.YthfjopnomkfegabFaintFns
import Derived.Test.YthfjopnomkfegabSlicesFaint
import Derived.Test.YthfjopnomkfegabCloneInt
import Derived.BigQuiet
namespace Go.Proofs.Ythfjopnomkfegab
open Go.RowKit

/-- Closed under what is named, what one begins with, and the pairs. -/
def ClosedF (a : List Int) (S : List Spot) (f : List Int) (ps : List Rn) (X : List Int) : Prop :=
  (∀ z ∈ begsL S, z ∈ X → ∀ y ∈ linksAt a S z, y ∈ X) ∧ (∀ z ∈ f, z ∈ X) ∧ PairsIn ps X

set_option maxRecDepth 100000 in
set_option maxHeartbeats 1000000 in
theorem pairF_any (AX : Option Addr) (nX cX : Nat) (X : List Int) (s : Rn) (g4 B : Nat) (w : World) (hX : Reads w B 1 AX nX (X.map (.int .i64))) (hnX : nX ≤ 1000000000000000000) (B4 : Blk w g4 23 #[.slice AX nX cX]) (hB : B ≤ w.heap.size) :
    Calls Try.prog 27 #[.agg #[.int .i64 s.loc, .int .i64 s.len], .pointer (some ⟨g4, 0, none⟩)] w fun e w' => e = .returned (.bool (decide (s.loc ∈ X) && !decide (s.len ∈ X))) ∧ Below w.heap.size w w' := by
  obtain ⟨kx, vx⟩ := s
  dsimp only
  have hbn := below_new w (.cells #[.int .i64 kx, .int .i64 vx] 44)
  have D0 := Blk.new w 44 #[.int .i64 kx, .int .i64 vx]
  have B4 := B4.alloc (.cells #[.int .i64 kx, .int .i64 vx] 44)
  have d0 := D0.cell 0
  have d1 := D0.cell 1
  have k4 := B4.cell 0
  simp only [List.getElem?_toArray, List.getElem?_cons_zero, List.getElem?_cons_succ] at d0 d1 k4
  have hX1 := hX.alloc hB (.cells #[.int .i64 kx, .int .i64 vx] 44)
  cases hk : decide (kx ∈ X)
  · have HC := Lib.hid (contains_int AX nX cX _ X kx false _ hX1 hnX hk)
    clear hk hX hX1
    go_enter Try.func27, Try.ntmps27
    go_wp2_with fail
    refine HC.out.mono ?_
    rintro e w' ⟨rfl, rfl⟩
    go_wp2
    go_ret
    exact ⟨by first | rfl | simp, hbn⟩
  · have HC := Lib.hid (contains_int AX nX cX _ X kx true _ hX1 hnX hk)
    obtain ⟨b, hb⟩ : ∃ b, b = decide (vx ∈ X) := ⟨_, rfl⟩
    rw [← hb]
    have HC2 := Lib.hid (fun u => contains_int AX nX cX _ X vx b ((w.alloc (.cells #[.int .i64 kx, .int .i64 vx] 44)).drewN u) (hX1.drewN u) hnX hb.symm)
    clear hk hX hX1 hb
    go_enter Try.func27, Try.ntmps27
    go_wp2_with fail
    refine HC.out.mono ?_
    rintro e w' ⟨rfl, rfl⟩
    go_wp2_with fail
    refine (HC2.out 0).mono ?_
    rintro e w' ⟨rfl, rfl⟩
    go_wp2
    go_ret
    exact ⟨by first | rfl | simp, hbn⟩

set_option maxRecDepth 100000 in
set_option maxHeartbeats 2000000 in
theorem closedF_any (A : Option Addr) (n c : Nat) (a : List Int) (A2 : Option Addr) (n2 c2 : Nat) (f : List Int) (A3 : Option Addr) (n3 c3 : Nat) (ps : List Rn) (AX : Option Addr) (nX cX : Nat) (X : List Int) (g4 g5 g6 : Nat) (b : Bool) (w : World)
    (hr : Reads w w.heap.size 1 A n (a.map (.int .u64))) (hnc : n ≤ c) (ha : ∀ x ∈ a, (Lit.int .u64 x).wf = true) (hE : checkE a = 0) (hr2 : Reads w w.heap.size 1 A2 n2 (f.map (.int .i64))) (hn2 : n2 ≤ 1000000000000000000)
    (hr3 : Reads w w.heap.size 2 A3 n3 (runsC ps)) (hn3 : n3 ≤ 1000000000000000000) (hX : Reads w w.heap.size 1 AX nX (X.map (.int .i64))) (hnX : nX ≤ 1000000000000000000)
    (B4 : Blk w g4 22 #[.slice A n c]) (B5 : Blk w g5 23 #[.slice A2 n2 c2]) (B6 : Blk w g6 40 #[.slice A3 n3 c3]) (hb : b = true ↔ ClosedF a (spotsL a) f ps X) :
    Calls Try.prog 25 #[.slice AX nX cX, .pointer (some ⟨g4, 0, none⟩), .pointer (some ⟨g5, 0, none⟩), .pointer (some ⟨g6, 0, none⟩)] w fun e w' => e = .returned (.bool b) ∧ Below w.heap.size w w' := by
  have h0 := (checkE_ok.1 hE).1
  have hal := (parse_ok h0).1
  have HRf := Lib.hid (fun z s w hr hs => refsAt_ok A n c a z s w hr hnc ha hE hs)
  have HBg := Lib.hid (fun w hr => begins_any A n c a w hr ha)
  have hkb : (begsL (spotsL a)).length ≤ 256 := by
    unfold begsL
    rw [List.length_map]
    have := List.length_filter_le (fun s : Spot => !s.f) (spotsL a)
    have := spotsL_length a
    omega
  have HLn : Hid (∀ s, (linksL a s).length ≤ 256) := by
    intro s
    have h1 : (linksL a s).length ≤ (refsOf a s).length := by
      unfold linksL
      rw [List.length_map]
      exact List.length_filter_le _ _
    have h2 : (refsOf a s).length ≤ a.length := by unfold refsOf; rw [List.length_take, List.length_drop]; omega
    omega
  generalize spotsL a = S at *
  have HB : Hid (b = true ↔ ClosedF a S f ps X) := hb
  clear hE h0 ha hal hb
  have hbn := below_new w (.cells #[.slice AX nX cX] 23)
  have D0 := Blk.new w 23 #[.slice AX nX cX]
  have hX1 := (hX.below hbn).more hbn.size
  have B4 := B4.below hbn B4.lt
  have B5 := B5.below hbn B5.lt
  have B6 := B6.below hbn B6.lt
  have k4 := B4.cell 0
  simp only [List.getElem?_toArray, List.getElem?_cons_zero, List.getElem?_cons_succ] at k4
  go_enter Try.func25, Try.ntmps25
  go_wp2_with fail
  refine (HBg.out _ ((hr.below hbn).more hbn.size)).mono ?_
  rintro e w1 ⟨hb1, A7, c7, rfl, hown7⟩
  have hb01 := below_step hbn hb1
  have D1 := D0.below hb1 D0.lt
  have B41 := B4.below hb1 B4.lt
  have B51 := B5.below hb1 B5.lt
  have B61 := B6.below hb1 B6.lt
  have hX2 := (hX1.below hb1).more hb1.size
  have hrB := Reads.of_own hown7
  obtain ⟨kb, hkb2⟩ : ∃ kb, kb = (begsL S).length := ⟨_, rfl⟩
  rw [← hkb2] at hrB hkb
  rw [← hkb2]
  have HKB := Lib.hid hkb2
  clear hown7 hkb2 D0 B4 B5 B6 k4 hX1 hX hbn
  go_wp2
  go_loopw [11] (fun i wr => ∃ j : Nat, j ≤ kb ∧ i = .int .i64 j ∧ Hid (∀ z ∈ (begsL S).take j, z ∈ X → ∀ y ∈ linksAt a S z, y ∈ X) ∧ Below w1.heap.size w1 wr) (fun i _ => kb - (intOf i).toNat)
  case atStart => exact ⟨0, Nat.zero_le _, rfl, by intro z hz; simp at hz, Below.refl _ _⟩
  case round =>
    obtain ⟨j, hj, rfl, HI, hb⟩ := hrel
    have hbw := below_step hb01 hb
    have DR := D1.below hb D1.lt
    have BR4 := B41.below hb B41.lt
    have BR5 := B51.below hb B51.lt
    have BR6 := B61.below hb B61.lt
    have kD := DR.cell 0
    have k4 := BR4.cell 0
    have k5 := BR5.cell 0
    have k6 := BR6.cell 0
    simp only [List.getElem?_toArray, List.getElem?_cons_zero, List.getElem?_cons_succ] at kD k4 k5 k6
    by_cases hlt : j < kb
    · obtain ⟨ad, z, rfl, had, hz, cz⟩ := (hrB.below hb).num hlt
      have hj1 : j + 1 ≤ kb := hlt
      have HT : Hid ((begsL S).take (j + 1) = (begsL S).take j ++ [z]) := by
        show _ = _
        obtain ⟨q1, q2⟩ := List.getElem?_eq_some_iff.1 hz
        rw [List.take_succ_eq_append_getElem q1, q2]
      by_cases hm : z ∈ X
      · obtain ⟨s, hs⟩ := begsL_iff.1 (List.mem_of_getElem? hz)
        have hlk : linksAt a S z = linksL a s := by unfold linksAt; rw [hs]
        have HLK := Lib.hid hlk
        have HZ := Lib.hid (List.mem_of_getElem? hz)
        have HRr := Lib.hid (fun w' hr' => HRf.out z s w' hr' hs)
        have HLe := Lib.hid (HLn.out s)
        have HM := Lib.hid hm
        have hbz := hb.drew
        have DZ := DR.drew
        have BZ4 := BR4.drew
        obtain ⟨bw, hbw2⟩ : ∃ bw, bw = decide (∀ y ∈ linksL a s, y ∈ X) := ⟨_, rfl⟩
        have HBW := Lib.hid hbw2
        clear hz hs hlk hm hbw2
        generalize linksL a s = M at *
        cases bw
        · have HN : Hid (¬ ClosedF a S f ps X) := fun h => by
            have h1 := h.1 z HZ.out HM.out
            rw [HLK.out] at h1
            exact of_decide_eq_false HBW.out.symm h1
          have hb0 : b = false := by
            cases b
            · rfl
            · exact absurd (HB.out.1 rfl) HN.out
          subst hb0
          go_wp2
          go_region_held3 (fun w' => w'.cell? ⟨w.heap.size, 0, none⟩ = some (.slice AX nX cX) ∧ w'.cell? ⟨g4, 0, none⟩ = some (.slice A n c)) (go_keep)
            (first
              | (go_at_call 17; with_reducible refine (HRr.out _ ((hr.below (below_step hb01 hbz)).more (below_step hb01 hbz).size)).mono ?_; rintro e wA ⟨hbA, A1, c1, rfl, hownA⟩; have DZ := DZ.below hbA DZ.lt; have BZ4 := BZ4.below hbA BZ4.lt; have kD := DZ.cell 0; have k4 := BZ4.cell 0; simp only [List.getElem?_toArray, List.getElem?_cons_zero, List.getElem?_cons_succ] at kD k4; have hbz := hbz.trans (hbA.mono hbz.size); have hrA := Reads.of_own hownA)
              | (go_at_call 16; with_reducible refine (contains_int AX nX cX _ X z true _ (hX2.below hbz) hnX (decide_eq_true HM.out)).mono ?_; rintro e wB ⟨rfl, rfl⟩)
              | (go_at_call 13; with_reducible refine (within_two A1 AX M.length c1 nX cX M X false _ hrA (by have := HLe.out; omega) ((hX2.below hbz).more hbz.size) hnX HBW.out.symm).mono ?_; rintro e wC ⟨rfl, hbC⟩; have DZ := DZ.below hbC DZ.lt; have BZ4 := BZ4.below hbC BZ4.lt; have kD := DZ.cell 0; have k4 := BZ4.cell 0; simp only [List.getElem?_toArray, List.getElem?_cons_zero, List.getElem?_cons_succ] at kD k4; have hbz := hbz.trans (hbC.mono hbz.size)))
          all_goals
            go_wp2
            go_ret
            exact ⟨by first | rfl | simp, below_step hb01 hbz⟩
        · have HI2 : Hid (∀ z ∈ (begsL S).take (j + 1), z ∈ X → ∀ y ∈ linksAt a S z, y ∈ X) := by
            intro u hu huX
            rw [HT.out, List.mem_append] at hu
            rcases hu with hu | hu
            · exact HI.out u hu huX
            · simp only [List.mem_cons, List.not_mem_nil, or_false] at hu
              subst hu
              rw [HLK.out]
              exact of_decide_eq_true HBW.out.symm
          go_wp2
          go_region_held3 (fun w' => w'.cell? ⟨w.heap.size, 0, none⟩ = some (.slice AX nX cX) ∧ w'.cell? ⟨g4, 0, none⟩ = some (.slice A n c)) (go_keep)
            (first
              | (go_at_call 17; with_reducible refine (HRr.out _ ((hr.below (below_step hb01 hbz)).more (below_step hb01 hbz).size)).mono ?_; rintro e wA ⟨hbA, A1, c1, rfl, hownA⟩; have DZ := DZ.below hbA DZ.lt; have BZ4 := BZ4.below hbA BZ4.lt; have kD := DZ.cell 0; have k4 := BZ4.cell 0; simp only [List.getElem?_toArray, List.getElem?_cons_zero, List.getElem?_cons_succ] at kD k4; have hbz := hbz.trans (hbA.mono hbz.size); have hrA := Reads.of_own hownA)
              | (go_at_call 16; with_reducible refine (contains_int AX nX cX _ X z true _ (hX2.below hbz) hnX (decide_eq_true HM.out)).mono ?_; rintro e wB ⟨rfl, rfl⟩)
              | (go_at_call 13; with_reducible refine (within_two A1 AX M.length c1 nX cX M X true _ hrA (by have := HLe.out; omega) ((hX2.below hbz).more hbz.size) hnX HBW.out.symm).mono ?_; rintro e wC ⟨rfl, hbC⟩; have DZ := DZ.below hbC DZ.lt; have BZ4 := BZ4.below hbC BZ4.lt; have kD := DZ.cell 0; have k4 := BZ4.cell 0; simp only [List.getElem?_toArray, List.getElem?_cons_zero, List.getElem?_cons_succ] at kD k4; have hbz := hbz.trans (hbC.mono hbz.size)))
          all_goals
            go_wp2
            go_roundw
            case rel => exact ⟨j + 1, hj1, by go_num, HI2, hbz⟩
            case measure => simp [intOf]; omega
      · have HCn := Lib.hid (fun u => contains_int AX nX cX _ X z false (wr.drewN u) ((hX2.below hb).drewN u) hnX (decide_eq_false hm))
        have HI2 : Hid (∀ z ∈ (begsL S).take (j + 1), z ∈ X → ∀ y ∈ linksAt a S z, y ∈ X) := by
          intro u hu huX
          rw [HT.out, List.mem_append] at hu
          rcases hu with hu | hu
          · exact HI.out u hu huX
          · simp only [List.mem_cons, List.not_mem_nil, or_false] at hu
            subst hu
            exact absurd huX hm
        clear hz hm
        go_wp2
        go_quiet ((go_at_call 16; refine (HCn.out _).mono ?_; rintro e w' ⟨rfl, rfl⟩; exact ⟨rfl, _, rfl⟩))
        go_wp2
        go_roundw
        case rel => exact ⟨j + 1, hj1, by go_num, HI2, below_drewN hb _⟩
        case measure => simp [intOf]; omega
    · have hjk : j = kb := by omega
      have g0 : decide (j < kb) = false := decide_eq_false hlt
      have HAllC : Hid (∀ z ∈ begsL S, z ∈ X → ∀ y ∈ linksAt a S z, y ∈ X) := by
        have h1 := HI.out
        rw [hjk, List.take_of_length_le (by rw [HKB.out]; exact Nat.le_refl _)] at h1
        exact h1
      clear hjk HI
      by_cases hfX : ∀ z ∈ f, z ∈ X
      · have HW := Lib.hid (within_two A2 AX n2 c2 nX cX f X true wr ((hr2.below hbw).more hbw.size) hn2 ((hX2.below hb).more hb.size) hnX (decide_eq_true hfX))
        have HFX := Lib.hid hfX
        clear hfX
        go_wp2_with fail
        refine HW.out.mono ?_
        rintro e w8 ⟨rfl, hb8⟩
        have hbx := hb.trans (hb8.mono hb.size)
        have hb0x := below_step hb01 hbx
        have D8 := D1.below hbx D1.lt
        have B68 := B61.below hbx B61.lt
        have k6' := B68.cell 0
        simp only [List.getElem?_toArray, List.getElem?_cons_zero, List.getElem?_cons_succ] at k6'
        have hCF := containsFaint_any 27 (.pointer (some ⟨w.heap.size, 0, none⟩)) A3 n3 c3 _ ps (fun s => decide (s.loc ∈ X) && !decide (s.len ∈ X)) w8 ((hr3.below hb0x).more hb0x.size) (Nat.le_refl _) hn3 (plain_of (fn := Try.f27) Try.func27 (by kernel_rfl) (by kernel_rfl)) (fun w' s hb' _ =>
          pairF_any AX nX cX X s w.heap.size w1.heap.size w' ((hX2.below hbx).below (hb'.mono hbx.size)) hnX (D8.below hb' D8.lt) (by have := hbx.size; have := hb'.size; omega))
        obtain ⟨bp, hbp⟩ : ∃ bp, bp = ps.any (fun s => decide (s.loc ∈ X) && !decide (s.len ∈ X)) := ⟨_, rfl⟩
        rw [← hbp] at hCF
        have HCF := Lib.hid hCF
        have hres : b = !bp := by
          have h1 : bp = false ↔ PairsIn ps X := by
            rw [hbp, List.any_eq_false]
            unfold PairsIn
            constructor
            · intro h p hp hk
              have := h p hp
              simpa [hk] using this
            · intro h p hp
              by_cases hk : p.loc ∈ X
              · simp [hk, h p hp hk]
              · simp [hk]
          cases hbb : bp
          · exact HB.out.2 ⟨HAllC.out, HFX.out, h1.1 hbb⟩
          · cases hb2 : b
            · rfl
            · have := h1.2 (HB.out.1 hb2).2.2
              rw [hbb] at this; cases this
        have HRes := Lib.hid hres
        clear hCF hbp hres
        go_wp2_with fail
        refine HCF.out.mono ?_
        rintro e w9 ⟨rfl, hb9⟩
        go_wp2
        go_ret
        exact ⟨by rw [HRes.out]; first | rfl | simp, below_step hb0x hb9⟩
      · have HW := Lib.hid (within_two A2 AX n2 c2 nX cX f X false wr ((hr2.below hbw).more hbw.size) hn2 ((hX2.below hb).more hb.size) hnX (decide_eq_false hfX))
        have hb0 : b = false := by
          cases hb2 : b
          · rfl
          · exact absurd (HB.out.1 hb2).2.1 hfX
        subst hb0
        clear hfX
        go_wp2_with fail
        refine HW.out.mono ?_
        rintro e w8 ⟨rfl, hb8⟩
        go_wp2
        go_ret
        exact ⟨by first | rfl | simp, below_step hbw hb8⟩

theorem Kept.closedF {a : List Int} {S : List Spot} {f : List Int} {ps : List Rn} {L : List Int} (h : Kept a S f ps L) : ClosedF a S f ps L :=
  ⟨fun z _ hz => h.keeping.closed z hz, h.keeping.roots, h.pairs⟩
theorem Kept.inside {a : List Int} {S : List Spot} {f : List Int} {ps : List Rn} {L X : List Int} (h : Kept a S f ps L) (hX : ClosedF a S f ps X) : ∀ z ∈ L, z ∈ X :=
  h.keeping.least (· ∈ X) hX.2.1 (fun z hz y hy => by
    by_cases hzb : z ∈ begsL S
    · exact hX.1 z hzb hz y hy
    · have : linksAt a S z = [] := by
        unfold linksAt
        cases hsp : spotAt S z with
        | none => rfl
        | some s => exact absurd (begsL_iff.2 ⟨s, hsp⟩) hzb
      rw [this] at hy
      cases hy) hX.2.2

set_option maxRecDepth 100000 in
set_option maxHeartbeats 2000000 in
theorem faintLeast_any (A : Option Addr) (n c : Nat) (a : List Int) (A2 : Option Addr) (n2 c2 : Nat) (f : List Int) (A3 : Option Addr) (n3 c3 : Nat) (ps : List Rn) (A9 : Option Addr) (n9 c9 : Nat) (x : List Int) (w : World) (hr : Reads w w.heap.size 1 A n (a.map (.int .u64))) (hnc : n ≤ c) (hc : c ≤ maxLen) (ha : ∀ x ∈ a, (Lit.int .u64 x).wf = true)
    (hr2 : Reads w w.heap.size 1 A2 n2 (f.map (.int .i64))) (hnc2 : n2 ≤ c2) (hc2 : c2 ≤ maxLen) (hx2 : ∀ x ∈ f, (Lit.int .i64 x).wf = true)
    (hr3 : Reads w w.heap.size 2 A3 n3 (runsC ps)) (hnc3 : n3 ≤ c3) (hc3 : c3 ≤ maxLen) (hx3 : ∀ x ∈ pairsL ps, (Lit.int .i64 x).wf = true)
    (hr9 : Reads w w.heap.size 1 A9 n9 (x.map (.int .i64))) (hnc9 : n9 ≤ c9) (hc9 : c9 ≤ maxLen) (hx9 : ∀ z ∈ x, (Lit.int .i64 z).wf = true) (hm2 : n2 ≤ 1048576) (hm3 : n3 ≤ 1048576) (hm9 : n9 ≤ 1048576) :
    Calls Try.prog 7 #[.slice A n c, .slice A2 n2 c2, .slice A3 n3 c3, .slice A9 n9 c9] w fun e w' => e = .returned (.bool true) ∧ Below w.heap.size w w' := by
  clear hc hnc2 hc2 hnc3 hc3 hnc9 hc9 hx9
  have hcf := fun (x y z u : Value) (w : World) => (plain_of (fn := Try.f25) Try.func25 (by kernel_rfl) (by kernel_rfl)) #[x, y, z, u] w
  have H1 := Lib.hid (fun w hr hr2 hr3 => keepF_any A n c a A2 n2 c2 f A3 n3 c3 ps w hr hnc ha hr2 (by omega) hx2 hr3 (by omega) hx3)
  have H2 := Lib.hid (fun AX nX cX X g4 g5 g6 b w hr hE hr2 hr3 hX hnX B4 B5 B6 hb => closedF_any A n c a A2 n2 c2 f A3 n3 c3 ps AX nX cX X g4 g5 g6 b w hr hnc ha hE hr2 (by omega) hr3 (by omega) hX hnX B4 B5 B6 hb)
  obtain ⟨i0, hi, hz0, hz1, hz2⟩ := info_parts info_int
  have B4 := ((Blk.new w 22 #[.slice A n c]).alloc (.cells #[.slice A2 n2 c2] 23)).alloc (.cells #[.slice A3 n3 c3] 40)
  have B5 := (Blk.new (w.alloc (.cells #[.slice A n c] 22)) 23 #[.slice A2 n2 c2]).alloc (.cells #[.slice A3 n3 c3] 40)
  have B6 := Blk.new ((w.alloc (.cells #[.slice A n c] 22)).alloc (.cells #[.slice A2 n2 c2] 23)) 40 #[.slice A3 n3 c3]
  have hb0 := below_step (below_step (below_new w (.cells #[.slice A n c] 22)) (below_new (w.alloc (.cells #[.slice A n c] 22)) (.cells #[.slice A2 n2 c2] 23))) (below_new ((w.alloc (.cells #[.slice A n c] 22)).alloc (.cells #[.slice A2 n2 c2] 23)) (.cells #[.slice A3 n3 c3] 40))
  simp only [World.size_alloc] at B5 B6
  clear ha hx2 hx3
  go_enter Try.func7, Try.ntmps7
  go_wp2_with fail
  refine (faints_true _).mono ?_
  rintro e w1 ⟨rfl, hb1⟩
  have hb01 := below_step hb0 hb1
  have B41 := B4.below hb1 B4.lt
  have B51 := B5.below hb1 B5.lt
  have B61 := B6.below hb1 B6.lt
  have k4 := B41.cell 0
  have k5 := B51.cell 0
  have k6 := B61.cell 0
  simp only [List.getElem?_toArray, List.getElem?_cons_zero, List.getElem?_cons_succ] at k4 k5 k6
  clear B4 B5 B6 hb0 hb1
  have H1' := Lib.hid (H1.out w1 ((hr.below hb01).more hb01.size) ((hr2.below hb01).more hb01.size) ((hr3.below hb01).more hb01.size))
  go_wp2_with fail
  refine H1'.out.mono ?_
  rintro e w2 ⟨hb2, ⟨hok, L, A7, c7, hL, h256, rfl, hown⟩ | ⟨hno, er, her, rfl⟩⟩
  · have hb02 := below_step hb01 hb2
    have hE := Lib.hid hok.1
    have HL := Lib.hid hL
    obtain ⟨k, hk⟩ : ∃ k, k = L.length := ⟨_, rfl⟩
    rw [← hk] at hown h256 ⊢
    have hrL := Reads.of_own hown
    have B42 := B41.below hb2 B41.lt
    have B52 := B51.below hb2 B51.lt
    have B62 := B61.below hb2 B61.lt
    have k5' := B52.cell 0
    simp only [List.getElem?_toArray, List.getElem?_cons_zero, List.getElem?_cons_succ] at k5'
    clear hok hL hown hk H1' k4 k5 k6 B41 B51 B61 hb01 hb2
    have hbz := (Below.refl w2.heap.size w2).drew
    have BZ5 := B52.drew
    have hr92 := (hr9.below hb02).more hb02.size
    have hr22 := (hr2.below hb02).more hb02.size
    go_wp2
    go_region_held3 (fun w' => w'.cell? ⟨w.heap.size + 1, 0, none⟩ = some (.slice A2 n2 c2)) (go_keep)
      (first
        | (go_at_call 14; with_reducible refine (clone_int A9 n9 c9 _ (x.map (.int .i64)) _ (hr92.below hbz) hbz.size (ints_one x) (by omega)).mono ?_; rintro e wA ⟨AX, cX, rfl, hownX, hbA⟩; have BZ5 := BZ5.below hbA BZ5.lt; have k5' := BZ5.cell 0; simp only [List.getElem?_toArray, List.getElem?_cons_zero, List.getElem?_cons_succ] at k5'; have hownX := own_mono hownX hbz.size; have hbz := hbz.trans (hbA.mono hbz.size))
        | (obtain ⟨v', w3, hrun, hown3, hgr, -, -⟩ := run_append_any (P := Try.prog) _ w2.heap.size 23 23 3 i0 (.int .i64 0) 1 8 Try.underlying23 hi hz0 hz1 hz2 rfl (by decide) (.slice AX n9 cX) n9 _ hownX _ A2 n2 c2 (f.map (.int .i64)) (hr22.below hbz) (ints_one f) (by unfold maxLen; omega) (by omega) hbz.size; refine step_append_run rfl (.tmp 28) (.tmp 29) 23 23 rfl (.slice AX n9 cX) (.slice A2 n2 c2) (by simp [Act.eval, Act.put]) (by simp [Act.eval, Act.put]) hrun ?_; have BZ5 := BZ5.grown hgr (fun h => by have := (hownX.lt _ h.symm).1; have := hb02.size; have := B52.lt; omega); have k5' := BZ5.cell 0; simp only [List.getElem?_toArray, List.getElem?_cons_zero, List.getElem?_cons_succ] at k5'; have hbz := hbz.grown hgr hbz.size (fun g hg => (hownX.lt g hg).1)))
    all_goals
      obtain ⟨A6, c6, rfl⟩ := own_slice hown3
      rw [← List.map_append] at hown3
      have hrX := Reads.of_own hown3
      obtain ⟨X, hX⟩ : ∃ X, X = x ++ f := ⟨_, rfl⟩
      obtain ⟨nX, hnX⟩ : ∃ nX, nX = n9 + n2 := ⟨_, rfl⟩
      rw [← hX, ← hnX] at hrX
      rw [← hnX]
      have hnXl : nX ≤ 3000000 := by omega
      have hb03 := below_step hb02 hbz
      have B43 := B42.below hbz B42.lt
      have B63 := B62.below hbz B62.lt
      have hrL3 := (hrL.below hbz).more hbz.size
      have HC1 := Lib.hid (H2.out A7 k c7 L w.heap.size (w.heap.size + 1) (w.heap.size + 1 + 1) true _ ((hr.below hb03).more hb03.size) hE.out ((hr2.below hb03).more hb03.size) ((hr3.below hb03).more hb03.size) hrL3 (by omega) B43 BZ5 B63 (by simp [HL.out.closedF]))
      clear hown3 hgr hrun hownX hnX hX hbA k5'
      go_wp2_with fail
      refine HC1.out.mono ?_
      rintro e w4 ⟨rfl, hb4⟩
      have hb04 := below_step hb03 hb4
      have hrX4 := (hrX.below hb4).more hb4.size
      have hrL4 := (hrL3.below hb4).more hb4.size
      have B44 := B43.below hb4 B43.lt
      have B54 := BZ5.below hb4 BZ5.lt
      have B64 := B63.below hb4 B63.lt
      by_cases hcl : ClosedF a (spotsL a) f ps X
      · have HC2 := Lib.hid (H2.out A6 nX c6 X w.heap.size (w.heap.size + 1) (w.heap.size + 1 + 1) true _ ((hr.below hb04).more hb04.size) hE.out ((hr2.below hb04).more hb04.size) ((hr3.below hb04).more hb04.size) hrX4 (by omega) B44 B54 B64 (by simp [hcl]))
        have HI := Lib.hid (HL.out.inside hcl)
        clear hcl
        go_wp2_with fail
        refine HC2.out.mono ?_
        rintro e w5 ⟨rfl, hb5⟩
        have HW := Lib.hid (within_two A7 A6 k c7 nX c6 L X true _ ((hrL4.below hb5).more hb5.size) (by omega) ((hrX4.below hb5).more hb5.size) (by omega) (decide_eq_true HI.out))
        have hb05 := below_step hb04 hb5
        go_wp2_with fail
        refine HW.out.mono ?_
        rintro e w6 ⟨rfl, hb6⟩
        go_wp2
        go_ret
        exact ⟨by first | rfl | simp, below_step hb05 hb6⟩
      · have HC2 := Lib.hid (H2.out A6 nX c6 X w.heap.size (w.heap.size + 1) (w.heap.size + 1 + 1) false _ ((hr.below hb04).more hb04.size) hE.out ((hr2.below hb04).more hb04.size) ((hr3.below hb04).more hb04.size) hrX4 (by omega) B44 B54 B64 (by simp [hcl]))
        clear hcl
        go_wp2_with fail
        refine HC2.out.mono ?_
        rintro e w5 ⟨rfl, hb5⟩
        go_wp2
        go_ret
        exact ⟨by first | rfl | simp, below_step hb04 hb5⟩
  · have her2 := her
    clear hno her
    go_wp2
    go_ret
    exact ⟨by first | rfl | simp, below_step hb01 hb2⟩
end Go.Proofs.Ythfjopnomkfegab
