/-
  FaintMore answers true for all arenas, lists and numbers, and changes no argument: additional ephemerons keep more objects alive, none keep exactly the reachable ones, and clearing ephemerons keeps nothing else alive.
-/
import Derived.Test.YthfjopnomkfegabFaintFns
import Derived.Test.YthfjopnomkfegabDeleteFaint
import Derived.Test.YthfjopnomkfegabSlicesInt
import Derived.Test.YthfjopnomkfegabGood
import Derived.Test.YthfjopnomkfegabLawFaints
import Derived.Test.YthfjopnomkfegabLaw
import Derived.Test.YthfjopnomkfegabLawNums
namespace Go.Proofs.Ythfjopnomkfegab
open Go.RowKit

set_option maxRecDepth 100000 in
set_option maxHeartbeats 1000000 in
theorem clearF_any (AX : Option Addr) (nX cX : Nat) (X : List Int) (s : Rn) (g4 B : Nat) (w : World) (hX : Reads w B 1 AX nX (X.map (.int .i64))) (hnX : nX ≤ 1000000000000000000) (B4 : Blk w g4 23 #[.slice AX nX cX]) (hB : B ≤ w.heap.size) :
    Calls Try.prog 50 #[.agg #[.int .i64 s.loc, .int .i64 s.len], .pointer (some ⟨g4, 0, none⟩)] w fun e w' => e = .returned (.bool (!decide (s.loc ∈ X))) ∧ Below w.heap.size w w' := by
  obtain ⟨kx, vx⟩ := s
  dsimp only
  have hbn := below_new w (.cells #[.int .i64 kx, .int .i64 vx] 44)
  have D0 := Blk.new w 44 #[.int .i64 kx, .int .i64 vx]
  have B4 := B4.alloc (.cells #[.int .i64 kx, .int .i64 vx] 44)
  have d0 := D0.cell 0
  have k4 := B4.cell 0
  simp only [List.getElem?_toArray, List.getElem?_cons_zero, List.getElem?_cons_succ] at d0 k4
  have hX1 := hX.alloc hB (.cells #[.int .i64 kx, .int .i64 vx] 44)
  obtain ⟨b, hb⟩ : ∃ b, b = decide (kx ∈ X) := ⟨_, rfl⟩
  rw [← hb]
  have HC := Lib.hid (contains_int AX nX cX _ X kx b _ hX1 hnX hb.symm)
  clear hX hX1 hb
  go_enter Try.func50, Try.ntmps50
  go_wp2_with fail
  refine HC.out.mono ?_
  rintro e w' ⟨rfl, rfl⟩
  go_wp2
  go_ret
  exact ⟨by first | rfl | simp, hbn⟩

/-- The pairs whose key is kept. -/
def clearL (L : List Int) (ps : List Rn) : List Rn := keptF (fun s => !decide (s.loc ∈ L)) ps
theorem clearL_mem {L : List Int} {ps : List Rn} {p : Rn} : p ∈ clearL L ps ↔ p ∈ ps ∧ p.loc ∈ L := by
  unfold clearL keptF
  simp [List.mem_filter]

set_option maxRecDepth 100000 in
set_option maxHeartbeats 2000000 in
theorem clear_any (A : Option Addr) (n c : Nat) (a : List Int) (A2 : Option Addr) (n2 c2 : Nat) (f : List Int) (A3 : Option Addr) (n3 c3 : Nat) (ps : List Rn) (w : World) (hr : Reads w w.heap.size 1 A n (a.map (.int .u64))) (hnc : n ≤ c) (ha : ∀ x ∈ a, (Lit.int .u64 x).wf = true)
    (hr2 : Reads w w.heap.size 1 A2 n2 (f.map (.int .i64))) (hn2 : n2 ≤ 1000000000000000000) (hx2 : ∀ x ∈ f, (Lit.int .i64 x).wf = true) (hr3 : Reads w w.heap.size 2 A3 n3 (runsC ps)) (hn3 : n3 ≤ 1000000000000000000) (hx3 : ∀ x ∈ pairsL ps, (Lit.int .i64 x).wf = true) :
    Calls Try.prog 28 #[.slice A n c, .slice A2 n2 c2, .slice A3 n3 c3] w fun e w' => Below w.heap.size w w' ∧
      ((FaintOk a f n3 (pairsL ps) ∧ ∃ (L : List Int) (m : Nat) (A' : Option Addr) (c' : Nat), Kept a (spotsL a) f ps L ∧ m = (clearL L ps).length ∧ m ≤ n3 ∧ e = .returned (.tuple #[.slice A' m c', .int .i64 0]) ∧ w'.ownsRow w.heap.size 44 2 (.slice A' m c') m (runsC (clearL L ps))) ∨
       (¬ FaintOk a f n3 (pairsL ps) ∧ ∃ er : Int, (er != 0) = true ∧ e = .returned (.tuple #[.slice none 0 0, .int .i64 er]))) := by
  have H := Lib.hid (keep_any A n c a A2 n2 c2 f A3 n3 c3 ps w hr hnc ha hr2 hn2 hx2 hr3 hn3 hx3)
  clear hr ha hr2 hx2 hx3
  go_enter Try.func28, Try.ntmps28
  go_wp2_with fail
  refine H.out.mono ?_
  rintro e w1 ⟨hb1, ⟨hok, L, A', c', hL, h256, rfl, hown⟩ | ⟨hno, er, her, rfl⟩⟩
  · have HOK := Lib.hid hok
    have HL := Lib.hid hL
    have h32 : n3 ≤ 32 := by have := hok.2.2.1; omega
    obtain ⟨q, hq⟩ : ∃ q, q = L.length := ⟨_, rfl⟩
    rw [← hq] at hown h256 ⊢
    have hbn := below_new w1 (.cells #[.slice A' q c'] 23)
    have D1 := Blk.new w1 23 #[.slice A' q c']
    have hrL := ((Reads.of_own hown).below hbn).more hbn.size
    have hb2 := below_step hb1 hbn
    have hr32 := (hr3.below hb2).more hb2.size
    clear hok hL hown hq hb1 hbn
    go_wp2_with fail
    refine (clone_faint A3 n3 c3 _ (runsC ps) _ hr32 (Nat.le_refl _) (runsC_one ps) (by omega)).mono ?_
    rintro e w3 ⟨A5, c5, rfl, hown5, hb3⟩
    have D3 := D1.below hb3 D1.lt
    have hrL3 := (hrL.below hb3)
    have hsz3 := hb3.size
    have HDF := Lib.hid (deleteF_faint 50 (.pointer (some ⟨w1.heap.size, 0, none⟩)) (fun s => !decide (s.loc ∈ L)) _ A5 n3 c5 ps w3 hown5 hb3.size (by omega) (plain_of (fn := Try.f50) Try.func50 (by kernel_rfl) (by kernel_rfl)) (fun W s hbW =>
      clearF_any A' q c' L s w1.heap.size _ W (hrL3.below hbW) (by omega) (D3.below hbW D1.lt) (by have := hbW.size; omega)))
    clear hown5
    go_wp2_with fail
    refine HDF.out.mono ?_
    rintro e w4 ⟨hb4, m, hm, hmn, rfl, hown6⟩
    have HO := Lib.hid (own_mono hown6 hb2.size)
    have HM := Lib.hid hm
    have hb04 := below_step hb2 (hb3.trans hb4)
    clear hown6 hm
    go_wp2
    go_ret2
    exact ⟨hb04, .inl ⟨HOK.out, L, m, A5, c5, HL.out, HM.out, hmn, rfl, HO.out⟩⟩
  · have HNO := Lib.hid hno
    have her2 := her
    clear hno her
    go_wp2
    go_ret2
    exact ⟨hb1.alloc hb1.size _, .inr ⟨HNO.out, er, her2, rfl⟩⟩

theorem Kept.sub {a : List Int} {S : List Spot} {f : List Int} {ps qs : List Rn} {L P : List Int} (h : Kept a S f ps L) (hP : Kept a S f qs P) (hq : ∀ p ∈ qs, p ∈ ps) : ∀ x ∈ P, x ∈ L :=
  hP.keeping.least (· ∈ L) h.keeping.roots h.keeping.closed (fun p hp => h.pairs p (hq p hp))
theorem Kept.nil {a : List Int} {S : List Spot} {f Q R : List Int} (h : Kept a S f [] Q) (hR : Reached a S f R) : Q = R :=
  h.unique ⟨Keeping.first hR, fun p hp => by cases hp⟩
theorem Kept.cleared {a : List Int} {S : List Spot} {f : List Int} {ps : List Rn} {L R : List Int} (h : Kept a S f ps L) (hR : Kept a S f (clearL L ps) R) : R = L := by
  refine hR.unique ⟨⟨h.keeping.begs, h.keeping.roots, h.keeping.closed, fun X h1 h2 h3 x hx => ?_, h.keeping.sorted, h.keeping.once⟩, fun p hp => h.pairs p (clearL_mem.1 hp).1⟩
  exact (h.keeping.least (fun x => X x ∧ x ∈ L) (fun z hz => ⟨h1 z hz, h.keeping.roots z hz⟩) (fun z hz y hy => ⟨h2 z hz.1 y hy, h.keeping.closed z hz.2 y hy⟩)
    (fun p hp hk => ⟨h3 p (clearL_mem.2 ⟨hp, hk.2⟩) hk.1, h.pairs p hp hk.2⟩) x hx).1

theorem Reads.cut2 {w : World} {B : Nat} {A : Option Addr} {n k : Nat} {l : List Rn} (h : Reads w B 2 A n (runsC l)) (hk : k ≤ n) : Reads w B 2 A k (runsC (l.take k)) := by
  have hl : l.length = n := by have := h.1; rw [runsC_length] at this; omega
  have e : runsC (l.take k) = (runsC l).take (k * 2) := (flat_take2 runC 2 (fun _ => rfl) l k).symm
  refine ⟨by rw [runsC_length, List.length_take]; omega, fun h0 => ?_⟩
  obtain ⟨ad, e1, hb, hc⟩ := h.2 (by omega)
  refine ⟨ad, e1, hb, fun j u hu => hc j u ?_⟩
  rw [e, List.getElem?_take] at hu
  split at hu
  · exact hu
  · cases hu
theorem pairsL_sub {ps qs : List Rn} (h : ∀ p ∈ qs, p ∈ ps) : ∀ x ∈ pairsL qs, x ∈ pairsL ps := by
  intro x hx
  obtain ⟨p, hp, hxp⟩ := List.mem_flatMap.1 hx
  exact List.mem_flatMap.2 ⟨p, h p hp, hxp⟩

set_option maxRecDepth 100000 in
set_option maxHeartbeats 2000000 in
theorem faintMore_any (A : Option Addr) (n c : Nat) (a : List Int) (A2 : Option Addr) (n2 c2 : Nat) (f : List Int) (A3 : Option Addr) (n3 c3 : Nat) (ps : List Rn) (k : Int) (w : World) (hr : Reads w w.heap.size 1 A n (a.map (.int .u64))) (hnc : n ≤ c) (hc : c ≤ maxLen) (ha : ∀ x ∈ a, (Lit.int .u64 x).wf = true)
    (hr2 : Reads w w.heap.size 1 A2 n2 (f.map (.int .i64))) (hnc2 : n2 ≤ c2) (hc2 : c2 ≤ maxLen) (hx2 : ∀ x ∈ f, (Lit.int .i64 x).wf = true) (hm2 : n2 * 8 ≤ 140737488351232)
    (hr3 : Reads w w.heap.size 2 A3 n3 (runsC ps)) (hnc3 : n3 ≤ c3) (hc3 : c3 ≤ maxLen) (hx3 : ∀ x ∈ pairsL ps, (Lit.int .i64 x).wf = true) (hm3 : n3 * 16 ≤ 140737488351232) (hk : (Lit.int .i64 k).wf = true) :
    Calls Try.prog 8 #[.slice A n c, .slice A2 n2 c2, .slice A3 n3 c3, .int .i64 k] w fun e w' => e = .returned (.bool true) ∧ Below w.heap.size w w' := by
  clear hc hnc2 hc2 hc3 hk
  have H1 := Lib.hid (fun A3 n3 c3 ps w hr hr2 hr3 hn3 hx3 => keepF_any A n c a A2 n2 c2 f A3 n3 c3 ps w hr hnc ha hr2 (by omega) hx2 hr3 hn3 hx3)
  have H2 := Lib.hid (fun w hr hr2 hr3 => clear_any A n c a A2 n2 c2 f A3 n3 c3 ps w hr hnc ha hr2 (by omega) hx2 hr3 (by omega) hx3)
  have H3 := Lib.hid (fun w hr hr2 hE => reach_ok A n c a A2 n2 c2 f w hr hnc ha hr2 (by omega) hx2 hE)
  have HX3 := Lib.hid hx3
  have HBb : Hid (checkE a = 0 → ∀ x ∈ begsL (spotsL a), 0 ≤ x ∧ x < 256) := fun h => begsL_bounds (checkE_ok.1 h).1
  clear ha hx2 hx3
  go_enter Try.func8, Try.ntmps8
  go_wp2_with fail
  refine (faints_true _).mono ?_
  rintro e w1 ⟨rfl, hb1⟩
  have H1' := Lib.hid (H1.out A3 n3 c3 ps w1 ((hr.below hb1).more hb1.size) ((hr2.below hb1).more hb1.size) ((hr3.below hb1).more hb1.size) (by omega) HX3.out)
  go_wp2_with fail
  refine H1'.out.mono ?_
  rintro e w2 ⟨hb2, ⟨hok, L, A4, c4, hL, h256, rfl, hown⟩ | ⟨hno, er, her, rfl⟩⟩
  · have hb02 := below_step hb1 hb2
    have h32 : n3 ≤ 32 := by have := hok.2.2.1; omega
    have HOK := Lib.hid hok
    have HBB := Lib.hid (HBb.out hok.1)
    have HL := Lib.hid hL
    obtain ⟨l, hl⟩ : ∃ l, l = L.length := ⟨_, rfl⟩
    rw [← hl] at hown h256 ⊢
    have hrL := Reads.of_own hown
    have HLl := Lib.hid hl
    have H2' := Lib.hid (H2.out w2 ((hr.below hb02).more hb02.size) ((hr2.below hb02).more hb02.size) ((hr3.below hb02).more hb02.size))
    clear hok hL hown hl H1'
    go_wp2_with fail
    refine H2'.out.mono ?_
    rintro e w3 ⟨hb3, ⟨-, L', m, A5, c5, hL', hm, hmn, rfl, hown5⟩ | ⟨hno, -⟩⟩
    · have e1 := hL'.unique HL.out
      subst e1
      have hb03 := below_step hb02 hb3
      have hrM := Reads.of_own hown5
      have HM := Lib.hid hm
      have hrL3 := (hrL.below hb3).more hb3.size
      have hx0 := reads_new w3 [.int .i64 0, .int .i64 0] 25 2 1 rfl
      have hbn3 := below_new w3 (.cells #[.int .i64 0, .int .i64 0] 25)
      have HG := Lib.hid (good_of (some ⟨w3.heap.size, 0, none⟩) 2 2 _ [0, 0] true _ (by decide) (by simpa using hx0) (by decide))
      have hb04 := below_step hb03 hbn3
      have hrM4 := (hrM.below hbn3).more hbn3.size
      have hrL4 := (hrL3.below hbn3).more hbn3.size
      clear hL' hm hown5 hx0 hrM hrL3 hrL H2'
      by_cases hneg : k < 0
      · have g1 : decide (k < 0) = true := decide_eq_true hneg
        go_wp2_with fail
        refine HG.out.mono ?_
        rintro e w5 ⟨rfl, rfl⟩
        go_wp2
        go_ret
        exact ⟨by first | rfl | simp, hb04⟩
      · obtain ⟨kk, rfl⟩ := Int.eq_ofNat_of_zero_le (show 0 ≤ k by omega)
        have g1 : decide ((kk : Int) < 0) = false := decide_eq_false (by omega)
        by_cases hbig : n3 < kk
        · have g2 : decide (n3 < kk) = true := decide_eq_true hbig
          have g2' : decide ((n3 : Int) < (kk : Int)) = true := decide_eq_true (by omega)
          go_wp2_with fail
          refine HG.out.mono ?_
          rintro e w5 ⟨rfl, rfl⟩
          go_wp2
          go_ret
          exact ⟨by first | rfl | simp, hb04⟩
        · have g2 : decide (n3 < kk) = false := decide_eq_false hbig
          have g2' : decide ((n3 : Int) < (kk : Int)) = false := decide_eq_false (by omega)
          have hkn : kk ≤ n3 := by omega
          have hkc : kk ≤ c3 := by omega
          have hsubk : ∀ p ∈ ps.take kk, p ∈ ps := fun p hp => List.mem_of_mem_take hp
          have hsubm : ∀ p ∈ clearL L' ps, p ∈ ps := fun p hp => (clearL_mem.1 hp).1
          have hokk : FaintOk a f (kk : Int) (pairsL (ps.take kk)) := ⟨HOK.out.1, HOK.out.2.1, by omega, fun x hx => HOK.out.2.2.2 x (pairsL_sub hsubk x hx)⟩
          have hok0 : FaintOk a f ((0 : Nat) : Int) (pairsL []) := ⟨HOK.out.1, HOK.out.2.1, by omega, fun x hx => by simp [pairsL] at hx⟩
          have hokm : FaintOk a f (m : Int) (pairsL (clearL L' ps)) := ⟨HOK.out.1, HOK.out.2.1, by omega, fun x hx => HOK.out.2.2.2 x (pairsL_sub hsubm x hx)⟩
          have HOKK := Lib.hid hokk
          have HOK0 := Lib.hid hok0
          have HOKM := Lib.hid hokm
          have HSK := Lib.hid hsubk
          have HSM := Lib.hid hsubm
          have HKk := Lib.hid (H1.out A3 kk c3 (ps.take kk) _ ((hr.below hb04).more hb04.size) ((hr2.below hb04).more hb04.size) (((hr3.below hb04).more hb04.size).cut2 hkn) (by omega) (fun x hx => HX3.out x (pairsL_sub hsubk x hx)))
          clear hokk hok0 hokm hsubk hsubm
          go_wp2_with fail
          refine HG.out.mono ?_
          rintro e w5 ⟨rfl, rfl⟩
          go_wp2_with fail
          refine HKk.out.mono ?_
          rintro e w6 ⟨hb6, ⟨-, P1, A6, c6, hP1, hp256, rfl, hown6⟩ | ⟨hno, -⟩⟩
          · have hb06 := below_step hb04 hb6
            have HP1 := Lib.hid hP1
            obtain ⟨p1, hp1⟩ : ∃ p1, p1 = P1.length := ⟨_, rfl⟩
            rw [← hp1] at hown6 hp256 ⊢
            have hrP := Reads.of_own hown6
            have hrM6 := (hrM4.below hb6).more hb6.size
            have hrL6 := (hrL4.below hb6).more hb6.size
            have HK0 := Lib.hid (H1.out none 0 0 [] _ ((hr.below hb06).more hb06.size) ((hr2.below hb06).more hb06.size) Reads.none_ (by omega) (by simp [pairsL]))
            clear hP1 hown6 hp1 hrM4 hrL4 HKk
            go_wp2_with fail
            refine HK0.out.mono ?_
            rintro e w7 ⟨hb7, ⟨-, Q1, A7, c7, hQ1, hq256, rfl, hown7⟩ | ⟨hno, -⟩⟩
            · have hb07 := below_step hb06 hb7
              have HQ1 := Lib.hid hQ1
              obtain ⟨q1, hq1⟩ : ∃ q1, q1 = Q1.length := ⟨_, rfl⟩
              rw [← hq1] at hown7 hq256 ⊢
              have HQl := Lib.hid hq1
              have hrQ := Reads.of_own hown7
              have hrP7 := (hrP.below hb7).more hb7.size
              have hrM7 := (hrM6.below hb7).more hb7.size
              have hrL7 := (hrL6.below hb7).more hb7.size
              have H3' := Lib.hid (H3.out w7 ((hr.below hb07).more hb07.size) ((hr2.below hb07).more hb07.size) HOK.out.1)
              clear hQ1 hown7 hq1 hrP hrM6 hrL6 HK0
              go_wp2_with fail
              refine H3'.out.mono ?_
              rintro e w8 ⟨hb8, ⟨R, A8, c8, hR, rfl, hown8⟩ | ⟨⟨x, hx, hx2⟩, -⟩⟩
              · have e2 := HQ1.out.nil hR
                subst e2
                have hb08 := below_step hb07 hb8
                rw [show Q1.length = q1 from HQl.out.symm] at hown8 ⊢
                have hrR := Reads.of_own hown8
                have hrQ8 := (hrQ.below hb8).more hb8.size
                have hrP8 := (hrP7.below hb8).more hb8.size
                have hrM8 := (hrM7.below hb8).more hb8.size
                have hrL8 := (hrL7.below hb8).more hb8.size
                have HKM := Lib.hid (H1.out A5 m c5 (clearL L' ps) w8 ((hr.below hb08).more hb08.size) ((hr2.below hb08).more hb08.size) hrM8 (by omega) (fun x hx => HX3.out x (pairsL_sub HSM.out x hx)))
                clear hR hown8 hrQ hrP7 hrM7 hrL7 H3'
                go_wp2_with fail
                refine HKM.out.mono ?_
                rintro e w9 ⟨hb9, ⟨-, R1, A9, c9, hR1, hr256, rfl, hown9⟩ | ⟨hno, -⟩⟩
                · have e3 := HL.out.cleared hR1
                  subst e3
                  have hb09 := below_step hb08 hb9
                  rw [show R1.length = l from HLl.out.symm] at hown9 ⊢
                  have hrR9 := (hrR.below hb9).more hb9.size
                  have hrQ9 := (hrQ8.below hb9).more hb9.size
                  have hrP9 := (hrP8.below hb9).more hb9.size
                  have hrL9 := (hrL8.below hb9).more hb9.size
                  have hrK9 := Reads.of_own hown9
                  have hx1 := reads_new w9 [.int .i64 0, .int .i64 0, .int .i64 0, .int .i64 0] 25 4 1 rfl
                  have hbn9 := below_new w9 (.cells #[.int .i64 0, .int .i64 0, .int .i64 0, .int .i64 0] 25)
                  have HG2 := Lib.hid (good_of (some ⟨w9.heap.size, 0, none⟩) 4 4 _ [0, 0, 0, 0] true _ (by decide) (by simpa using hx1) (by decide))
                  have hb010 := below_step hb09 hbn9
                  have HW := Lib.hid (within_two A6 A4 p1 c6 l c4 P1 R1 true _ ((hrP9.below hbn9).more hbn9.size) (by omega) ((hrL9.below hbn9).more hbn9.size) (by omega) (decide_eq_true (HL.out.sub HP1.out HSK.out)))
                  have hbig2 := hrQ9.below hbn9
                  clear hR1 hown9 hx1 hrR hrQ8 hrP8 hrL8 HKM
                  go_wp2_with fail
                  refine HG2.out.mono ?_
                  rintro e w11 ⟨rfl, rfl⟩
                  go_wp2_with fail
                  refine HW.out.mono ?_
                  rintro e w12 ⟨rfl, hb12⟩
                  have hb9x := below_step hbn9 hb12
                  have HE1 := equal_int A7 A8 q1 c7 q1 c8 _ _ Q1 Q1 w12 (hrQ9.below hb9x) (hrR9.below hb9x) (by omega) (by omega)
                  rw [decide_eq_true rfl] at HE1
                  have HE1 := Lib.hid HE1
                  have HE2 := Lib.hid (fun u => by
                    have := equal_int A9 A4 l c9 l c4 _ _ R1 R1 (w12.drewN u) ((hrK9.below hb9x).drewN u) ((hrL9.below hb9x).drewN u) (by omega) (by omega)
                    rw [decide_eq_true rfl] at this
                    exact this)
                  have hb012 := below_step hb09 hb9x
                  go_wp2_with fail
                  refine HE1.out.mono ?_
                  rintro e w13 ⟨rfl, q13, rfl⟩
                  go_wp2_with fail
                  refine (HE2.out _).mono ?_
                  rintro e w14 ⟨rfl, q14, rfl⟩
                  go_wp2
                  go_ret
                  exact ⟨by first | rfl | simp, below_drewN hb012 _⟩
                · exact absurd HOKM.out hno
              · exact absurd (HOK.out.2.1 x hx) hx2
            · exact absurd HOK0.out hno
          · exact absurd HOKK.out hno
    · exact absurd HOK.out hno
  · have hb02 := below_step hb1 hb2
    have HNO := Lib.hid hno
    have HER := Lib.hid her
    have H2' := Lib.hid (H2.out w2 ((hr.below hb02).more hb02.size) ((hr2.below hb02).more hb02.size) ((hr3.below hb02).more hb02.size))
    clear hno her H1'
    go_wp2_with fail
    refine H2'.out.mono ?_
    rintro e w3 ⟨hb3, ⟨hok, -⟩ | ⟨-, er2, her2, rfl⟩⟩
    · exact absurd hok HNO.out
    · have hb03 := below_step hb02 hb3
      have hx0 := reads_new w3 [.int .i64 er, .int .i64 er2] 25 2 1 rfl
      have hbn3 := below_new w3 (.cells #[.int .i64 er, .int .i64 er2] 25)
      have HG := Lib.hid (good_of (some ⟨w3.heap.size, 0, none⟩) 2 2 _ [er, er2] false _ (by
        have := HER.out
        simp only [bne_iff_ne, ne_eq] at this
        simp [this]) (by simpa using hx0) (by decide))
      clear her2 hx0
      go_wp2_with fail
      refine HG.out.mono ?_
      rintro e w5 ⟨rfl, rfl⟩
      go_wp2
      go_ret
      exact ⟨by first | rfl | simp, below_step hb03 hbn3⟩

namespace FaintMore
open Go.ChangeShapes Go.WideShapes Go.ChangeAt Go.RowKit
theorem own : ownKnob Try.prog.godebug = none := by kernel_rfl
theorem laidOut : laidOutB Try.prog = true := by kernel_rfl

set_option maxRecDepth 100000 in
theorem lifted (os : Os) (started : os.Started) (H : Type) (enc : TypeId × Value → H) :
    ReturnsInHanded {} Try.checked os 8 .any (Rows.faintMoreSpec.pre6 enc Try.prog Try.f8 Rows.faintMoreRow.domain false) (Rows.faintMoreSpec.post enc Try.prog Try.f8 false true false false) := by
  refine returnsInHanded_of_change_sized (C := Try.checked) own started (by as_aux_lemma => kernel_rfl) Try.func8
    (ChangeSpec.witness6 (enc := enc) (C := Try.checked) false ⟨#[], #[.slice none 0 0, .slice none 0 0, .slice none 0 0, .int .i64 0], []⟩ 8 (by as_aux_lemma => kernel_rfl) (by as_aux_lemma => kernel_rfl) (by as_aux_lemma => kernel_rfl) (by as_aux_lemma => kernel_rfl)) ?_
  intro W base args ds gs before hval0 hW hcnd hsz _
  have hval : ∀ (j : Nat) t v, Try.f8.params[j]? = some t → args[j]? = some v → Value.okWide Try.prog W .any base t v := hval0
  have hW' := hW
  obtain ⟨p, q, hA0, hV, rfl, hfz, hnd⟩ := hW
  have hA : DataW.TrodAll enc Try.prog W 0 (fun _ => true) true Try.f8.params.toList args.toList ds p := hA0
  rw [Try.params8] at hA hval
  obtain ⟨v0, vs0, d0, ds0, p0, q0, hargs, rfl, rfl, h0, hA⟩ := trodAll_cons hA
  obtain ⟨v1, vs1, d1, ds1, p1, q1, rfl, rfl, rfl, h1, hA⟩ := trodAll_cons hA
  obtain ⟨v2, vs2, d2, ds2, p2, q2, rfl, rfl, rfl, h2, hA⟩ := trodAll_cons hA
  obtain ⟨v3, vs3, d3, ds3, p3, q3, rfl, rfl, rfl, h3, hA⟩ := trodAll_cons hA
  obtain ⟨rfl, rfl, rfl⟩ := trodAll_nil hA
  obtain rfl : args = #[v0, v1, v2, v3] := by cases args; simp_all
  obtain ⟨A0, n0, c0, xs0, rfl, hnc0, hc0, hr0, hx0⟩ := open_nums Try.underlying22 Try.underlying77 (by as_aux_lemma => kernel_rfl) (hval 0 _ v0 rfl rfl) (fun x hx => hW'.lt x (by simp [hx])) h0
  obtain ⟨A1, n1, c1, xs1, rfl, hnc1, hc1, hr1, hx1, hd1⟩ := open_nums2 Try.underlying23 Try.underlying3 (by as_aux_lemma => kernel_rfl) (hval 1 _ v1 rfl rfl) (fun x hx => hW'.lt x (by simp [hx])) h1
  have hm1 : n1 * 8 ≤ 140737488351232 := by
    rcases hd1 with h0 | ⟨D, E, rfl, hD⟩
    · omega
    · have h5 : (D.length + E.length) * Try.prog.bytesOf 3 ≤ reachBytes := sized_slice hsz (j := 1) (t := 23) (e := 3) rfl rfl Try.underlying23
      rw [k_int_bytes, hD] at h5
      simp only [reachBytes] at h5
      omega
  obtain ⟨A2, n2, c2, l2, rfl, hnc2, hc2, hr2, hx2, hd2⟩ := open_faints (hval 2 _ v2 rfl rfl) (fun x hx => hW'.lt x (by simp [hx])) h2
  have hm2 : n2 * 16 ≤ 140737488351232 := by
    rcases hd2 with h0 | ⟨D, E, rfl, hD⟩
    · omega
    · have h5 : (D.length + E.length) * Try.prog.bytesOf 44 ≤ reachBytes := sized_slice hsz (j := 2) (t := 40) (e := 44) rfl rfl Try.underlying40
      rw [k_faint_bytes, hD] at h5
      simp only [reachBytes] at h5
      omega
  obtain ⟨i3, rfl, rfl, rfl, w3⟩ := open_int Try.underlying3 (hval 3 _ v3 rfl rfl) h3
  refine (faintMore_any A0 n0 c0 xs0 A1 n1 c1 xs1 A2 n2 c2 l2 i3 W hr0 hnc0 hc0 hx0 hr1 hnc1 hc1 hx1 hm1 hr2 hnc2 hc2 hx2 hm2 w3).mono fun e W' ⟨he, hb⟩ => ?_
  subst he
  exact ⟨_, rfl, law_post laidOut Try.underlying4 rfl (by as_aux_lemma => kernel_rfl) rfl rfl hW' hb⟩

set_option maxHeartbeats 10000000 in
theorem closed : joinedFacts Try.prog 8 Try.f8 Rows.faintMoreSpec Rows.faintMoreRow = true := by
  unfold joinedFacts
  simp only [Bool.and_eq_true]
  repeat' apply And.intro
  all_goals as_aux_lemma => kernel_rfl

set_option maxHeartbeats 1000000 in
theorem proved : Rows.FaintMoreSaid :=
  OpenClaim.holds_of_wide 8 Try.f8 rfl rfl rfl rfl rfl rfl rfl ⟨rfl, rfl, rfl, rfl, rfl⟩ rfl rfl rfl rfl rfl (by as_aux_lemma => kernel_rfl) Try.func8 closed
    (of_decide_eq_true (by as_aux_lemma => kernel_rfl)) (by unfold Func.isWrapper; first | (rw [if_pos (by decide +kernel)]; kernel_rfl) | (rw [if_neg (by decide +kernel)]; exact ⟨rfl, rfl⟩))
    (fun os started H enc _ => lifted os started H enc)
end FaintMore
end Go.Proofs.Ythfjopnomkfegab
