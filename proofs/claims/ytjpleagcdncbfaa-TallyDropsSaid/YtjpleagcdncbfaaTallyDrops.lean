/-
  TallyDrops answers true for all arenas, lists and numbers, and changes no argument: reference counting frees no reachable object, and every unreachable object that remains is referred to by a remaining object.
-/
import Derived.Test.YtjpleagcdncbfaaDrop
import Derived.Test.YtjpleagcdncbfaaDeleteOne
import Derived.Test.YtjpleagcdncbfaaTallyFns
import Derived.Test.YtjpleagcdncbfaaCloneInt
import Derived.Test.YtjpleagcdncbfaaIntF3
import Derived.Test.YtjpleagcdncbfaaLaw
import Derived.Test.YtjpleagcdncbfaaLawNums
import Derived.BigQuiet
namespace Go.Proofs.Ytjpleagcdncbfaa
open Go.RowKit

set_option maxRecDepth 100000 in
set_option maxHeartbeats 1000000 in
theorem named_drop (A : Option Addr) (n c : Nat) (a : List Int) (y x : Int) (s : Spot) (g7 g3 g13 : Nat) (AL : Option Addr) (nL cL : Nat) (L : List Int) (w : World) (hr : Reads w w.heap.size 1 A n (a.map (.int .u64))) (hnc : n ≤ c) (ha : ∀ x ∈ a, (Lit.int .u64 x).wf = true) (hE : checkE a = 0) (hs : spotAt (spotsL a) y = some s)
    (B7 : Blk w g7 23 #[.slice AL nL cL]) (B3 : Blk w g3 22 #[.slice A n c]) (B13 : Blk w g13 3 #[.int .i64 x]) (hL : Reads w w.heap.size 1 AL nL (L.map (.int .i64))) (hnL : nL ≤ 1000000000000000000) :
    Calls Try.prog 14 #[.int .i64 y, .pointer (some ⟨g7, 0, none⟩), .pointer (some ⟨g3, 0, none⟩), .pointer (some ⟨g13, 0, none⟩)] w fun e w' => e = .returned (.bool (!decide (y ∈ L) && decide (x ∈ linksL a s))) ∧ Below w.heap.size w w' := by
  have hLn : (linksL a s).length ≤ 256 := by
    have h1 : (linksL a s).length ≤ (refsOf a s).length := by
      unfold linksL
      rw [List.length_map]
      exact List.length_filter_le _ _
    have h2 : (refsOf a s).length ≤ a.length := by unfold refsOf; rw [List.length_take, List.length_drop]; omega
    have := (parse_ok (checkE_ok.1 hE).1).1
    omega
  have k7 := B7.cell 0
  have k3 := B3.cell 0
  have k13 := B13.cell 0
  simp only [List.getElem?_toArray, List.getElem?_cons_zero, List.getElem?_cons_succ] at k7 k3 k13
  by_cases hy : y ∈ L
  · have HC := Lib.hid (fun q => contains_int AL nL cL _ L y true (w.drewN q) hL hnL (decide_eq_true hy))
    have HD := Lib.hid (decide_eq_true hy)
    rw [HD.out]
    clear hy hE hs ha
    go_enter Try.func14, Try.ntmps14
    go_wp2
    go_quiet ((go_at_call 12; refine (HC.out _).mono ?_; rintro e w' ⟨rfl, rfl⟩; exact ⟨rfl, _, rfl⟩))
    go_wp2
    go_ret
    exact ⟨by first | rfl | simp, below_drewN (Below.refl _ _) _⟩
  · have HC := Lib.hid (fun w' (hb : Below w.heap.size w w') => contains_int AL nL cL _ L y false w' (hL.below hb) hnL (decide_eq_false hy))
    have HR := Lib.hid (fun w hr => refsAt_ok A n c a y s w hr hnc ha hE hs)
    generalize linksL a s = M at *
    have B7 := B7.drew
    have B3 := B3.drew
    have B13 := B13.drew
    have hbz := (Below.refl w.heap.size w).drew
    obtain ⟨b, hb⟩ : ∃ b, b = decide (x ∈ M) := ⟨_, rfl⟩
    rw [← hb]
    have HB := Lib.hid hb
    have HD := Lib.hid (decide_eq_false hy)
    rw [HD.out]
    clear hE hs ha hb hy
    go_enter Try.func14, Try.ntmps14
    go_wp2
    go_region_held3 (fun w' => w'.cell? ⟨g7, 0, none⟩ = some (.slice AL nL cL) ∧ w'.cell? ⟨g3, 0, none⟩ = some (.slice A n c) ∧ w'.cell? ⟨g13, 0, none⟩ = some (.int .i64 x)) (go_keep)
      (first
        | (go_at_call 15; with_reducible refine (HR.out _ ((hr.below hbz).more hbz.size)).mono ?_; rintro e wA ⟨hbA, A1, c1, rfl, hownA⟩; have B7 := B7.below hbA B7.lt; have B3 := B3.below hbA B3.lt; have B13 := B13.below hbA B13.lt; have k7 := B7.cell 0; have k3 := B3.cell 0; have k13 := B13.cell 0; simp only [List.getElem?_toArray, List.getElem?_cons_zero, List.getElem?_cons_succ] at k7 k3 k13; have hbz := hbz.trans (hbA.mono hbz.size))
        | (go_at_call 12; with_reducible refine (HC.out _ hbz).mono ?_; rintro e wB ⟨rfl, rfl⟩)
        | (go_at_call 12; refine (contains_int A1 M.length c1 _ M x b _ (Reads.of_own hownA) (by omega) HB.out.symm).mono ?_; rintro e wB ⟨rfl, rfl⟩))
    all_goals
      go_wp2
      go_ret
      exact ⟨by first | rfl | simp, hbz⟩

theorem Dropped.keep {a : List Int} {S : List Spot} {left L : List Int} {x : Int} (h : Dropped a S left L) (hx : x ∈ begsL S) (hL : x ∉ L) : x ∈ left ∨ (begsL S).any (fun y => !decide (y ∈ L) && decide (x ∈ linksAt a S y)) = true := by
  by_cases hl : x ∈ left
  · exact .inl hl
  · right
    apply Classical.byContradiction
    intro hn
    refine hL ((h.law x hx).2 ⟨hl, fun y hy hyL hxy => hn (List.any_eq_true.2 ⟨y, hy, by simp [hyL, hxy]⟩)⟩)
theorem Dropped.none_ {a : List Int} {S : List Spot} {left L : List Int} {x : Int} (h : Dropped a S left L) (hL : x ∈ L) : x ∉ left ∧ (begsL S).any (fun y => !decide (y ∈ L) && decide (x ∈ linksAt a S y)) = false := by
  obtain ⟨h1, h2⟩ := (h.law x (h.begs x hL)).1 hL
  refine ⟨h1, List.any_eq_false.2 (fun y hy => ?_)⟩
  by_cases hyL : y ∈ L
  · simp [hyL]
  · have := h2 y hy hyL
    simp [this]

set_option maxRecDepth 100000 in
set_option maxHeartbeats 2000000 in
theorem tallyDrops_any (A : Option Addr) (n c : Nat) (a : List Int) (A2 : Option Addr) (n2 c2 : Nat) (f : List Int) (k : Int) (w : World) (hr : Reads w w.heap.size 1 A n (a.map (.int .u64))) (hnc : n ≤ c) (hc : c ≤ maxLen) (ha : ∀ x ∈ a, (Lit.int .u64 x).wf = true)
    (hr2 : Reads w w.heap.size 1 A2 n2 (f.map (.int .i64))) (hnc2 : n2 ≤ c2) (hc2 : c2 ≤ maxLen) (hx2 : ∀ x ∈ f, (Lit.int .i64 x).wf = true) (hm1 : n2 * 8 ≤ 140737488351232) (hk : (Lit.int .i64 k).wf = true) :
    Calls Try.prog 3 #[.slice A n c, .slice A2 n2 c2, .int .i64 k] w fun e w' => e = .returned (.bool true) ∧ Below w.heap.size w w' := by
  have hn2 : n2 ≤ 1000000000000000000 := by omega
  have hn2' : n2 * 8 ≤ 140737488355328 := by omega
  have hfl : f.length = n2 := by have := hr2.1; simpa using this
  clear hc hnc2 hc2 hm1 hk
  have hb0 := below_new w (.cells #[.slice A n c] 22)
  have B0 := Blk.new w 22 #[.slice A n c]
  by_cases hE : checkE a = 0
  · have h0 := (checkE_ok.1 hE).1
    have H1 := Lib.hid (fun w hr hr2 => drop_ok A n c a A2 n2 c2 f k w hr hnc ha hr2 hn2 hx2 hE)
    have H2 := Lib.hid (fun A2 n2 c2 f w hr hr2 hn2 hx2 => reach_ok A n c a A2 n2 c2 f w hr hnc ha hr2 hn2 hx2 hE)
    have HN := Lib.hid (fun y x s g7 g3 g13 AL nL cL L w hr hs B7 B3 B13 hL hnL => named_drop A n c a y x s g7 g3 g13 AL nL cL L w hr hnc ha hE hs B7 B3 B13 hL hnL)
    have HBg := Lib.hid (fun w hr => begins_any A n c a w hr ha)
    have HBb := Lib.hid (begsL_bounds h0)
    have HLk := Lib.hid (linksAt_begs hE)
    have hkb : (begsL (spotsL a)).length ≤ 256 := by
      unfold begsL
      rw [List.length_map]
      have := List.length_filter_le (fun s : Spot => !s.f) (spotsL a)
      have := spotsL_length a
      omega
    have HKb := Lib.hid hkb
    generalize spotsL a = S at *
    have HFL := Lib.hid hfl
    have HX := Lib.hid hx2
    clear hE h0 ha hx2 hfl
    go_enter Try.func3, Try.ntmps3
    go_wp2_with fail
    refine (tallies_true _).mono ?_
    rintro e w1 ⟨rfl, hb1⟩
    have hb01 := below_step hb0 hb1
    have B1 := B0.below hb1 B0.lt
    have k0 := B1.cell 0
    simp only [List.getElem?_toArray, List.getElem?_cons_zero, List.getElem?_cons_succ] at k0
    clear hb0 B0 hb1
    go_wp2_with fail
    refine (H1.out _ ((hr.below hb01).more hb01.size) ((hr2.below hb01).more hb01.size)).mono ?_
    rintro e w2 ⟨hb2, ⟨kk, L, A3, c3, rfl, hkk, hall, hL, hL256, rfl, hown⟩ | ⟨er, her, rfl⟩⟩
    · have hb02 := below_step hb01 hb2
      have B2 := B1.below hb2 B1.lt
      obtain ⟨m, hm⟩ : ∃ m, m = L.length := ⟨_, rfl⟩
      rw [← hm] at hown hL256 ⊢
      have HL := Lib.hid hL
      have HAll := Lib.hid hall
      have hbn := below_new w2 (.cells #[.slice A3 m c3] 23)
      have D0 := Blk.new w2 23 #[.slice A3 m c3]
      have hrL := (Reads.of_own hown).below hbn
      have hrL := hrL.more hbn.size
      have B3 := B2.alloc (.cells #[.slice A3 m c3] 23)
      have hb03 := below_step hb02 hbn
      have wk : IntKind.i64.wrap ((kk : Int) + 1) = (kk : Int) + 1 := IntWalk.i64_in _ (by omega)
      obtain ⟨lf, hlf⟩ : ∃ lf, lf = f.take kk ++ f.drop (kk + 1) := ⟨_, rfl⟩
      rw [← hlf] at HL
      have HLf := Lib.hid hlf
      have hr2b := (hr2.below hb03).more hb03.size
      clear hm hL hall hlf hb01 hb2 B1 k0 hown B2
      go_wp2_with fail
      refine (clone_int A2 n2 c2 _ (f.map (.int .i64)) _ hr2b (Nat.le_refl _) (ints_one f) hn2').mono ?_
      rintro e w4 ⟨A4, c4, rfl, hown4, hb4⟩
      have hDe := Lib.hid (delete_one _ A4 n2 c4 kk f w4 hown4 hkk)
      have HO4 := Lib.hid hown4
      clear hown4
      go_wp2_with fail
      refine hDe.out.mono ?_
      rintro e w5 ⟨rfl, hown5, hg5⟩
      have hbd5 : Below (w2.alloc (.cells #[.slice A3 m c3] 23)).heap.size (w2.alloc (.cells #[.slice A3 m c3] 23)) w5 := hb4.grown hg5 hb4.size (fun g e => (HO4.out.lt g e).1)
      have hb05 := below_step hb03 hbd5
      rw [← HLf.out] at hown5
      have hrF := Reads.of_own hown5
      have D5 := D0.below hbd5 D0.lt
      have B5 := B3.below hbd5 B3.lt
      have hrL5 := (hrL.below hbd5).more hbd5.size
      have k5 := B5.cell 0
      simp only [List.getElem?_toArray, List.getElem?_cons_zero, List.getElem?_cons_succ] at k5
      have hlfm : ∀ x ∈ lf, x ∈ f := by
        intro x hx
        rw [HLf.out, List.mem_append] at hx
        rcases hx with hx | hx
        · exact List.mem_of_mem_take hx
        · exact List.mem_of_mem_drop hx
      obtain ⟨nf, hnf⟩ : ∃ nf, nf = n2 - 1 := ⟨_, rfl⟩
      rw [← hnf] at hrF ⊢
      have hnfb : nf ≤ 1000000000000000000 := by omega
      have H2' := Lib.hid (H2.out A4 nf c4 lf w5 ((hr.below hb05).more hb05.size) hrF hnfb (fun x hx => HX.out x (hlfm x hx)))
      have HLM := Lib.hid hlfm
      clear hlfm hown5 hg5 hb4 hrL hbn D0 B3 hb02 hnf hr2b
      go_wp2_with fail
      refine H2'.out.mono ?_
      rintro e w6 ⟨hb6, ⟨M, A6, c6, hM, rfl, hown6⟩ | ⟨⟨x, hx, hx2⟩, -⟩⟩
      · have hM256 : M.length ≤ 256 := nodup_bound 256 M hM.once (fun x hx => HBb.out x (hM.begs x hx))
        obtain ⟨q, hq⟩ : ∃ q, q = M.length := ⟨_, rfl⟩
        rw [← hq] at hown6 hM256 ⊢
        have HM := Lib.hid hM
        have HLive := Lib.hid (HL.out.live hM HLk.out)
        have hb06 := below_step hb05 hb6
        have D6 := D5.below hb6 D5.lt
        have B6 := B5.below hb6 B5.lt
        have hrL6 := (hrL5.below hb6).more hb6.size
        have hrF6 := (hrF.below hb6).more hb6.size
        have hrM := Reads.of_own hown6
        have k6 := B6.cell 0
        simp only [List.getElem?_toArray, List.getElem?_cons_zero, List.getElem?_cons_succ] at k6
        clear hown6 hq hM k5 D5 B5 hrL5 hrF hb05 hb6 hbd5
        go_wp2_with fail
        refine (HBg.out _ ((hr.below hb06).more hb06.size)).mono ?_
        rintro e w7 ⟨hb7, A7, c7, rfl, hown7⟩
        have hb07 := below_step hb06 hb7
        have D7 := D6.below hb7 D6.lt
        have B7 := B6.below hb7 B6.lt
        have hrL7 := (hrL6.below hb7).more hb7.size
        have hrF7 := (hrF6.below hb7).more hb7.size
        have hrM7 := (hrM.below hb7).more hb7.size
        have hrB := Reads.of_own hown7
        obtain ⟨kb, hkb2⟩ : ∃ kb, kb = (begsL S).length := ⟨_, rfl⟩
        rw [← hkb2] at hrB hkb
        rw [← hkb2]
        clear hown7 D6 B6 hrL6 hrF6 hrM k6 hb7 hb06 hkb2
        go_wp2
        go_loopw [45] (fun i wr => ∃ j : Nat, j ≤ kb ∧ i = .int .i64 j ∧ Below w7.heap.size w7 wr) (fun i _ => kb - (intOf i).toNat)
        case atStart => exact ⟨0, Nat.zero_le _, rfl, Below.refl _ _⟩
        case round =>
          obtain ⟨j, hj, rfl, hb⟩ := hrel
          by_cases hlt : j < kb
          · obtain ⟨ad, x, rfl, had, hx, cx⟩ := (hrB.below hb).num hlt
            have hj1 : j + 1 ≤ kb := hlt
            have hxb := List.mem_of_getElem? hx
            have E0 := Blk.new wr 3 #[.int .i64 x]
            have hbx := hb.trans ((below_new wr (.cells #[.int .i64 x] 3)).mono hb.size)
            have hb0x := below_step hb07 hbx
            have D8 := D7.below hbx D7.lt
            have B8 := B7.below hbx B7.lt
            have d8 := D8.cell 0
            have b8 := B8.cell 0
            have e8 := E0.cell 0
            simp only [List.getElem?_toArray, List.getElem?_cons_zero, List.getElem?_cons_succ] at d8 b8 e8
            have hrL8 := (hrL7.below hbx).more hbx.size
            have hrF8 := (hrF7.below hbx).more hbx.size
            have hrM8 := (hrM7.below hbx).more hbx.size
            by_cases hxL : x ∈ L
            · have HC1 := Lib.hid (contains_int A3 m c3 _ L x true _ hrL8 (by omega) (decide_eq_true hxL))
              have HC2 := Lib.hid (contains_int A6 q c6 _ M x false _ hrM8 (by omega) (decide_eq_false (fun h => HLive.out x h hxL)))
              obtain ⟨z1, z2⟩ := HL.out.none_ hxL
              have HC3 := Lib.hid (contains_int A4 nf c4 _ lf x false _ hrF8 hnfb (decide_eq_false z1))
              have HZ := Lib.hid z2
              clear hx hxb hxL z1 z2
              go_wp2_with fail
              refine HC1.out.mono ?_
              rintro e w8 ⟨rfl, rfl⟩
              go_wp2_with fail
              refine HC2.out.mono ?_
              rintro e w8 ⟨rfl, rfl⟩
              go_wp2_with fail
              refine HC3.out.mono ?_
              rintro e w8 ⟨rfl, rfl⟩
              go_wp2_with fail
              have HBx := Lib.hid (HBg.out _ ((hr.below hb0x).more hb0x.size))
              refine HBx.out.mono ?_
              rintro e w9 ⟨hb9, A9, c9, rfl, hown9⟩
              have hb09 := below_step hb0x hb9
              have D9 := D8.below hb9 D8.lt
              have B9 := B8.below hb9 B8.lt
              have E9 := E0.below hb9 E0.lt
              have hrL9 := (hrL8.below hb9).more hb9.size
              have hCF := containsIntF3_any 14 (.pointer (some ⟨w2.heap.size, 0, none⟩)) (.pointer (some ⟨w.heap.size, 0, none⟩)) (.pointer (some ⟨wr.heap.size, 0, none⟩)) A9 (begsL S).length c9 _ (begsL S) (fun y => !decide (y ∈ L) && decide (x ∈ linksAt a S y)) _ (Reads.of_own hown9) (Nat.le_refl _) (by have := HKb.out; omega) (plain_of (fn := Try.f14) Try.func14 (by kernel_rfl) (by kernel_rfl)) (fun w' y hb' hy => by
                obtain ⟨s, hs⟩ := begsL_iff.1 hy
                have hlk : linksAt a S y = linksL a s := by unfold linksAt; rw [hs]
                have hbq := below_step hb09 hb'
                have := HN.out y x s w2.heap.size w.heap.size wr.heap.size A3 m c3 L w' ((hr.below hbq).more hbq.size) hs (D9.below hb' D9.lt) (B9.below hb' B9.lt) (E9.below hb' E9.lt) ((hrL9.below hb').more hb'.size) (by omega)
                simp only [hlk]
                exact this)
              rw [HZ.out] at hCF
              have HCF := Lib.hid hCF
              clear hCF hown9
              go_wp2_with fail
              refine HCF.out.mono ?_
              rintro e w10 ⟨rfl, hb10⟩
              have hby := hbx.trans ((below_step hb9 hb10).mono hbx.size)
              go_wp2
              go_roundw
              case rel => exact ⟨j + 1, hj1, by go_num, hby⟩
              case measure => simp [intOf]; omega
            · have HC1 := Lib.hid (contains_int A3 m c3 _ L x false _ hrL8 (by omega) (decide_eq_false hxL))
              by_cases hxf : x ∈ lf
              · have HC3 := Lib.hid (fun u => contains_int A4 nf c4 _ lf x true ((wr.alloc (.cells #[.int .i64 x] 3)).drewN u) (hrF8.below (below_drewN (Below.refl _ _) u)) hnfb (decide_eq_true hxf))
                clear hx hxb hxL hxf
                go_wp2_with fail
                refine HC1.out.mono ?_
                rintro e w8 ⟨rfl, rfl⟩
                go_wp2_with fail
                refine (HC3.out 0).mono ?_
                rintro e w8 ⟨rfl, rfl⟩
                go_wp2
                go_roundw
                case rel => exact ⟨j + 1, hj1, by go_num, hbx⟩
                case measure => simp [intOf]; omega
              · have HC3 := Lib.hid (contains_int A4 nf c4 _ lf x false _ hrF8 hnfb (decide_eq_false hxf))
                have HZ := Lib.hid ((HL.out.keep hxb hxL).resolve_left hxf)
                clear hx hxb hxL hxf
                go_wp2_with fail
                refine HC1.out.mono ?_
                rintro e w8 ⟨rfl, rfl⟩
                go_wp2_with fail
                refine HC3.out.mono ?_
                rintro e w8 ⟨rfl, rfl⟩
                go_wp2_with fail
                have HBx := Lib.hid (HBg.out _ ((hr.below hb0x).more hb0x.size))
                refine HBx.out.mono ?_
                rintro e w9 ⟨hb9, A9, c9, rfl, hown9⟩
                have hb09 := below_step hb0x hb9
                have D9 := D8.below hb9 D8.lt
                have B9 := B8.below hb9 B8.lt
                have E9 := E0.below hb9 E0.lt
                have hrL9 := (hrL8.below hb9).more hb9.size
                have hCF := containsIntF3_any 14 (.pointer (some ⟨w2.heap.size, 0, none⟩)) (.pointer (some ⟨w.heap.size, 0, none⟩)) (.pointer (some ⟨wr.heap.size, 0, none⟩)) A9 (begsL S).length c9 _ (begsL S) (fun y => !decide (y ∈ L) && decide (x ∈ linksAt a S y)) _ (Reads.of_own hown9) (Nat.le_refl _) (by have := HKb.out; omega) (plain_of (fn := Try.f14) Try.func14 (by kernel_rfl) (by kernel_rfl)) (fun w' y hb' hy => by
                  obtain ⟨s, hs⟩ := begsL_iff.1 hy
                  have hlk : linksAt a S y = linksL a s := by unfold linksAt; rw [hs]
                  have hbq := below_step hb09 hb'
                  have := HN.out y x s w2.heap.size w.heap.size wr.heap.size A3 m c3 L w' ((hr.below hbq).more hbq.size) hs (D9.below hb' D9.lt) (B9.below hb' B9.lt) (E9.below hb' E9.lt) ((hrL9.below hb').more hb'.size) (by omega)
                  simp only [hlk]
                  exact this)
                rw [HZ.out] at hCF
                have HCF := Lib.hid hCF
                clear hCF hown9
                go_wp2_with fail
                refine HCF.out.mono ?_
                rintro e w10 ⟨rfl, hb10⟩
                have hby := hbx.trans ((below_step hb9 hb10).mono hbx.size)
                go_wp2
                go_roundw
                case rel => exact ⟨j + 1, hj1, by go_num, hby⟩
                case measure => simp [intOf]; omega
          · have g0 : decide (j < kb) = false := decide_eq_false hlt
            go_wp2
            go_ret
            exact ⟨by first | rfl | simp, below_step hb07 hb⟩
      · exact absurd (HAll.out x (HLM.out x hx)) hx2
    · have B2 := B1.below hb2 B1.lt
      have hb02 := below_step hb01 hb2
      clear k0
      go_wp2
      go_ret
      exact ⟨by first | rfl | simp, hb02.alloc hb02.size _⟩
  · have H1 := Lib.hid (fun w hr => drop_bad A n c a A2 n2 c2 k w hr hnc ha hE)
    have hE1 : (checkE a != 0) = true := by simpa using hE
    generalize checkE a = E at *
    clear hE
    go_enter Try.func3, Try.ntmps3
    go_wp2_with fail
    refine (tallies_true _).mono ?_
    rintro e w1 ⟨rfl, hb1⟩
    have hb01 := below_step hb0 hb1
    have B1 := B0.below hb1 B0.lt
    have k0 := B1.cell 0
    simp only [List.getElem?_toArray, List.getElem?_cons_zero, List.getElem?_cons_succ] at k0
    go_wp2_with fail
    refine (H1.out _ ((hr.below hb01).more hb01.size)).mono ?_
    rintro e w2 ⟨rfl, hb2⟩
    have hb02 := below_step hb01 hb2
    clear k0
    go_wp2
    go_ret
    exact ⟨by first | rfl | simp, hb02.alloc hb02.size _⟩

namespace TallyDrops
open Go.ChangeShapes Go.WideShapes Go.ChangeAt Go.RowKit
theorem own : ownKnob Try.prog.godebug = none := by kernel_rfl
theorem laidOut : laidOutB Try.prog = true := by kernel_rfl

set_option maxRecDepth 100000 in
theorem lifted (os : Os) (started : os.Started) (H : Type) (enc : TypeId × Value → H) :
    ReturnsInHanded {} Try.checked os 3 .any (Rows.tallyDropsSpec.pre6 enc Try.prog Try.f3 Rows.tallyDropsRow.domain false) (Rows.tallyDropsSpec.post enc Try.prog Try.f3 false true false false) := by
  refine returnsInHanded_of_change_sized (C := Try.checked) own started (by as_aux_lemma => kernel_rfl) Try.func3
    (ChangeSpec.witness6 (enc := enc) (C := Try.checked) false ⟨#[], #[.slice none 0 0, .slice none 0 0, .int .i64 0], []⟩ 8 (by as_aux_lemma => kernel_rfl) (by as_aux_lemma => kernel_rfl) (by as_aux_lemma => kernel_rfl) (by as_aux_lemma => kernel_rfl)) ?_
  intro W base args ds gs before hval0 hW hcnd hsz _
  have hval : ∀ (j : Nat) t v, Try.f3.params[j]? = some t → args[j]? = some v → Value.okWide Try.prog W .any base t v := hval0
  have hW' := hW
  obtain ⟨p, q, hA0, hV, rfl, hfz, hnd⟩ := hW
  have hA : DataW.TrodAll enc Try.prog W 0 (fun _ => true) true Try.f3.params.toList args.toList ds p := hA0
  rw [Try.params3] at hA hval
  obtain ⟨v0, vs0, d0, ds0, p0, q0, hargs, rfl, rfl, h0, hA⟩ := trodAll_cons hA
  obtain ⟨v1, vs1, d1, ds1, p1, q1, rfl, rfl, rfl, h1, hA⟩ := trodAll_cons hA
  obtain ⟨v2, vs2, d2, ds2, p2, q2, rfl, rfl, rfl, h2, hA⟩ := trodAll_cons hA
  obtain ⟨rfl, rfl, rfl⟩ := trodAll_nil hA
  obtain rfl : args = #[v0, v1, v2] := by cases args; simp_all
  obtain ⟨A0, n0, c0, xs0, rfl, hnc0, hc0, hr0, hx0⟩ := open_nums Try.underlying22 Try.underlying72 (by as_aux_lemma => kernel_rfl) (hval 0 _ v0 rfl rfl) (fun x hx => hW'.lt x (by simp [hx])) h0
  obtain ⟨A1, n1, c1, xs1, rfl, hnc1, hc1, hr1, hx1, hd1⟩ := open_nums2 Try.underlying23 Try.underlying3 (by as_aux_lemma => kernel_rfl) (hval 1 _ v1 rfl rfl) (fun x hx => hW'.lt x (by simp [hx])) h1
  have hm1 : n1 * 8 ≤ 140737488351232 := by
    rcases hd1 with h0 | ⟨D, E, rfl, hD⟩
    · omega
    · have h5 : (D.length + E.length) * Try.prog.bytesOf 3 ≤ reachBytes := sized_slice hsz (j := 1) (t := 23) (e := 3) rfl rfl Try.underlying23
      rw [k_int_bytes, hD] at h5
      simp only [reachBytes] at h5
      omega
  obtain ⟨i2, rfl, rfl, rfl, w2⟩ := open_int Try.underlying3 (hval 2 _ v2 rfl rfl) h2
  refine (tallyDrops_any A0 n0 c0 xs0 A1 n1 c1 xs1 i2 W hr0 hnc0 hc0 hx0 hr1 hnc1 hc1 hx1 hm1 w2).mono fun e W' ⟨he, hb⟩ => ?_
  subst he
  exact ⟨_, rfl, law_post laidOut Try.underlying4 rfl (by as_aux_lemma => kernel_rfl) rfl rfl hW' hb⟩

set_option maxHeartbeats 10000000 in
theorem closed : joinedFacts Try.prog 3 Try.f3 Rows.tallyDropsSpec Rows.tallyDropsRow = true := by
  unfold joinedFacts
  simp only [Bool.and_eq_true]
  repeat' apply And.intro
  all_goals as_aux_lemma => kernel_rfl

set_option maxHeartbeats 1000000 in
theorem proved : Rows.TallyDropsSaid :=
  OpenClaim.holds_of_wide 3 Try.f3 rfl rfl rfl rfl rfl rfl rfl ⟨rfl, rfl, rfl, rfl, rfl⟩ rfl rfl rfl rfl rfl (by as_aux_lemma => kernel_rfl) Try.func3 closed
    (of_decide_eq_true (by as_aux_lemma => kernel_rfl)) (by unfold Func.isWrapper; first | (rw [if_pos (by decide +kernel)]; kernel_rfl) | (rw [if_neg (by decide +kernel)]; exact ⟨rfl, rfl⟩))
    (fun os started H enc _ => lifted os started H enc)
end TallyDrops
end Go.Proofs.Ytjpleagcdncbfaa
