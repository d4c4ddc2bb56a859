/-
  TallyRings answers true for all arenas, lists and numbers, and changes no argument: without cycles, reference counting frees every unreachable object.
-/
import Derived.Test.YtjpleagcdncbfaaDrop
import Derived.Test.YtjpleagcdncbfaaRings
import Derived.Test.YtjpleagcdncbfaaDeleteOne
import Derived.Test.YtjpleagcdncbfaaDeleteF
import Derived.Test.YtjpleagcdncbfaaTallyFns
import Derived.Test.YtjpleagcdncbfaaCloneInt
import Derived.Test.YtjpleagcdncbfaaIntF2
import Derived.Test.YtjpleagcdncbfaaGood
import Derived.Test.YtjpleagcdncbfaaLaw
import Derived.Test.YtjpleagcdncbfaaLawNums
import Derived.BigQuiet
namespace Go.Proofs.Ytjpleagcdncbfaa
open Go.RowKit

set_option maxHeartbeats 400000 in
theorem stays_rings (y : Int) (g7 g10 : Nat) (AL : Option Addr) (nL cL : Nat) (L : List Int) (AM : Option Addr) (nM cM : Nat) (M : List Int) (BL BM : Nat) (w : World)
    (B7 : Blk w g7 23 #[.slice AL nL cL]) (B10 : Blk w g10 23 #[.slice AM nM cM]) (hL : Reads w BL 1 AL nL (L.map (.int .i64))) (hM : Reads w BM 1 AM nM (M.map (.int .i64))) (hnL : nL ≤ 1000000000000000000) (hnM : nM ≤ 1000000000000000000) :
    Calls Try.prog 17 #[.int .i64 y, .pointer (some ⟨g7, 0, none⟩), .pointer (some ⟨g10, 0, none⟩)] w fun e w' => e = .returned (.bool (decide (y ∈ L) || decide (y ∈ M))) ∧ ∃ q, w' = w.drewN q := by
  have k7 := B7.cell 0
  have k10 := B10.cell 0
  simp only [List.getElem?_toArray, List.getElem?_cons_zero, List.getElem?_cons_succ] at k7 k10
  cases hy : decide (y ∈ L)
  · have HC := Lib.hid (contains_int AL nL cL _ L y false w hL hnL hy)
    cases hz : decide (y ∈ M)
    · have HC2 := Lib.hid (contains_int AM nM cM _ M y false w hM hnM hz)
      clear hy hz hL hM
      go_enter Try.func17, Try.ntmps17
      go_wp2_with fail
      refine HC.out.mono ?_
      rintro e w' ⟨rfl, rfl⟩
      go_wp2_with fail
      refine HC2.out.mono ?_
      rintro e w' ⟨rfl, rfl⟩
      go_wp2
      go_ret
      exact ⟨by first | rfl | simp, 0, rfl⟩
    · have HC2 := Lib.hid (contains_int AM nM cM _ M y true w hM hnM hz)
      clear hy hz hL hM
      go_enter Try.func17, Try.ntmps17
      go_wp2_with fail
      refine HC.out.mono ?_
      rintro e w' ⟨rfl, rfl⟩
      go_wp2_with fail
      refine HC2.out.mono ?_
      rintro e w' ⟨rfl, rfl⟩
      go_wp2
      go_ret
      exact ⟨by first | rfl | simp, 0, rfl⟩
  · have HC := Lib.hid (contains_int AL nL cL _ L y true w hL hnL hy)
    clear hy hL hM
    go_enter Try.func17, Try.ntmps17
    go_wp2_with fail
    refine HC.out.mono ?_
    rintro e w' ⟨rfl, rfl⟩
    go_wp2
    go_ret
    exact ⟨by first | rfl | simp, 0, rfl⟩

set_option maxRecDepth 100000 in
set_option maxHeartbeats 1000000 in
theorem named_rings (A : Option Addr) (n c : Nat) (a : List Int) (y x : Int) (s : Spot) (g1 g2 : Nat) (w : World) (hr : Reads w w.heap.size 1 A n (a.map (.int .u64))) (hnc : n ≤ c) (ha : ∀ x ∈ a, (Lit.int .u64 x).wf = true) (hE : checkE a = 0) (hs : spotAt (spotsL a) y = some s)
    (B1 : Blk w g1 22 #[.slice A n c]) (B2 : Blk w g2 3 #[.int .i64 x]) :
    Calls Try.prog 18 #[.int .i64 y, .pointer (some ⟨g1, 0, none⟩), .pointer (some ⟨g2, 0, none⟩)] w fun e w' => e = .returned (.bool (decide (x ∈ linksL a s))) ∧ Below w.heap.size w w' := by
  have hLn : (linksL a s).length ≤ 256 := by
    have h1 : (linksL a s).length ≤ (refsOf a s).length := by
      unfold linksL
      rw [List.length_map]
      exact List.length_filter_le _ _
    have h2 : (refsOf a s).length ≤ a.length := by unfold refsOf; rw [List.length_take, List.length_drop]; omega
    have := (parse_ok (checkE_ok.1 hE).1).1
    omega
  have HR := Lib.hid (fun w hr => refsAt_ok A n c a y s w hr hnc ha hE hs)
  generalize linksL a s = M at *
  have k1 := B1.cell 0
  have k2 := B2.cell 0
  simp only [List.getElem?_toArray, List.getElem?_cons_zero, List.getElem?_cons_succ] at k1 k2
  have B1 := B1.drew
  have B2 := B2.drew
  have hbz := (Below.refl w.heap.size w).drew
  obtain ⟨b, hb⟩ : ∃ b, b = decide (x ∈ M) := ⟨_, rfl⟩
  rw [← hb]
  have HB := Lib.hid hb
  clear hE hs ha hb
  go_enter Try.func18, Try.ntmps18
  go_wp2
  go_region_held3 (fun w' => w'.cell? ⟨g1, 0, none⟩ = some (.slice A n c) ∧ w'.cell? ⟨g2, 0, none⟩ = some (.int .i64 x)) (go_keep)
    (first
      | (go_at_call 15; with_reducible refine (HR.out _ ((hr.below hbz).more hbz.size)).mono ?_; rintro e wA ⟨hbA, A1, c1, rfl, hownA⟩; have B1 := B1.below hbA B1.lt; have B2 := B2.below hbA B2.lt; have k1 := B1.cell 0; have k2 := B2.cell 0; simp only [List.getElem?_toArray, List.getElem?_cons_zero, List.getElem?_cons_succ] at k1 k2; have hbz := hbz.trans (hbA.mono hbz.size))
      | (go_at_call 12; refine (contains_int A1 M.length c1 _ M x b _ (Reads.of_own hownA) (by omega) HB.out.symm).mono ?_; rintro e wB ⟨rfl, rfl⟩))
  all_goals
    go_wp2
    go_ret
    exact ⟨by first | rfl | simp, hbz⟩

def staysL (L M xs : List Int) : List Int := xs.filter fun x => !(decide (x ∈ L) || decide (x ∈ M))
theorem staysL_mem {L M xs : List Int} {x : Int} : x ∈ staysL L M xs ↔ x ∈ xs ∧ x ∉ L ∧ x ∉ M := by
  unfold staysL
  simp [List.mem_filter]
theorem Dropped.rings {a : List Int} {S : List Spot} {left L M : List Int} {x : Int} (h : Dropped a S left L) (hM : Reached a S left M) (hx : x ∈ staysL L M (begsL S)) : (staysL L M (begsL S)).any (fun y => decide (x ∈ linksAt a S y)) = true := by
  obtain ⟨h1, h2, h3⟩ := staysL_mem.1 hx
  apply Classical.byContradiction
  intro hn
  refine h2 ((h.law x h1).2 ⟨fun hl => h3 (hM.roots x hl), fun y hy hyL hxy => hn (List.any_eq_true.2 ⟨y, staysL_mem.2 ⟨hy, hyL, fun hyM => h3 (hM.closed y hyM x hxy)⟩, decide_eq_true hxy⟩)⟩)
theorem Dropped.within {a : List Int} {S : List Spot} {left L M l : List Int} (h : Dropped a S left L) (hM : Reached a S left M) (hl : l = allLinks a S ++ left) : ∀ x ∈ staysL L M (begsL S), x ∈ ringsL l M (begsL S) := by
  intro x hx
  obtain ⟨y, -, hy⟩ := List.any_eq_true.1 (h.rings hM hx)
  obtain ⟨h1, -, h3⟩ := staysL_mem.1 hx
  have h4 : 0 < l.count x := List.count_pos_iff.2 (by rw [hl]; exact List.mem_append_left _ (linksAt_sub (of_decide_eq_true hy)))
  exact List.mem_filter.2 ⟨h1, by simp [h3, List.count_pos_iff.1 h4]⟩

set_option maxRecDepth 100000 in
set_option maxHeartbeats 2000000 in
theorem tallyRings_any (A : Option Addr) (n c : Nat) (a : List Int) (A2 : Option Addr) (n2 c2 : Nat) (f : List Int) (k : Int) (w : World) (hr : Reads w w.heap.size 1 A n (a.map (.int .u64))) (hnc : n ≤ c) (hc : c ≤ maxLen) (ha : ∀ x ∈ a, (Lit.int .u64 x).wf = true)
    (hr2 : Reads w w.heap.size 1 A2 n2 (f.map (.int .i64))) (hnc2 : n2 ≤ c2) (hc2 : c2 ≤ maxLen) (hx2 : ∀ x ∈ f, (Lit.int .i64 x).wf = true) (hm1 : n2 * 8 ≤ 140737488351232) (hk : (Lit.int .i64 k).wf = true) :
    Calls Try.prog 4 #[.slice A n c, .slice A2 n2 c2, .int .i64 k] w fun e w' => e = .returned (.bool true) ∧ Below w.heap.size w w' := by
  have hn2 : n2 ≤ 1000000000000000000 := by omega
  have hn2' : n2 * 8 ≤ 140737488355328 := by omega
  have hfl : f.length = n2 := by have := hr2.1; simpa using this
  clear hc hnc2 hc2 hm1 hk
  have hb0 := below_new w (.cells #[.slice A n c] 22)
  have B0 := Blk.new w 22 #[.slice A n c]
  by_cases hE : checkE a = 0
  · have h0 := (checkE_ok.1 hE).1
    have H1 := Lib.hid (fun w hr hr2 => drop_ok A n c a A2 n2 c2 f k w hr hnc ha hr2 hn2 hx2 hE)
    have H2 := Lib.hid (fun A2 n2 c2 f w hr hr2 hn2 hx2 => reach_ok A n c a A2 n2 c2 f w hr hnc ha hr2 hn2 hx2 hE)
    have HN := Lib.hid (fun y x s g1 g2 w hr hs B1 B2 => named_rings A n c a y x s g1 g2 w hr hnc ha hE hs B1 B2)
    have H3 := Lib.hid (fun A2 n2 c2 f w hr hr2 hn2 hx2 hall => rings_ok A n c a A2 n2 c2 f w hr hnc ha hr2 hn2 hx2 hE hall)
    have HBg := Lib.hid (fun w hr => begins_any A n c a w hr ha)
    have HBb := Lib.hid (begsL_bounds h0)
    have HLk := Lib.hid (linksAt_begs hE)
    have hkb : (begsL (spotsL a)).length ≤ 256 := by
      unfold begsL
      rw [List.length_map]
      have := List.length_filter_le (fun s : Spot => !s.f) (spotsL a)
      have := spotsL_length a
      omega
    have HKb := Lib.hid hkb
    generalize spotsL a = S at *
    have HFL := Lib.hid hfl
    have HX := Lib.hid hx2
    clear hE h0 ha hx2 hfl
    go_enter Try.func4, Try.ntmps4
    go_wp2_with fail
    refine (tallies_true _).mono ?_
    rintro e w1 ⟨rfl, hb1⟩
    have hb01 := below_step hb0 hb1
    have B1 := B0.below hb1 B0.lt
    have k0 := B1.cell 0
    simp only [List.getElem?_toArray, List.getElem?_cons_zero, List.getElem?_cons_succ] at k0
    clear hb0 B0 hb1
    go_wp2_with fail
    refine (H1.out _ ((hr.below hb01).more hb01.size) ((hr2.below hb01).more hb01.size)).mono ?_
    rintro e w2 ⟨hb2, ⟨kk, L, A3, c3, rfl, hkk, hall, hL, hL256, rfl, hown⟩ | ⟨er, her, rfl⟩⟩
    · have hb02 := below_step hb01 hb2
      have B2 := B1.below hb2 B1.lt
      obtain ⟨m, hm⟩ : ∃ m, m = L.length := ⟨_, rfl⟩
      rw [← hm] at hown hL256 ⊢
      have HL := Lib.hid hL
      have HAll := Lib.hid hall
      have hbn := below_new w2 (.cells #[.slice A3 m c3] 23)
      have D0 := Blk.new w2 23 #[.slice A3 m c3]
      have hrL := (Reads.of_own hown).below hbn
      have hrL := hrL.more hbn.size
      have B3 := B2.alloc (.cells #[.slice A3 m c3] 23)
      have hb03 := below_step hb02 hbn
      have wk : IntKind.i64.wrap ((kk : Int) + 1) = (kk : Int) + 1 := IntWalk.i64_in _ (by omega)
      obtain ⟨lf, hlf⟩ : ∃ lf, lf = f.take kk ++ f.drop (kk + 1) := ⟨_, rfl⟩
      rw [← hlf] at HL
      have HLf := Lib.hid hlf
      have hr2b := (hr2.below hb03).more hb03.size
      clear hm hL hall hlf hb01 hb2 B1 k0 hown B2
      go_wp2_with fail
      refine (clone_int A2 n2 c2 _ (f.map (.int .i64)) _ hr2b (Nat.le_refl _) (ints_one f) hn2').mono ?_
      rintro e w4 ⟨A4, c4, rfl, hown4, hb4⟩
      have hDe := Lib.hid (delete_one _ A4 n2 c4 kk f w4 hown4 hkk)
      have HO4 := Lib.hid hown4
      clear hown4
      go_wp2_with fail
      refine hDe.out.mono ?_
      rintro e w5 ⟨rfl, hown5, hg5⟩
      have hbd5 : Below (w2.alloc (.cells #[.slice A3 m c3] 23)).heap.size (w2.alloc (.cells #[.slice A3 m c3] 23)) w5 := hb4.grown hg5 hb4.size (fun g e => (HO4.out.lt g e).1)
      have hb05 := below_step hb03 hbd5
      rw [← HLf.out] at hown5
      have hrF := Reads.of_own hown5
      have D5 := D0.below hbd5 D0.lt
      have B5 := B3.below hbd5 B3.lt
      have hrL5 := (hrL.below hbd5).more hbd5.size
      have k5 := B5.cell 0
      simp only [List.getElem?_toArray, List.getElem?_cons_zero, List.getElem?_cons_succ] at k5
      have hlfm : ∀ x ∈ lf, x ∈ f := by
        intro x hx
        rw [HLf.out, List.mem_append] at hx
        rcases hx with hx | hx
        · exact List.mem_of_mem_take hx
        · exact List.mem_of_mem_drop hx
      obtain ⟨nf, hnf⟩ : ∃ nf, nf = n2 - 1 := ⟨_, rfl⟩
      rw [← hnf] at hrF ⊢
      have hnfb : nf ≤ 1000000000000000000 := by omega
      have H2' := Lib.hid (H2.out A4 nf c4 lf w5 ((hr.below hb05).more hb05.size) hrF hnfb (fun x hx => HX.out x (hlfm x hx)))
      have HLM := Lib.hid hlfm
      clear hlfm hown5 hg5 hb4 hrL hbn D0 B3 hb02 hnf hr2b
      go_wp2_with fail
      refine H2'.out.mono ?_
      rintro e w6 ⟨hb6, ⟨M, A6, c6, hM, rfl, hown6⟩ | ⟨⟨x, hx, hx2⟩, -⟩⟩
      · have hM256 : M.length ≤ 256 := nodup_bound 256 M hM.once (fun x hx => HBb.out x (hM.begs x hx))
        obtain ⟨q, hq⟩ : ∃ q, q = M.length := ⟨_, rfl⟩
        rw [← hq] at hown6 hM256 ⊢
        have HM := Lib.hid hM
        have HLive := Lib.hid (HL.out.live hM HLk.out)
        have hb06 := below_step hb05 hb6
        have hbn6 := below_new w6 (.cells #[.slice A6 q c6] 23)
        have F6 := Blk.new w6 23 #[.slice A6 q c6]
        have hbz6 := below_step hb6 hbn6
        have hb06 := below_step hb05 hbz6
        have D6 := D5.below hbz6 D5.lt
        have B6 := B5.below hbz6 B5.lt
        have hrL6 := (hrL5.below hbz6).more hbz6.size
        have hrF6 := (hrF.below hbz6).more hbz6.size
        have hrM := ((Reads.of_own hown6).below hbn6).more hbn6.size
        have k6 := B6.cell 0
        simp only [List.getElem?_toArray, List.getElem?_cons_zero, List.getElem?_cons_succ] at k6
        clear hown6 hq hM k5 D5 B5 hrL5 hrF hb05 hb6 hbd5 hbz6 hbn6
        go_wp2_with fail
        refine (HBg.out _ ((hr.below hb06).more hb06.size)).mono ?_
        rintro e w7 ⟨hb7, A7, c7, rfl, hown7⟩
        have hb07 := below_step hb06 hb7
        have D7 := D6.below hb7 D6.lt
        have B7 := B6.below hb7 B6.lt
        have F7 := F6.below hb7 F6.lt
        have hrL7 := hrL6.below hb7
        have hrF7 := hrF6.below hb7
        have hrM7 := hrM.below hb7
        obtain ⟨kb, hkb2⟩ : ∃ kb, kb = (begsL S).length := ⟨_, rfl⟩
        rw [← hkb2] at hown7 hkb
        rw [← hkb2]
        have hge := fun g hg => (hown7.lt g hg).1
        have HDF := Lib.hid (deleteF_int 17 #[.pointer (some ⟨w2.heap.size, 0, none⟩), .pointer (some ⟨w6.heap.size, 0, none⟩)] (fun x => decide (x ∈ L) || decide (x ∈ M)) _ A7 kb c7 (begsL S) w7 hown7 (by omega) (plain_of (fn := Try.f17) Try.func17 (by kernel_rfl) (by kernel_rfl)) (fun W x hgW => by
          exact stays_rings x w2.heap.size w6.heap.size A3 m c3 L A6 q c6 M _ _ W (D7.grown hgW (fun e => by have := hge _ e.symm; have := D6.lt; omega)) (F7.grown hgW (fun e => by have := hge _ e.symm; have := F6.lt; omega))
            (hrL7.grown hgW hb7.size (fun g e => hge g e)) (hrM7.grown hgW hb7.size (fun g e => hge g e)) (by omega) (by omega)))
        have hO7 := Lib.hid hown7
        clear hown7 k6 hkb2
        go_wp2_with fail
        refine HDF.out.mono ?_
        rintro e w8 ⟨rfl, hown8, hg8⟩
        have hb8 := hb7.grown hg8 hb7.size (fun g e => hge g e)
        have hb08 := below_step hb06 hb8
        have D8 := D6.below hb8 D6.lt
        have B8 := B6.below hb8 B6.lt
        have hrF8 := (hrF6.below hb8).more hb8.size
        have hsm : staysL L M (begsL S) = (begsL S).filter fun x => !(decide (x ∈ L) || decide (x ∈ M)) := rfl
        rw [← hsm] at hown8 ⊢
        have HSt := Lib.hid (fun x hx => HL.out.rings (x := x) HM.out hx)
        have HSb : Hid (∀ x ∈ staysL L M (begsL S), x ∈ begsL S) := fun x hx => (staysL_mem.1 hx).1
        have HWi := Lib.hid (fun l hl => HL.out.within (l := l) HM.out hl)
        have hsl : (staysL L M (begsL S)).length ≤ kb := by
          have := (hown8.1 : _)
          have h2 := List.length_filter_le (fun x => !(decide (x ∈ L) || decide (x ∈ M))) (begsL S)
          rw [hsm]
          have h3 := hO7.out.1
          simp only [List.length_map] at h3
          omega
        generalize staysL L M (begsL S) = T at *
        obtain ⟨t, ht⟩ : ∃ t, t = T.length := ⟨_, rfl⟩
        rw [← ht] at hown8 hsl ⊢
        have hrT := Reads.of_own hown8
        have b8 := B8.cell 0
        simp only [List.getElem?_toArray, List.getElem?_cons_zero, List.getElem?_cons_succ] at b8
        clear hown8 hg8 ht hsm hge D7 B7 F7 hrL7 hrF7 hrM7 hb07 hb7 D6 B6 F6 hrL6 hrF6 hrM hb06 hb8
        go_wp2
        go_loopw [46] (fun i wr => ∃ j : Nat, j ≤ t ∧ i = .int .i64 j ∧ Below w8.heap.size w8 wr) (fun i _ => t - (intOf i).toNat)
        case atStart => exact ⟨0, Nat.zero_le _, rfl, Below.refl _ _⟩
        case round =>
          obtain ⟨j, hj, rfl, hb⟩ := hrel
          have hb0w := below_step hb08 hb
          have B9 := B8.below hb B8.lt
          have b9 := B9.cell 0
          simp only [List.getElem?_toArray, List.getElem?_cons_zero, List.getElem?_cons_succ] at b9
          by_cases hlt : j < t
          · obtain ⟨ad, x, rfl, had, hx, cx⟩ := (hrT.below hb).num hlt
            have hj1 : j + 1 ≤ t := hlt
            have hxT := List.mem_of_getElem? hx
            have E0 := Blk.new wr 3 #[.int .i64 x]
            have hbx := hb.trans ((below_new wr (.cells #[.int .i64 x] 3)).mono hb.size)
            have hb0x := below_step hb08 hbx
            have B10 := B8.below hbx B8.lt
            have hCF := containsIntF2_any 18 (.pointer (some ⟨w.heap.size, 0, none⟩)) (.pointer (some ⟨wr.heap.size, 0, none⟩)) (some ad) t c7 _ T (fun y => decide (x ∈ linksAt a S y)) _ ((hrT.below hbx).more hbx.size) (Nat.le_refl _) (by omega) (plain_of (fn := Try.f18) Try.func18 (by kernel_rfl) (by kernel_rfl)) (fun w' y hb' hy => by
              obtain ⟨s, hs⟩ := begsL_iff.1 (HSb.out y hy)
              have hlk : linksAt a S y = linksL a s := by unfold linksAt; rw [hs]
              have hbq := below_step hb0x hb'
              have := HN.out y x s w.heap.size wr.heap.size w' ((hr.below hbq).more hbq.size) hs (B10.below hb' B10.lt) (E0.below hb' E0.lt)
              simp only [hlk]
              exact this)
            rw [HSt.out x hxT] at hCF
            have HCF := Lib.hid hCF
            clear hCF hx hxT
            go_wp2_with fail
            refine HCF.out.mono ?_
            rintro e w10 ⟨rfl, hb10⟩
            have hby := hbx.trans (hb10.mono hbx.size)
            go_wp2
            go_roundw
            case rel => exact ⟨j + 1, hj1, by go_num, hby⟩
            case measure => simp [intOf]; omega
          · have g0 : decide (j < t) = false := decide_eq_false hlt
            have H3' := Lib.hid (H3.out A4 nf c4 lf wr ((hr.below hb0w).more hb0w.size) ((hrF8.below hb).more hb.size) hnfb (fun x hx => HX.out x (HLM.out x hx)) (fun x hx => HAll.out x (HLM.out x hx)))
            go_wp2_with fail
            refine H3'.out.mono ?_
            rintro e w11 ⟨hb11, M2, R, A11, c11, hM2, hR, hR256, rfl, hown11⟩
            have hMM := hM2.unique HM.out
            subst hMM
            have hwi := HWi.out _ rfl
            rw [← hR] at hwi
            have hb811 := hb.trans (hb11.mono hb.size)
            have hx0 := reads_new w11 [.int .i64 0, .int .i64 0] 25 2 1 rfl
            have hbn12 := below_new w11 (.cells #[.int .i64 0, .int .i64 0] 25)
            have HG := Lib.hid (good_of (some ⟨w11.heap.size, 0, none⟩) 2 2 _ [0, 0] true _ (by decide) (by simpa using hx0) (by decide))
            have hb812 := hb811.trans (hbn12.mono hb811.size)
            obtain ⟨u, hu⟩ : ∃ u, u = R.length := ⟨_, rfl⟩
            rw [← hu] at hown11 hR256 ⊢
            have HW := Lib.hid (within_two A7 A11 t c7 u c11 T R true _ ((hrT.below hb812).more hb812.size) (by omega) (((Reads.of_own hown11).below hbn12).more hbn12.size) (by omega) (decide_eq_true hwi))
            clear hown11 hwi hR hx0 hu hM2
            go_wp2_with fail
            refine HG.out.mono ?_
            rintro e w12 ⟨rfl, rfl⟩
            go_wp2_with fail
            refine HW.out.mono ?_
            rintro e w13 ⟨rfl, hb13⟩
            have hb813 := hb812.trans (hb13.mono hb812.size)
            go_wp2
            go_ret
            exact ⟨by first | rfl | simp, below_step hb08 hb813⟩
      · exact absurd (HAll.out x (HLM.out x hx)) hx2
    · have B2 := B1.below hb2 B1.lt
      have hb02 := below_step hb01 hb2
      clear k0
      go_wp2
      go_ret
      exact ⟨by first | rfl | simp, hb02.alloc hb02.size _⟩
  · have H1 := Lib.hid (fun w hr => drop_bad A n c a A2 n2 c2 k w hr hnc ha hE)
    have hE1 : (checkE a != 0) = true := by simpa using hE
    generalize checkE a = E at *
    clear hE
    go_enter Try.func4, Try.ntmps4
    go_wp2_with fail
    refine (tallies_true _).mono ?_
    rintro e w1 ⟨rfl, hb1⟩
    have hb01 := below_step hb0 hb1
    have B1 := B0.below hb1 B0.lt
    have k0 := B1.cell 0
    simp only [List.getElem?_toArray, List.getElem?_cons_zero, List.getElem?_cons_succ] at k0
    go_wp2_with fail
    refine (H1.out _ ((hr.below hb01).more hb01.size)).mono ?_
    rintro e w2 ⟨rfl, hb2⟩
    have hb02 := below_step hb01 hb2
    clear k0
    go_wp2
    go_ret
    exact ⟨by first | rfl | simp, hb02.alloc hb02.size _⟩

namespace TallyRings
open Go.ChangeShapes Go.WideShapes Go.ChangeAt Go.RowKit
theorem own : ownKnob Try.prog.godebug = none := by kernel_rfl
theorem laidOut : laidOutB Try.prog = true := by kernel_rfl

set_option maxRecDepth 100000 in
theorem lifted (os : Os) (started : os.Started) (H : Type) (enc : TypeId × Value → H) :
    ReturnsInHanded {} Try.checked os 4 .any (Rows.tallyRingsSpec.pre6 enc Try.prog Try.f4 Rows.tallyRingsRow.domain false) (Rows.tallyRingsSpec.post enc Try.prog Try.f4 false true false false) := by
  refine returnsInHanded_of_change_sized (C := Try.checked) own started (by as_aux_lemma => kernel_rfl) Try.func4
    (ChangeSpec.witness6 (enc := enc) (C := Try.checked) false ⟨#[], #[.slice none 0 0, .slice none 0 0, .int .i64 0], []⟩ 8 (by as_aux_lemma => kernel_rfl) (by as_aux_lemma => kernel_rfl) (by as_aux_lemma => kernel_rfl) (by as_aux_lemma => kernel_rfl)) ?_
  intro W base args ds gs before hval0 hW hcnd hsz _
  have hval : ∀ (j : Nat) t v, Try.f4.params[j]? = some t → args[j]? = some v → Value.okWide Try.prog W .any base t v := hval0
  have hW' := hW
  obtain ⟨p, q, hA0, hV, rfl, hfz, hnd⟩ := hW
  have hA : DataW.TrodAll enc Try.prog W 0 (fun _ => true) true Try.f4.params.toList args.toList ds p := hA0
  rw [Try.params4] at hA hval
  obtain ⟨v0, vs0, d0, ds0, p0, q0, hargs, rfl, rfl, h0, hA⟩ := trodAll_cons hA
  obtain ⟨v1, vs1, d1, ds1, p1, q1, rfl, rfl, rfl, h1, hA⟩ := trodAll_cons hA
  obtain ⟨v2, vs2, d2, ds2, p2, q2, rfl, rfl, rfl, h2, hA⟩ := trodAll_cons hA
  obtain ⟨rfl, rfl, rfl⟩ := trodAll_nil hA
  obtain rfl : args = #[v0, v1, v2] := by cases args; simp_all
  obtain ⟨A0, n0, c0, xs0, rfl, hnc0, hc0, hr0, hx0⟩ := open_nums Try.underlying22 Try.underlying72 (by as_aux_lemma => kernel_rfl) (hval 0 _ v0 rfl rfl) (fun x hx => hW'.lt x (by simp [hx])) h0
  obtain ⟨A1, n1, c1, xs1, rfl, hnc1, hc1, hr1, hx1, hd1⟩ := open_nums2 Try.underlying23 Try.underlying3 (by as_aux_lemma => kernel_rfl) (hval 1 _ v1 rfl rfl) (fun x hx => hW'.lt x (by simp [hx])) h1
  have hm1 : n1 * 8 ≤ 140737488351232 := by
    rcases hd1 with h0 | ⟨D, E, rfl, hD⟩
    · omega
    · have h5 : (D.length + E.length) * Try.prog.bytesOf 3 ≤ reachBytes := sized_slice hsz (j := 1) (t := 23) (e := 3) rfl rfl Try.underlying23
      rw [k_int_bytes, hD] at h5
      simp only [reachBytes] at h5
      omega
  obtain ⟨i2, rfl, rfl, rfl, w2⟩ := open_int Try.underlying3 (hval 2 _ v2 rfl rfl) h2
  refine (tallyRings_any A0 n0 c0 xs0 A1 n1 c1 xs1 i2 W hr0 hnc0 hc0 hx0 hr1 hnc1 hc1 hx1 hm1 w2).mono fun e W' ⟨he, hb⟩ => ?_
  subst he
  exact ⟨_, rfl, law_post laidOut Try.underlying4 rfl (by as_aux_lemma => kernel_rfl) rfl rfl hW' hb⟩

set_option maxHeartbeats 10000000 in
theorem closed : joinedFacts Try.prog 4 Try.f4 Rows.tallyRingsSpec Rows.tallyRingsRow = true := by
  unfold joinedFacts
  simp only [Bool.and_eq_true]
  repeat' apply And.intro
  all_goals as_aux_lemma => kernel_rfl

set_option maxHeartbeats 1000000 in
theorem proved : Rows.TallyRingsSaid :=
  OpenClaim.holds_of_wide 4 Try.f4 rfl rfl rfl rfl rfl rfl rfl ⟨rfl, rfl, rfl, rfl, rfl⟩ rfl rfl rfl rfl rfl (by as_aux_lemma => kernel_rfl) Try.func4 closed
    (of_decide_eq_true (by as_aux_lemma => kernel_rfl)) (by unfold Func.isWrapper; first | (rw [if_pos (by decide +kernel)]; kernel_rfl) | (rw [if_neg (by decide +kernel)]; exact ⟨rfl, rfl⟩))
    (fun os started H enc _ => lifted os started H enc)
end TallyRings
end Go.Proofs.Ytjpleagcdncbfaa
