/-
  Texts joined: GapJoin IndexSpot2 GapTake GapGive SlicesRun Slices Good LawHead GapTurns QGapTake.
-/
import Derived.Test.YtbmkbnalembbjaaGreatDoorRows
import Derived.Lib.SmallJoins
import Derived.StillTailTactics
import Derived.Test.YtbmkbnalembbjaaGreatDoorQ0
import Derived.Test.YtbmkbnalembbjaaGreatDoorQ1
import Derived.Test.YtbmkbnalembbjaaGreatDoorQ2
import Derived.Test.YtbmkbnalembbjaaGreatDoorQ3
import Derived.Test.YtbmkbnalembbjaaGreatDoorQ4
import Derived.Test.YtbmkbnalembbjaaGreatDoorQ7
import Derived.Test.YtbmkbnalembbjaaGreatDoorQ12
import Derived.Test.YtbmkbnalembbjaaGreatDoorQ14
namespace Go.Proofs.YtbmkbnalembbjaaGreatDoor
open Go.RowKit
set_option maxHeartbeats 400000 in
theorem glay_ok (A : Option Addr) (n c B : Nat) (a : List Int) (i m : Nat) (w : World) (hr : Reads w B 1 A n (a.map (.int .u64))) (hB : B ≤ w.heap.size) (hn : n ≤ 256) (him : i + m ≤ n) (h1 : 1 ≤ m) :
    Calls Tryz.prog 101 #[.slice A n c, .int .i64 i, .int .i64 m] w fun e w' => Below w.heap.size w w' ∧ ∃ A' c', e = .returned (.slice A' n c') ∧ w'.ownsRow w.heap.size 45 1 (.slice A' n c') n ((layL a i m).map (.int .u64)) := by
  have hE : headE 0 ((m : Int) - 1) 0 true = 0 := headE_ok.2 ⟨by omega, by omega, by omega, by omega, by omega, by omega, by omega, fun _ => ⟨rfl, rfl⟩⟩
  have HW := Lib.hid (fun w => hword_ok 0 ((m : Int) - 1) 0 true w hE)
  have hF : fillE n i m = 0 := fillE_ok.2 ⟨by omega, by omega, by omega, by omega, by omega⟩
  have HF := Lib.hid (fun w hr hB => fill_ok A n c B a i m 0 w hr hB hF)
  have HL : Hid (layL a i m = (fillL a i m 0).set i (wordOf 0 ((m : Int) - 1) 0 true)) := by show _ = _; unfold layL; rw [if_neg (by omega)]
  have w1 : IntKind.i64.wrap ((m : Int) - 1) = (m : Int) - 1 := IntWalk.i64_in _ (by omega)
  have hm0 : ((m : Int) == 0) = false := by simp; omega
  simp only [Int.toNat_natCast] at HF
  generalize fillL a i m 0 = F at *
  generalize wordOf 0 ((m : Int) - 1) 0 true = v at *
  clear hE hF
  go_enter Tryz.func101, Tryz.ntmps101
  go_wp2_with fail
  refine (HW.out _).mono ?_
  rintro e w1 ⟨rfl, hb1⟩
  go_wp2_with fail
  refine (HF.out _ (hr.below (hb1.mono hB)) (by have := hb1.size; omega)).mono ?_
  rintro e w2 ⟨hb2, A', c', rfl, hown⟩
  obtain ⟨g, cap, hv, hg, -⟩ := hown.form (by omega)
  obtain ⟨rfl, rfl⟩ : A' = some ⟨g, 0, none⟩ ∧ c' = cap := by simpa using hv
  have hF0 := hown.frozenAt i
  have hl := hown.1
  simp only [List.length_map] at hl
  have hc0 := hown.cellAt i (by omega)
  rw [List.getElem?_map, List.getElem?_eq_getElem (by omega)] at hc0
  have hc1 : w2.cell? ⟨g, i, none⟩ = some (.int .u64 (F[i]'(by omega))) := hc0
  have hin : i < n := by omega
  have HOW := Lib.hid hown
  clear hv hc0 hown
  go_wp2
  go_ret
  refine ⟨(below_step hb1 hb2).setCell (p := ⟨g, i, none⟩) (by have := hb1.size; exact Nat.le_trans this hg) _, some ⟨g, 0, none⟩, c', rfl, ?_⟩
  rw [HL.out, List.map_set]
  exact own_mono (HOW.out.stored i (.int .u64 v)).1 hb1.size
set_option maxRecDepth 100000 in
set_option maxHeartbeats 1000000 in
theorem gjoin_ok (A : Option Addr) (n c : Nat) (a : List Int) (w : World) (hr : Reads w w.heap.size 1 A n (a.map (.int .u64))) (hnc : n ≤ c) (ha : ∀ x ∈ a, (Lit.int .u64 x).wf = true) (hE : checkE a = 0) :
    Calls Tryz.prog 68 #[.slice A n c] w fun e w' => Below w.heap.size w w' ∧ ∃ A' c', e = .returned (.tuple #[.slice A' n c', .int .i64 0]) ∧ w'.ownsRow w.heap.size 45 1 (.slice A' n c') n ((joinL a (gapsL (spotsL a))).map (.int .u64)) := by
  have H1 := fun w hr => gspots_any A n c a w hr hnc ha
  obtain ⟨s1, s2, s3, s4⟩ := gspots_small a
  have hgs : gspotsL a = spotsL a := by unfold gspotsL; rw [if_pos hE]
  rw [hE] at H1
  rw [hgs] at H1 s1 s2
  have H1 := Lib.hid H1
  have H2 := Lib.hid (fun A' c' w hr => ggaps_any A' (spotsL a).length c' (spotsL a) w hr s1 s2)
  have hal : a.length = n := by have := hr.1; simpa using this
  have hn : n ≤ 256 := by have := (parse_ok (checkE_ok.1 hE).1).1; omega
  have hJ := join_ok hE
  have HR := Lib.hid hJ.runs
  have hGl : (gapsL (spotsL a)).length ≤ 256 := by have := gapsA_length [] false (spotsL a); unfold gapsL; simp only [List.length_nil] at this; omega
  have H3 := Lib.hid (fun w hr hB => clone_u64 A n c w.heap.size (a.map (.int .u64)) w hr hB (u64s_one a) (by omega))
  generalize spotsL a = L at *
  generalize gapsL L = G at *
  obtain ⟨k, hk⟩ : ∃ k, k = G.length := ⟨_, rfl⟩
  have HK := Lib.hid hk
  rw [← hk] at H2 hGl
  have HAL := Lib.hid hal
  clear s1 s2 s3 s4 hgs hJ hE hk hal
  go_enter Tryz.func68, Tryz.ntmps68
  go_wp2_with fail
  refine (H1.out _ hr).mono ?_
  rintro e w1 ⟨hb1, A1, c1, rfl, hown1⟩
  have hrl := Reads.of_own hown1
  clear hown1
  go_wp2_with fail
  refine (H3.out _ ((hr.below hb1).more hb1.size) (Nat.le_refl _)).mono ?_
  rintro e w2 ⟨A2, c2, rfl, hown2, hb2⟩
  have hb02 := below_step hb1 hb2
  go_wp2_with fail
  refine (H2.out _ _ _ ((hrl.below hb2).more hb2.size)).mono ?_
  rintro e w3 ⟨hb3, A3, c3, rfl, hown3⟩
  have hrG := Reads.of_own hown3
  have hown23 := own_mono (own_below hown2 hb3) hb1.size
  have hb03 := below_step hb02 hb3
  clear hown3 hown2 hrl hb1 hb2 hb3 hb02
  go_wp2
  go_loopw [0, 7, 21] (fun o _ i wr => ∃ (j : Nat) (A' : Option Addr) (c' : Nat) (cur : List Int), j ≤ k ∧ i = .int .i64 j ∧ o = .slice A' n c' ∧ Hid (joinL a G = joinL cur (G.drop j)) ∧ wr.ownsRow w.heap.size 45 1 (.slice A' n c') n (cur.map (.int .u64)) ∧ Below w3.heap.size w3 wr) (fun _ _ i _ => k - (intOf i).toNat)
  case atStart => exact ⟨0, A2, c2, a, Nat.zero_le _, rfl, rfl, rfl, hown23, Below.refl _ _⟩
  case round =>
    obtain ⟨j, A', c', cur, hj, rfl, rfl, hJ, hown, hb⟩ := hrel
    by_cases hlt : j < k
    · obtain ⟨ad, r, rfl, had, hs, c0, c1⟩ := (hrG.below hb).run hlt
      obtain ⟨i, m, rfl, h1, him⟩ := HR.out r (List.mem_of_getElem? hs)
      rw [HAL.out] at him
      have HD := Lib.hid (drop_of_get hs)
      have HJ2 : Hid (joinL a G = joinL (layL cur i m) (G.drop (j + 1))) := by
        show _ = _
        rw [hJ.out, HD.out]
        rfl
      dsimp only at c0 c1
      have hrc := (Reads.of_own hown).alloc (Nat.le_refl _) (.cells #[.int .i64 i, .int .i64 m] 133)
      have HL := Lib.hid (glay_ok A' n c' _ cur i m _ hrc (by simp) hn him h1)
      have hb0 := hb.alloc hb.size (.cells #[.int .i64 i, .int .i64 m] 133)
      have hbs : w.heap.size ≤ (wr.alloc (.cells #[.int .i64 i, .int .i64 m] 133)).heap.size := by have := hb0.size; have := hb03.size; omega
      clear hs hrc hown hJ
      go_wp2_with fail
      refine HL.out.mono ?_
      rintro e w4 ⟨hb4, A4, c4, rfl, hown4⟩
      go_wp2
      go_roundw
      case rel => exact ⟨j + 1, A4, c4, layL cur i m, by omega, by go_num, rfl, HJ2, own_mono hown4 hbs, hb0.trans (hb4.mono hb0.size)⟩
      case measure => simp [intOf]; omega
    · have hjk : j = k := by omega
      subst hjk
      rw [List.drop_of_length_le (by rw [← HK.out]; exact Nat.le_refl _)] at hJ
      have hJ : Hid (joinL a G = cur) := hJ
      go_wp2
      go_ret2
      rw [hJ.out]
      exact ⟨below_step hb03 hb, A', c', rfl, hown⟩
end Go.Proofs.YtbmkbnalembbjaaGreatDoor

namespace Go.Proofs.YtbmkbnalembbjaaGreatDoor
open Go.RowKit
set_option maxRecDepth 100000 in
set_option maxHeartbeats 1000000 in
theorem indexSpot2_any (F : Nat) (cap cap2 : Value) (A : Option Addr) (n c B : Nat) (l : List Spot) (p : Spot → Bool) (w : World) (hr : Reads w B 5 A n (spotsC l)) (hB : B ≤ w.heap.size) (hn : n ≤ 1000000) (hF : Plain Tryz.prog F)
    (HC : ∀ (w' : World) (s : Spot), Below w.heap.size w w' → s ∈ l → Calls Tryz.prog F #[.agg #[.int .i64 s.loc, .int .i64 s.r, .int .i64 s.b, .int .i64 s.t, .bool s.f], cap, cap2] w' fun e w'' => e = .returned (.bool (p s)) ∧ Below w'.heap.size w' w'') :
    Calls Tryz.prog 94 #[.slice A n c, .func (.func F) #[] #[cap, cap2]] w fun e w' => e = .returned (.int .i64 (ixOf p l)) ∧ Below w.heap.size w w' := by
  have hll : l.length = n := by have := hr.1; rw [spotsC_length] at this; omega
  have HL := Lib.hid hll
  have HC := Lib.hid HC
  have hcf := fun (x : Value) (w : World) => hF #[x, cap, cap2] w
  clear hll hF
  go_enter Tryz.func94, Tryz.ntmps94
  go_wp2
  go_loopw [5, 8] (fun _ i wr => ∃ j : Nat, j ≤ n ∧ i = .int .i64 j ∧ Below w.heap.size w wr ∧ Hid (∀ x ∈ l.take j, p x = false)) (fun _ i _ => n - (intOf i).toNat)
  case atStart => exact ⟨0, Nat.zero_le _, rfl, Below.refl _ _, by intro x hx; simp at hx⟩
  case round =>
    obtain ⟨j, hj, rfl, hb, HD⟩ := hrel
    by_cases hlt : j < n
    · obtain ⟨ad, s, rfl, had, hs, c0, c1, c2, c3, c4⟩ := (hr.below (hb.mono hB)).spot hlt
      have HS := Lib.hid hs
      have HQ := Lib.hid (HC.out wr s hb (List.mem_of_getElem? hs))
      clear hs
      cases hp : p s
      · have HF := Lib.hid hp
        clear hp
        go_wp2_with fail
        refine HQ.out.mono ?_
        rw [HF.out]
        rintro e w1 ⟨rfl, hb1⟩
        go_wp2
        go_roundw
        case rel => exact ⟨j + 1, by omega, by go_num, hb.trans (hb1.mono hb.size), fun x hx => by
          rcases take_succ_mem HS.out x hx with h | rfl
          · exact HD.out x h
          · exact HF.out⟩
        case measure => simp [intOf]; omega
      · have HF := Lib.hid hp
        clear hp
        go_wp2_with fail
        refine HQ.out.mono ?_
        rw [HF.out]
        rintro e w1 ⟨rfl, hb1⟩
        go_wp2
        go_ret
        exact ⟨ret_int (ixOf_some HS.out HF.out HD.out).symm, hb.trans (hb1.mono hb.size)⟩
    · go_wp2
      go_ret
      exact ⟨ret_int (ixOf_none (by have := HD.out; rwa [List.take_of_length_le (by rw [HL.out]; omega)] at this)).symm, hb⟩
end Go.Proofs.YtbmkbnalembbjaaGreatDoor

namespace Go.Proofs.YtbmkbnalembbjaaGreatDoor
open Go.RowKit
def pF (x : Int) (fr : Bool) (s : Spot) : Bool := (s.loc == x) && (s.f == fr)
set_option maxHeartbeats 400000 in
theorem findC_any (g1 g2 : Nat) (x : Int) (fr : Bool) (s : Spot) (w : World) (hg1 : g1 < w.heap.size) (hg2 : g2 < w.heap.size) (hc1 : w.cell? ⟨g1, 0, none⟩ = some (.int .i64 x)) (hc2 : w.cell? ⟨g2, 0, none⟩ = some (.bool fr)) :
    Calls Tryz.prog 128 #[.agg #[.int .i64 s.loc, .int .i64 s.r, .int .i64 s.b, .int .i64 s.t, .bool s.f], .pointer (some ⟨g1, 0, none⟩), .pointer (some ⟨g2, 0, none⟩)] w fun e w' => e = .returned (.bool (pF x fr s)) ∧ Below w.heap.size w w' := by
  obtain ⟨loc, r, b, t, f⟩ := s
  have hc1' : ∀ o, (w.alloc o).cell? ⟨g1, 0, none⟩ = some (.int .i64 x) := fun o => by rw [World.cell?_alloc_lt _ _ _ (by exact hg1)]; exact hc1
  have hc2' : ∀ o, (w.alloc o).cell? ⟨g2, 0, none⟩ = some (.bool fr) := fun o => by rw [World.cell?_alloc_lt _ _ _ (by exact hg2)]; exact hc2
  unfold pF
  dsimp only
  by_cases h : loc = x
  · subst h
    go_enter Tryz.func128, Tryz.ntmps128
    go_wp2
    go_ret
    exact ⟨by simp, below_new _ _⟩
  · have h1 : (loc == x) = false := by simpa using h
    rw [h1, Bool.false_and]
    go_enter Tryz.func128, Tryz.ntmps128
    go_wp2
    go_ret
    exact ⟨rfl, below_new _ _⟩
set_option maxRecDepth 100000 in
set_option maxHeartbeats 1000000 in
theorem gfind_ok (A : Option Addr) (n c : Nat) (l : List Spot) (x : Int) (fr : Bool) (i : Nat) (s : Spot) (w : World) (hr : Reads w w.heap.size 5 A n (spotsC l)) (hn : n ≤ 256) (hix : ixOf (pF x fr) l = i) (hs : l[i]? = some s) :
    Calls Tryz.prog 102 #[.slice A n c, .int .i64 x, .bool fr] w fun e w' => e = .returned (.tuple #[.agg #[.int .i64 s.loc, .int .i64 s.r, .int .i64 s.b, .int .i64 s.t, .bool s.f], .bool true]) ∧ Below w.heap.size w w' := by
  have HIX := fun W hr hB HC => indexSpot2_any 128 (.pointer (some ⟨w.heap.size, 0, none⟩)) (.pointer (some ⟨w.heap.size + 1, 0, none⟩)) A n c w.heap.size l (pF x fr) W hr hB (by omega) (plain_of (fn := Tryz.f128) Tryz.func128 (by kernel_rfl) (by kernel_rfl)) HC
  rw [hix] at HIX
  have HIX := Lib.hid HIX
  have hin : i < n := by
    have h1 := (List.getElem?_eq_some_iff.1 hs).1
    have h2 := hr.1
    rw [spotsC_length] at h2
    omega
  generalize hp : pF x fr = p at *
  have HP := Lib.hid hp
  have HS := Lib.hid hs
  clear hp hix hs
  go_enter Tryz.func102, Tryz.ntmps102
  go_wp2_with fail
  have hb0 := (((below_new w (.cells #[.int .i64 x] 3)).alloc (by simp) (.cells #[.bool fr] 4))).alloc (by simp; omega) (.cells #[.int .i64 0, .int .i64 0, .int .i64 0, .int .i64 0, .bool false] 165)
  have B0 := ((Blk.new w 3 #[.int .i64 x]).alloc (.cells #[.bool fr] 4)).alloc (.cells #[.int .i64 0, .int .i64 0, .int .i64 0, .int .i64 0, .bool false] 165)
  have B1 := (Blk.new (w.alloc (.cells #[.int .i64 x] 3)) 4 #[.bool fr]).alloc (.cells #[.int .i64 0, .int .i64 0, .int .i64 0, .int .i64 0, .bool false] 165)
  have B2 := Blk.new ((w.alloc (.cells #[.int .i64 x] 3)).alloc (.cells #[.bool fr] 4)) 165 #[.int .i64 0, .int .i64 0, .int .i64 0, .int .i64 0, .bool false]
  simp only [World.size_alloc] at B1 B2
  refine (HIX.out _ (hr.below hb0) (by simp <;> omega) ?_).mono ?_
  · intro w' s hb' _
    have hsz := hb'.size
    simp only [World.size_alloc] at hsz
    have := findC_any w.heap.size (w.heap.size + 1) x fr s w' (by omega) (by omega) ((B0.below hb' (by simp; omega)).cell 0) ((B1.below hb' (by simp)).cell 0)
    rw [HP.out] at this
    exact this
  rintro e w1 ⟨rfl, hb1⟩
  have D2 := B2.below hb1 (by simp)
  have hb01 := below_step hb0 (hb1.mono (by simp <;> omega))
  obtain ⟨ad, s', rfl, had, hs', k0, k1, k2, k3, k4⟩ := (hr.below hb01).spot hin
  obtain rfl : s = s' := Option.some.inj (HS.out.symm.trans hs')
  obtain ⟨loc, r, b, t, f⟩ := s
  dsimp only at *
  have m0 := D2.cell 0
  have m1 := D2.cell 1
  have m2 := D2.cell 2
  have m3 := D2.cell 3
  have m4 := D2.cell 4
  have g0 := D2.frozen 0
  have g1 := D2.frozen 1
  have g2 := D2.frozen 2
  have g3 := D2.frozen 3
  have g4 := D2.frozen 4
  simp only [List.getElem?_toArray, List.getElem?_cons_zero, List.getElem?_cons_succ] at m0 m1 m2 m3 m4
  have HB := Lib.hid hb01
  clear hb0 hb1 hb01 B0 B1 B2 D2 hs'
  go_wp2
  refine bodyPost_ret (v := .tuple #[.agg #[.int .i64 loc, .int .i64 r, .int .i64 b, .int .i64 t, .bool f], .bool true]) ?_ rfl ⟨rfl, ?_⟩
  · simp only [results, Tryz.results102]
    go_simp
  · iterate 5 refine Below.setCell ?_ (by dsimp only; omega) _
    exact HB.out
set_option maxHeartbeats 400000 in
theorem glay_zero (A : Option Addr) (n c : Nat) (i : Int) (w : World) :
    Calls Tryz.prog 101 #[.slice A n c, .int .i64 i, .int .i64 0] w fun e w' => e = .returned (.slice A n c) ∧ w' = w := by
  go_enter Tryz.func101, Tryz.ntmps101
  go_wp2
  go_ret
  exact ⟨rfl, rfl⟩
end Go.Proofs.YtbmkbnalembbjaaGreatDoor

namespace Go.Proofs.YtbmkbnalembbjaaGreatDoor
open Go.RowKit
end Go.Proofs.YtbmkbnalembbjaaGreatDoor

namespace Go.Proofs.YtbmkbnalembbjaaGreatDoor
open Go.RowKit
end Go.Proofs.YtbmkbnalembbjaaGreatDoor

namespace Go.Proofs.YtbmkbnalembbjaaGreatDoor
open Go.RowKit
set_option maxHeartbeats 400000 in
theorem equal_u64 (A A2 : Option Addr) (n c m c2 B B2 : Nat) (xs ys : List Int) (w : World) (hr : Reads w B 1 A n (xs.map (.int .u64))) (hr2 : Reads w B2 1 A2 m (ys.map (.int .u64))) (hn : n ≤ 1000000000000000000) (hm : m ≤ 1000000000000000000) :
    Calls Tryz.prog 29 #[.slice A n c, .slice A2 m c2] w fun e w' => e = .returned (.bool (decide (xs = ys))) ∧ ∃ q, w' = w.drewN q := by
  have hxl : xs.length = n := by have := hr.1; simpa using this
  have hyl : ys.length = m := by have := hr2.1; simpa using this
  have HX := Lib.hid hxl
  have HY := Lib.hid hyl
  clear hxl hyl
  by_cases hnm : n = m
  · subst hnm
    go_enter Tryz.func29, Tryz.ntmps29
    go_wp2
    go_loopw [13] (fun i wr => ∃ j : Nat, j ≤ n ∧ i = .int .i64 j ∧ xs.take j = ys.take j ∧ ∃ q, wr = w.drewN q) (fun i _ => n - (intOf i).toNat)
    case atStart => exact ⟨0, Nat.zero_le _, rfl, by simp, 0, rfl⟩
    case round =>
      obtain ⟨j, hj, rfl, ht, q, rfl⟩ := hrel
      have HT := Lib.hid ht
      clear ht
      by_cases hlt : j < n
      · obtain ⟨ad, u, rfl, _, hx, hc⟩ := hr.at_ hlt
        obtain ⟨ad2, u2, rfl, _, hx2, hc2⟩ := hr2.at_ hlt
        have hl : j < xs.length := by rw [HX.out]; exact hlt
        have hl2 : j < ys.length := by rw [HY.out]; exact hlt
        rw [List.getElem?_map, List.getElem?_eq_getElem hl] at hx
        rw [List.getElem?_map, List.getElem?_eq_getElem hl2] at hx2
        obtain rfl : u = .int .u64 xs[j] := by simpa using hx.symm
        obtain rfl : u2 = .int .u64 ys[j] := by simpa using hx2.symm
        clear hx hx2
        have T : Hid (xs.take (j + 1) = ys.take (j + 1) ↔ xs[j] = ys[j]) := by
          show _ ↔ _
          rw [List.take_succ_eq_append_getElem hl, List.take_succ_eq_append_getElem hl2, HT.out]
          constructor
          · intro h
            have := List.append_cancel_left h
            simpa using this
          · intro h; rw [h]
        have hlt' : (j : Int) < n := by omega
        generalize hgx : xs[j] = x at *
        generalize hgy : ys[j] = y at *
        have HGX := Lib.hid hgx
        have HGY := Lib.hid hgy
        clear hgx hgy
        by_cases he : x = y
        · subst he
          go_wp2
          go_quiet (fail)
          go_wp2
          go_roundw
          case rel => exact ⟨j + 1, by omega, by go_num, T.out.2 (by simp), _, rfl⟩
          case measure => simp [intOf]; omega
        · have he2 : (x == y) = false := by simpa using he
          have he3 : (x != y) = true := by simpa using he
          go_wp2
          go_quiet (fail)
          go_wp2
          go_ret
          refine ⟨?_, _, drewN_add _ _ _⟩
          have : ¬ xs = ys := by
            intro h
            apply he
            rw [← HGX.out, ← HGY.out]
            subst h
            rfl
          rw [decide_eq_false this]
          rfl
      · go_wp2
        go_ret
        have hjn : j = n := by omega
        subst hjn
        exact ⟨by rw [decide_eq_true (eq_of_takes _ _ _ HX.out HY.out HT.out)]; rfl, _, rfl⟩
  · have hne : ¬ xs = ys := by
      intro h
      subst h
      exact hnm (HX.out.symm.trans HY.out)
    have e1 : ((n : Int) == (m : Int)) = false := by simp; omega
    have e2 : ((n : Int) != (m : Int)) = true := by simp; omega
    have e3 : (n == m) = false := by simpa using hnm
    have e4 : (n != m) = true := by simpa using hnm
    go_enter Tryz.func29, Tryz.ntmps29
    go_wp2
    go_ret
    exact ⟨by rw [decide_eq_false hne]; rfl, 0, rfl⟩
end Go.Proofs.YtbmkbnalembbjaaGreatDoor

namespace Go.Proofs.YtbmkbnalembbjaaGreatDoor
open Go.RowKit
end Go.Proofs.YtbmkbnalembbjaaGreatDoor

namespace Go.Proofs.YtbmkbnalembbjaaGreatDoor
open Go.ChangeShapes Go.WideShapes Go.ChangeAt Go.RowKit Go.Joins Go.Deep
theorem open_head {H : Type} {enc : TypeId × Value → H} {P : Program} {t ti tb : TypeId} {f0 f1 f2 f3 : Field} {W : World} {r : Reach} {base : Nat} {sp : Nat → Bool} {v : Value} {d : DataW H} {ps : List MemPlace}
    (hs : P.underlying t = some (.struct #[f0, f1, f2, f3])) (hone : oneCellFields P #[f0, f1, f2, f3] = true) (hC : P.cellsOf t = 4) (hi : P.underlying ti = some (.int .i64)) (hb : P.underlying tb = some .bool)
    (hval : Value.okWide P W r base t v) (h : DataW.Trod enc P W 0 sp true t v d ps) (e0 : f0.type = ti := by rfl) (e1 : f1.type = ti := by rfl) (e2 : f2.type = ti := by rfl) (e3 : f3.type = tb := by rfl) :
    ∃ (x y z : Int) (b : Bool), v = .agg #[.int .i64 x, .int .i64 y, .int .i64 z, .bool b] := by
  obtain ⟨c0, c1, c2, c3, y0, y1, y2, y3, m, rfl, rfl, rfl, hy0, hy1, hy2, hy3⟩ := open_agg4 hs hone hC hval h
  rw [e0] at hy0
  rw [e1] at hy1
  rw [e2] at hy2
  rw [e3] at hy3
  obtain ⟨a0, q0, -, -⟩ := DataW.trod_int hi hy0
  obtain ⟨a1, q1, -, -⟩ := DataW.trod_int hi hy1
  obtain ⟨a2, q2, -, -⟩ := DataW.trod_int hi hy2
  obtain ⟨a3, q3, -⟩ := DataW.trod_bool hb hy3
  simp at q0 q1 q2 q3
  subst q0 q1 q2 q3
  exact ⟨a0, a1, a2, a3, rfl⟩
end Go.Proofs.YtbmkbnalembbjaaGreatDoor

namespace Go.Proofs.YtbmkbnalembbjaaGreatDoor
open Go.RowKit
def W64 (a : List Int) : Prop := ∀ x ∈ a, (Lit.int .u64 x).wf = true
theorem word_wf {r b t : Int} {f : Bool} (h : headE r b t f = 0) : (Lit.int .u64 (wordOf r b t f)).wf = true := by
  obtain ⟨-, -, -, -, -, w0, w1⟩ := rdw_word r b t f h
  simp [Lit.wf, IntKind.min, IntKind.max, IntKind.signed, IntKind.bits]
  omega
theorem fillL_w64 {a : List Int} {i n : Nat} (ha : W64 a) : W64 (fillL a i n 0) := by
  intro x h
  unfold fillL at h
  rcases List.mem_append.1 h with h | h
  · rcases List.mem_append.1 h with h | h
    · exact ha x (List.mem_of_mem_take h)
    · obtain rfl := (List.mem_replicate.1 h).2
      decide
  · exact ha x (List.mem_of_mem_drop h)
theorem set_w64 {a : List Int} {i : Nat} {v : Int} (ha : W64 a) (hv : (Lit.int .u64 v).wf = true) : W64 (a.set i v) := by
  intro x hx
  rcases List.mem_or_eq_of_mem_set hx with h | rfl
  · exact ha x h
  · exact hv
theorem layL_w64 {a : List Int} {i n : Nat} (ha : W64 a) (hn : n ≤ 256) : W64 (layL a i n) := by
  unfold layL
  split
  · exact ha
  · exact set_w64 (fillL_w64 ha) (word_wf (headE_ok.2 ⟨by omega, by omega, by omega, by omega, by omega, by omega, by omega, fun _ => ⟨rfl, rfl⟩⟩))
theorem ix_of_spot {a : List Int} (h : spotsE a = 0) {p : Spot → Bool} {j : Nat} {s : Spot} (hs : (spotsL a)[j]? = some s) (hp : p s = true) (hq : ∀ y, p y = true → y.loc = s.loc) : ixOf p (spotsL a) = j := by
  refine ixOf_some hs hp (fun y hy => ?_)
  cases hpy : p y
  · rfl
  · have he := hq y hpy
    have hr := spots_rise h
    rw [List.mem_take_iff_getElem] at hy
    obtain ⟨k, hk, rfl⟩ := hy
    obtain ⟨hi, rfl⟩ := List.getElem?_eq_some_iff.1 hs
    have := List.pairwise_iff_getElem.1 hr k j (by omega) hi (by omega)
    omega
namespace GapTurns
open Go.ChangeShapes Go.WideShapes Go.ChangeAt Go.RowKit
theorem own : ownKnob Tryz.prog.godebug = none := by kernel_rfl
theorem laidOut : laidOutB Tryz.prog = true := by kernel_rfl
end GapTurns
end Go.Proofs.YtbmkbnalembbjaaGreatDoor

namespace Go.Proofs.YtbmkbnalembbjaaGreatDoor
open Go.RowKit
set_option maxHeartbeats 400000 in
theorem fill_okW (A : Option Addr) (n c B : Nat) (xs : List Int) (at_ k v : Int) (w : World) (hr : Reads w B 1 A n (xs.map (.int .u64))) (hB : B ≤ w.heap.size) (hok : fillE n at_ k = 0) :
    Calls Tryz.prog 104 #[.slice A n c, .int .i64 at_, .int .i64 k, .int .u64 v] w fun e w' => Below w.heap.size w w' ∧
      ∃ A' c', e = .returned (.tuple #[.slice A' n c', .int .i64 0]) ∧ OwnT w' w.heap.size 45 1 isW (.slice A' n c') n ((fillL xs at_.toNat k.toNat v).map (.int .u64)) := by
  obtain ⟨h1, h2, h3, h4, h5⟩ := fillE_ok.1 hok
  have hS : stretchF n k [at_] = 0 := by unfold fillE at hok; rwa [if_neg (by omega)] at hok
  have HS := Lib.hid hS
  clear hok hS
  obtain ⟨at0, rfl⟩ := Int.eq_ofNat_of_zero_le h3
  obtain ⟨k0, rfl⟩ := Int.eq_ofNat_of_zero_le h2
  have hxl : xs.length = n := by have := hr.1; simpa using this
  have HX := Lib.hid hxl
  clear hxl
  go_enter Tryz.func104, Tryz.ntmps104
  go_wp2_with (first
    | (go_at_call 129; refine (stretches_any _ _ _ _ _ _ 1 _ [↑at0] _ (by omega) (by omega) (reads_new w [.int .i64 at0] 3 1 1 rfl) (by omega) (by simp; omega)).mono ?_; rw [HS.out]; rintro e w' ⟨rfl, rfl⟩)
    | (go_at_call 15; refine (clone_u64W _ _ _ _ _ _ (hr.alloc hB _) (by simp; omega) (u64s_one _) (isW_words _) (by omega)).mono ?_; rintro e w1 ⟨A', c', rfl, hown, hb⟩))
  go_loopw [24] (fun i wr => ∃ j : Nat, j ≤ k0 ∧ i = .int .i64 j ∧ OwnT wr w.heap.size 45 1 isW (.slice A' n c') n ((fillL xs at0 j v).map (.int .u64)) ∧ Below w.heap.size w wr) (fun i _ => k0 - (intOf i).toNat)
  case atStart => exact ⟨0, Nat.zero_le _, rfl, by rw [fillL_zero]; exact (own_monoT hown (by simp)), ((Below.refl _ _).alloc (Nat.le_refl _) _).trans (hb.mono (by simp))⟩
  case round =>
    obtain ⟨j, hj, rfl, hown1, hb1⟩ := hrel
    by_cases hlt : j < k0
    · obtain ⟨g, cap, hv, hg, -⟩ := hown1.1.form (by omega)
      obtain ⟨rfl, -, rfl⟩ : A' = some ⟨g, 0, none⟩ ∧ n = n ∧ c' = cap := by simpa using hv
      have hcell := hown1.1.cellAt (at0 + j) (by omega)
      have hfl := fillL_length xs at0 j v (by rw [HX.out]; omega)
      rw [List.getElem?_eq_getElem (by simp [hfl, HX.out]; omega)] at hcell
      generalize ((fillL xs at0 j v).map (Value.int .u64))[at0 + j]'_ = u0 at hcell
      have hfr := hown1.1.frozenAt (at0 + j)
      clear hfl
      go_wp2
      go_roundw
      case rel => exact ⟨j + 1, by omega, by go_num, by rw [← fillL_succ _ _ _ _ (by rw [HX.out]; omega), List.map_set]; exact ownT_setAt hown1 (at0 + j) (.int .u64 v) ⟨v, rfl⟩, hb1.setCell (p := ⟨g, at0 + j, none⟩) (hown1.1.lt g rfl).1 _⟩
      case measure => simp [intOf]; omega
    · have hjk : j = k0 := by omega
      subst hjk
      go_wp2
      go_ret2
      exact ⟨hb1, A', c', rfl, hown1⟩
set_option maxHeartbeats 400000 in
theorem glay_okW (A : Option Addr) (n c B : Nat) (a : List Int) (i m : Nat) (w : World) (hr : Reads w B 1 A n (a.map (.int .u64))) (hB : B ≤ w.heap.size) (hn : n ≤ 256) (him : i + m ≤ n) (h1 : 1 ≤ m) :
    Calls Tryz.prog 101 #[.slice A n c, .int .i64 i, .int .i64 m] w fun e w' => Below w.heap.size w w' ∧ ∃ A' c', e = .returned (.slice A' n c') ∧ OwnT w' w.heap.size 45 1 isW (.slice A' n c') n ((layL a i m).map (.int .u64)) := by
  have hE : headE 0 ((m : Int) - 1) 0 true = 0 := headE_ok.2 ⟨by omega, by omega, by omega, by omega, by omega, by omega, by omega, fun _ => ⟨rfl, rfl⟩⟩
  have HW := Lib.hid (fun w => hword_ok 0 ((m : Int) - 1) 0 true w hE)
  have hF : fillE n i m = 0 := fillE_ok.2 ⟨by omega, by omega, by omega, by omega, by omega⟩
  have HF := Lib.hid (fun w hr hB => fill_okW A n c B a i m 0 w hr hB hF)
  have HL : Hid (layL a i m = (fillL a i m 0).set i (wordOf 0 ((m : Int) - 1) 0 true)) := by show _ = _; unfold layL; rw [if_neg (by omega)]
  have w1 : IntKind.i64.wrap ((m : Int) - 1) = (m : Int) - 1 := IntWalk.i64_in _ (by omega)
  have hm0 : ((m : Int) == 0) = false := by simp; omega
  simp only [Int.toNat_natCast] at HF
  generalize fillL a i m 0 = F at *
  generalize wordOf 0 ((m : Int) - 1) 0 true = v at *
  clear hE hF
  go_enter Tryz.func101, Tryz.ntmps101
  go_wp2_with fail
  refine (HW.out _).mono ?_
  rintro e w1 ⟨rfl, hb1⟩
  go_wp2_with fail
  refine (HF.out _ (hr.below (hb1.mono hB)) (by have := hb1.size; omega)).mono ?_
  rintro e w2 ⟨hb2, A', c', rfl, hown⟩
  obtain ⟨g, cap, hv, hg, -⟩ := hown.1.form (by omega)
  obtain ⟨rfl, rfl⟩ : A' = some ⟨g, 0, none⟩ ∧ c' = cap := by simpa using hv
  have hF0 := hown.1.frozenAt i
  have hl := hown.1.1
  simp only [List.length_map] at hl
  have hc0 := hown.1.cellAt i (by omega)
  rw [List.getElem?_map, List.getElem?_eq_getElem (by omega)] at hc0
  have hc1 : w2.cell? ⟨g, i, none⟩ = some (.int .u64 (F[i]'(by omega))) := hc0
  have hin : i < n := by omega
  have HOW := Lib.hid hown
  clear hv hc0 hown
  go_wp2
  go_ret
  refine ⟨(below_step hb1 hb2).setCell (p := ⟨g, i, none⟩) (by have := hb1.size; exact Nat.le_trans this hg) _, some ⟨g, 0, none⟩, c', rfl, ?_⟩
  rw [HL.out, List.map_set]
  exact own_monoT (ownT_setAt HOW.out i (.int .u64 v) ⟨v, rfl⟩) hb1.size
set_option maxRecDepth 100000 in
set_option maxHeartbeats 2000000 in
theorem take_goodW (A : Option Addr) (n c : Nat) (a : List Int) (x r b t : Int) (i : Nat) (s : Spot) (w : World) (hr : Reads w w.heap.size 1 A n (a.map (.int .u64))) (hnc : n ≤ c) (ha : ∀ x ∈ a, (Lit.int .u64 x).wf = true)
    (hE : headE r b t false = 0) (hC : checkE a = 0) (hix : ixOf (pF x true) (spotsL a) = i) (hs : (spotsL a)[i]? = some s) (hxs : s.loc = x) (hfs : s.f = true) (hk : 1 + r + b ≤ s.long) :
    Calls Tryz.prog 69 #[.slice A n c, .int .i64 x, .agg #[.int .i64 r, .int .i64 b, .int .i64 t, .bool false]] w fun e w' => Below w.heap.size w w' ∧ ∃ A' c', e = .returned (.tuple #[.slice A' n c', .int .i64 0]) ∧
      OwnT w' w.heap.size 45 1 isW (.slice A' n c') n ((takeL a s.loc.toNat s.long.toNat (1 + r + b).toNat (wordOf r b t false)).map (.int .u64)) := by
  have hba := below_new w (.cells #[.int .i64 r, .int .i64 b, .int .i64 t, .bool false] 50)
  have B0 := Blk.new w 50 #[.int .i64 r, .int .i64 b, .int .i64 t, .bool false]
  have HW := Lib.hid (fun w => hword_ok r b t false w hE)
  have HGh := fun w => glong_ok r b t false w hE
  have hE0 := (checkE_ok.1 hC).1
  have H1 := fun w hr => gspots_any A n c a w hr hnc ha
  have hgs : gspotsL a = spotsL a := by unfold gspotsL; rw [if_pos hC]
  rw [hC, hgs] at H1
  have hS := spotsL_length a
  have hlen := (parse_ok hE0).1
  have hal : a.length = n := by have := hr.1; simpa using this
  have hok := (parse_mem (parse_ok hE0).2 s (List.mem_of_getElem? hs)).1
  have hh := headE_ok.1 hE
  generalize spotsL a = S at *
  obtain ⟨k0, hk0⟩ : ∃ k, k = S.length := ⟨_, rfl⟩
  rw [← hk0] at H1 hS
  have HF := Lib.hid (fun A c w hr => gfind_ok A k0 c S x true i s w hr hS hix hs)
  have HGs := fun w => glong_ok s.r s.b s.t s.f w hok.head
  have hl0 := hok.loc0
  have hlf := hok.fits
  have hr0 := hok.r0
  have hb0 := hok.b0
  obtain ⟨loc, r2, b2, t2, f2⟩ := s
  unfold Spot.long at *
  dsimp only at *
  subst hxs hfs
  obtain ⟨L, rfl⟩ : ∃ L : Nat, loc = L := ⟨loc.toNat, by omega⟩
  obtain ⟨k, hkk⟩ : ∃ k : Nat, 1 + r + b = k := ⟨(1 + r + b).toNat, by omega⟩
  obtain ⟨m, hmm⟩ : ∃ m : Nat, 1 + r2 + b2 = m := ⟨(1 + r2 + b2).toNat, by omega⟩
  rw [hkk] at HGh hk ⊢
  rw [hmm] at HGs hk hlf ⊢
  simp only [Int.toNat_natCast]
  obtain ⟨p, hp⟩ : ∃ p : Nat, (L : Int) + k = p := ⟨L + k, by omega⟩
  obtain ⟨q, hq⟩ : ∃ q : Nat, (m : Int) - k = q := ⟨m - k, by omega⟩
  have hw1 : IntKind.i64.wrap ((L : Int) + k) = p := by rw [hp]; exact IntWalk.i64_in _ (by omega)
  have hw2 : IntKind.i64.wrap ((m : Int) - k) = q := by rw [hq]; exact IntWalk.i64_in _ (by omega)
  have HP : Hid (p = L + k ∧ q = m - k ∧ p + q ≤ n) := by show _ ∧ _ ∧ _; omega
  have hF : fillE n L m = 0 := fillE_ok.2 ⟨by omega, by omega, by omega, by omega, by omega⟩
  have HFl := fun w B hr hB => fill_okW A n c B a L m 0 w hr hB hF
  simp only [Int.toNat_natCast] at HFl
  have hLn : L < n := by omega
  have hgt : decide ((m : Int) < k) = false := decide_eq_false (by omega)
  have hgt2 : decide (m < k) = false := decide_eq_false (by omega)
  have HT : Hid (takeL a L m k (wordOf r b t false) = layL ((fillL a L m 0).set L (wordOf r b t false)) p q) := by show _ = _; unfold takeL; rw [HP.out.1, HP.out.2.1]
  rw [HT.out]
  generalize fillL a L m 0 = F at *
  generalize wordOf r b t false = v at *
  have H1 := Lib.hid H1
  have HGh := Lib.hid HGh
  have HGs := Lib.hid HGs
  have HFl := Lib.hid HFl
  have hn : n ≤ 256 := by omega
  have HK0 := Lib.hid hk0
  clear hix hs hE hC hE0 hgs hok hh hk0 hkk hmm hp hq hF HT hal hlen hl0 hlf hr0 hb0 hk
  go_enter Tryz.func69, Tryz.ntmps69
  go_wp2_with fail
  refine (HW.out _).mono ?_
  rintro e w1 ⟨rfl, hb1⟩
  have hb01 := below_step hba hb1
  have D1 := B0.below hb1 (by simp)
  have k3 := D1.cell 3
  simp only [List.getElem?_toArray, List.getElem?_cons_zero, List.getElem?_cons_succ] at k3
  go_wp2_with fail
  refine (H1.out _ ((hr.below hb01).more hb01.size)).mono ?_
  rintro e w2 ⟨hb2, A', c', rfl, hown⟩
  have hb02 := below_step hb01 hb2
  have hrl := Reads.of_own hown
  have D2 := D1.below hb2 (by have := D1.lt; omega)
  clear hown k3 D1
  go_wp2_with fail
  refine (HF.out _ _ _ hrl).mono ?_
  rintro e w3 ⟨rfl, hb3⟩
  have hb03 := (below_step hb02 hb3)
  have hb04 := hb03.alloc hb03.size (.cells #[.int .i64 L, .int .i64 r2, .int .i64 b2, .int .i64 t2, .bool true] 165)
  have D4 := (D2.below hb3 (by have := D2.lt; omega)).alloc (.cells #[.int .i64 L, .int .i64 r2, .int .i64 b2, .int .i64 t2, .bool true] 165)
  have S4 := Blk.new w3 165 #[.int .i64 L, .int .i64 r2, .int .i64 b2, .int .i64 t2, .bool true]
  clear hrl hb01 hb02 hb1 hb2 hb3 D2 B0 hba hb03
  have q0 := D4.cell 0
  have q1 := D4.cell 1
  have q2 := D4.cell 2
  have q3 := D4.cell 3
  have s1 := S4.cell 1
  have s2 := S4.cell 2
  have s3 := S4.cell 3
  have s4 := S4.cell 4
  simp only [List.getElem?_toArray, List.getElem?_cons_zero, List.getElem?_cons_succ] at q0 q1 q2 q3 s1 s2 s3 s4
  have D4 := D4.drew
  have S4 := S4.drew
  have hb04 := hb04.drew
  go_wp2
  go_region_held3 (fun w' => w'.cell? ⟨w.heap.size, 0, none⟩ = some (.int .i64 r) ∧ w'.cell? ⟨w.heap.size, 1, none⟩ = some (.int .i64 b) ∧ w'.cell? ⟨w.heap.size, 2, none⟩ = some (.int .i64 t) ∧ w'.cell? ⟨w.heap.size, 3, none⟩ = some (.bool false) ∧
            w'.cell? ⟨w3.heap.size, 1, none⟩ = some (.int .i64 r2) ∧ w'.cell? ⟨w3.heap.size, 2, none⟩ = some (.int .i64 b2) ∧ w'.cell? ⟨w3.heap.size, 3, none⟩ = some (.int .i64 t2) ∧ w'.cell? ⟨w3.heap.size, 4, none⟩ = some (.bool true)) (go_keep)
    (first
      | (go_at_call 103; (first | with_reducible refine (HGh.out _).mono ?_ | with_reducible refine (HGs.out _).mono ?_); rintro e w4 ⟨rfl, hb4⟩; have D4 := D4.below hb4 D4.lt; have S4 := S4.below hb4 S4.lt; have q0 := D4.cell 0; have q1 := D4.cell 1; have q2 := D4.cell 2; have q3 := D4.cell 3; have s1 := S4.cell 1; have s2 := S4.cell 2; have s3 := S4.cell 3; have s4 := S4.cell 4; simp only [List.getElem?_toArray, List.getElem?_cons_zero, List.getElem?_cons_succ] at q0 q1 q2 q3 s1 s2 s3 s4; have hb04 := hb04.trans (hb4.mono hb04.size)))
  all_goals
    go_wp2_with fail
    refine (HGs.out _).mono ?_
    rintro e w5 ⟨rfl, hb5⟩
    have D4 := D4.below hb5 D4.lt
    have S4 := S4.below hb5 S4.lt
    have hb04 := hb04.trans (hb5.mono hb04.size)
    go_wp2_with fail
    refine (HFl.out _ _ (hr.below hb04) hb04.size).mono ?_
    rintro e w6 ⟨hb6, A6, c6, rfl, hown6⟩
    have D4 := D4.below hb6 D4.lt
    have S4 := S4.below hb6 S4.lt
    have hg6 := hb04.size
    have hb04 := hb04.trans (hb6.mono hb04.size)
    obtain ⟨g, cap, hv, hg, -⟩ := hown6.1.form (by omega)
    obtain ⟨rfl, rfl⟩ : A6 = some ⟨g, 0, none⟩ ∧ c6 = cap := by simpa using hv
    have hF0 := hown6.1.frozenAt L
    have hl := hown6.1.1
    simp only [List.length_map] at hl
    have hc0 := hown6.1.cellAt L (by omega)
    rw [List.getElem?_map, List.getElem?_eq_getElem (by omega)] at hc0
    have hc1 : w6.cell? ⟨g, L, none⟩ = some (.int .u64 (F[L]'(by omega))) := hc0
    have hownR := own_monoT (ownT_setAt hown6 L (.int .u64 v) ⟨v, rfl⟩) hg6
    rw [← List.map_set] at hownR
    have D4 := (D4.far (p := ⟨g, L, none⟩) (by dsimp only; have := own_blk_neT hown6 D4 (by decide); intro h; exact this (by rw [h]; rfl)) (.int .u64 v)).drew
    have S4 := (S4.far (p := ⟨g, L, none⟩) (by dsimp only; have := own_blk_neT hown6 S4 (by decide); intro h; exact this (by rw [h]; rfl)) (.int .u64 v)).drew
    have hb04 := (hb04.setCell (p := ⟨g, L, none⟩) (by dsimp only; omega) (.int .u64 v)).drew
    have hownR := hownR.drew
    clear hv hc0 hown6 hb5 hb6 hg q0 q1 q2 q3 s1 s2 s3 s4
    have q0 := D4.cell 0
    have q1 := D4.cell 1
    have q2 := D4.cell 2
    have q3 := D4.cell 3
    have s1 := S4.cell 1
    have s2 := S4.cell 2
    have s3 := S4.cell 3
    have s4 := S4.cell 4
    simp only [List.getElem?_toArray, List.getElem?_cons_zero, List.getElem?_cons_succ] at q0 q1 q2 q3 s1 s2 s3 s4
    by_cases hq0 : q = 0
    · subst hq0
      have HL : Hid (layL (F.set L v) p 0 = F.set L v) := rfl
      go_wp2
      go_region_held3 (fun w' => w'.cell? ⟨w.heap.size, 0, none⟩ = some (.int .i64 r) ∧ w'.cell? ⟨w.heap.size, 1, none⟩ = some (.int .i64 b) ∧ w'.cell? ⟨w.heap.size, 2, none⟩ = some (.int .i64 t) ∧ w'.cell? ⟨w.heap.size, 3, none⟩ = some (.bool false) ∧
            w'.cell? ⟨w3.heap.size, 1, none⟩ = some (.int .i64 r2) ∧ w'.cell? ⟨w3.heap.size, 2, none⟩ = some (.int .i64 b2) ∧ w'.cell? ⟨w3.heap.size, 3, none⟩ = some (.int .i64 t2) ∧ w'.cell? ⟨w3.heap.size, 4, none⟩ = some (.bool true)) (go_keep)
        (first
          | (go_at_call 103; (first | with_reducible refine (HGh.out _).mono ?_ | with_reducible refine (HGs.out _).mono ?_); rintro e w4 ⟨rfl, hb4⟩; have D4 := D4.below hb4 D4.lt; have S4 := S4.below hb4 S4.lt; have q0 := D4.cell 0; have q1 := D4.cell 1; have q2 := D4.cell 2; have q3 := D4.cell 3; have s1 := S4.cell 1; have s2 := S4.cell 2; have s3 := S4.cell 3; have s4 := S4.cell 4; simp only [List.getElem?_toArray, List.getElem?_cons_zero, List.getElem?_cons_succ] at q0 q1 q2 q3 s1 s2 s3 s4; have hb04 := hb04.trans (hb4.mono hb04.size); have hownR := own_belowT hownR hb4)
          | (go_at_call 101; refine (glay_zero _ _ _ _ _).mono ?_; rintro e w5 ⟨rfl, rfl⟩))
      all_goals
        go_wp2
        go_ret2
        exact ⟨hb04, _, _, rfl, by rw [HL.out]; exact hownR⟩
    · have HLay := Lib.hid (fun c W hr => glay_okW (some ⟨g, 0, none⟩) n c W.heap.size (F.set L v) p q W hr (Nat.le_refl _) hn HP.out.2.2 (by omega))
      go_wp2
      go_region_held3 (fun w' => w'.cell? ⟨w.heap.size, 0, none⟩ = some (.int .i64 r) ∧ w'.cell? ⟨w.heap.size, 1, none⟩ = some (.int .i64 b) ∧ w'.cell? ⟨w.heap.size, 2, none⟩ = some (.int .i64 t) ∧ w'.cell? ⟨w.heap.size, 3, none⟩ = some (.bool false) ∧
            w'.cell? ⟨w3.heap.size, 1, none⟩ = some (.int .i64 r2) ∧ w'.cell? ⟨w3.heap.size, 2, none⟩ = some (.int .i64 b2) ∧ w'.cell? ⟨w3.heap.size, 3, none⟩ = some (.int .i64 t2) ∧ w'.cell? ⟨w3.heap.size, 4, none⟩ = some (.bool true)) (go_keep)
        (first
          | (go_at_call 103; (first | with_reducible refine (HGh.out _).mono ?_ | with_reducible refine (HGs.out _).mono ?_); rintro e w4 ⟨rfl, hb4⟩; have D4 := D4.below hb4 D4.lt; have S4 := S4.below hb4 S4.lt; have q0 := D4.cell 0; have q1 := D4.cell 1; have q2 := D4.cell 2; have q3 := D4.cell 3; have s1 := S4.cell 1; have s2 := S4.cell 2; have s3 := S4.cell 3; have s4 := S4.cell 4; simp only [List.getElem?_toArray, List.getElem?_cons_zero, List.getElem?_cons_succ] at q0 q1 q2 q3 s1 s2 s3 s4; have hb04 := hb04.trans (hb4.mono hb04.size); have hownR := own_belowT hownR hb4)
          | (go_at_call 101; refine (HLay.out _ _ (reads_ofT hownR)).mono ?_; rintro e w5 ⟨hb5, A5, c5, rfl, hown5⟩; have D4 := D4.below hb5 D4.lt; have S4 := S4.below hb5 S4.lt; have q0 := D4.cell 0; have q1 := D4.cell 1; have q2 := D4.cell 2; have q3 := D4.cell 3; have s1 := S4.cell 1; have s2 := S4.cell 2; have s3 := S4.cell 3; have s4 := S4.cell 4; simp only [List.getElem?_toArray, List.getElem?_cons_zero, List.getElem?_cons_succ] at q0 q1 q2 q3 s1 s2 s3 s4; have hg5 := hb04.size; have hb04 := hb04.trans (hb5.mono hb04.size); have hownZ := own_monoT hown5 hg5))
      all_goals
        go_wp2
        go_ret2
        exact ⟨hb04, _, _, rfl, hownZ⟩
end Go.Proofs.YtbmkbnalembbjaaGreatDoor
