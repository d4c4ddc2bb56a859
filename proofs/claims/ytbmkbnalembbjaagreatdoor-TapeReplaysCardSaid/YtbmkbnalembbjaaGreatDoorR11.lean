/-
  Texts joined: GapJoin IndexSpot2 GapTake GapGive SlicesRun Slices Good LawHead GapTurns StTake.
-/
import Derived.Test.YtbmkbnalembbjaaGreatDoorRows
import Derived.Lib.SmallJoins
import Derived.StillTailTactics
import Derived.Test.YtbmkbnalembbjaaGreatDoorR0
import Derived.Test.YtbmkbnalembbjaaGreatDoorR2
import Derived.Test.YtbmkbnalembbjaaGreatDoorR3
import Derived.Test.YtbmkbnalembbjaaGreatDoorR4
import Derived.Test.YtbmkbnalembbjaaGreatDoorR5
import Derived.Test.YtbmkbnalembbjaaGreatDoorR7
import Derived.Test.YtbmkbnalembbjaaGreatDoorR10
namespace Go.Proofs.YtbmkbnalembbjaaGreatDoor
open Go.RowKit
set_option maxHeartbeats 400000 in
theorem glay_ok (A : Option Addr) (n c B : Nat) (a : List Int) (i m : Nat) (w : World) (hr : Reads w B 1 A n (a.map (.int .u64))) (hB : B ≤ w.heap.size) (hn : n ≤ 256) (him : i + m ≤ n) (h1 : 1 ≤ m) :
    Calls Tryz.prog 101 #[.slice A n c, .int .i64 i, .int .i64 m] w fun e w' => Below w.heap.size w w' ∧ ∃ A' c', e = .returned (.slice A' n c') ∧ w'.ownsRow w.heap.size 45 1 (.slice A' n c') n ((layL a i m).map (.int .u64)) := by
  have hE : headE 0 ((m : Int) - 1) 0 true = 0 := headE_ok.2 ⟨by omega, by omega, by omega, by omega, by omega, by omega, by omega, fun _ => ⟨rfl, rfl⟩⟩
  have HW := Lib.hid (fun w => hword_ok 0 ((m : Int) - 1) 0 true w hE)
  have hF : fillE n i m = 0 := fillE_ok.2 ⟨by omega, by omega, by omega, by omega, by omega⟩
  have HF := Lib.hid (fun w hr hB => fill_ok A n c B a i m 0 w hr hB hF)
  have HL : Hid (layL a i m = (fillL a i m 0).set i (wordOf 0 ((m : Int) - 1) 0 true)) := by show _ = _; unfold layL; rw [if_neg (by omega)]
  have w1 : IntKind.i64.wrap ((m : Int) - 1) = (m : Int) - 1 := IntWalk.i64_in _ (by omega)
  have hm0 : ((m : Int) == 0) = false := by simp; omega
  simp only [Int.toNat_natCast] at HF
  generalize fillL a i m 0 = F at *
  generalize wordOf 0 ((m : Int) - 1) 0 true = v at *
  clear hE hF
  go_enter Tryz.func101, Tryz.ntmps101
  go_wp2_with fail
  refine (HW.out _).mono ?_
  rintro e w1 ⟨rfl, hb1⟩
  go_wp2_with fail
  refine (HF.out _ (hr.below (hb1.mono hB)) (by have := hb1.size; omega)).mono ?_
  rintro e w2 ⟨hb2, A', c', rfl, hown⟩
  obtain ⟨g, cap, hv, hg, -⟩ := hown.form (by omega)
  obtain ⟨rfl, rfl⟩ : A' = some ⟨g, 0, none⟩ ∧ c' = cap := by simpa using hv
  have hF0 := hown.frozenAt i
  have hl := hown.1
  simp only [List.length_map] at hl
  have hc0 := hown.cellAt i (by omega)
  rw [List.getElem?_map, List.getElem?_eq_getElem (by omega)] at hc0
  have hc1 : w2.cell? ⟨g, i, none⟩ = some (.int .u64 (F[i]'(by omega))) := hc0
  have hin : i < n := by omega
  have HOW := Lib.hid hown
  clear hv hc0 hown
  go_wp2
  go_ret
  refine ⟨(below_step hb1 hb2).setCell (p := ⟨g, i, none⟩) (by have := hb1.size; exact Nat.le_trans this hg) _, some ⟨g, 0, none⟩, c', rfl, ?_⟩
  rw [HL.out, List.map_set]
  exact own_mono (HOW.out.stored i (.int .u64 v)).1 hb1.size
set_option maxRecDepth 100000 in
set_option maxHeartbeats 1000000 in
theorem gjoin_ok (A : Option Addr) (n c : Nat) (a : List Int) (w : World) (hr : Reads w w.heap.size 1 A n (a.map (.int .u64))) (hnc : n ≤ c) (ha : ∀ x ∈ a, (Lit.int .u64 x).wf = true) (hE : checkE a = 0) :
    Calls Tryz.prog 68 #[.slice A n c] w fun e w' => Below w.heap.size w w' ∧ ∃ A' c', e = .returned (.tuple #[.slice A' n c', .int .i64 0]) ∧ w'.ownsRow w.heap.size 45 1 (.slice A' n c') n ((joinL a (gapsL (spotsL a))).map (.int .u64)) := by
  have H1 := fun w hr => gspots_any A n c a w hr hnc ha
  obtain ⟨s1, s2, s3, s4⟩ := gspots_small a
  have hgs : gspotsL a = spotsL a := by unfold gspotsL; rw [if_pos hE]
  rw [hE] at H1
  rw [hgs] at H1 s1 s2
  have H1 := Lib.hid H1
  have H2 := Lib.hid (fun A' c' w hr => ggaps_any A' (spotsL a).length c' (spotsL a) w hr s1 s2)
  have hal : a.length = n := by have := hr.1; simpa using this
  have hn : n ≤ 256 := by have := (parse_ok (checkE_ok.1 hE).1).1; omega
  have hJ := join_ok hE
  have HR := Lib.hid hJ.runs
  have hGl : (gapsL (spotsL a)).length ≤ 256 := by have := gapsA_length [] false (spotsL a); unfold gapsL; simp only [List.length_nil] at this; omega
  have H3 := Lib.hid (fun w hr hB => clone_u64 A n c w.heap.size (a.map (.int .u64)) w hr hB (u64s_one a) (by omega))
  generalize spotsL a = L at *
  generalize gapsL L = G at *
  obtain ⟨k, hk⟩ : ∃ k, k = G.length := ⟨_, rfl⟩
  have HK := Lib.hid hk
  rw [← hk] at H2 hGl
  have HAL := Lib.hid hal
  clear s1 s2 s3 s4 hgs hJ hE hk hal
  go_enter Tryz.func68, Tryz.ntmps68
  go_wp2_with fail
  refine (H1.out _ hr).mono ?_
  rintro e w1 ⟨hb1, A1, c1, rfl, hown1⟩
  have hrl := Reads.of_own hown1
  clear hown1
  go_wp2_with fail
  refine (H3.out _ ((hr.below hb1).more hb1.size) (Nat.le_refl _)).mono ?_
  rintro e w2 ⟨A2, c2, rfl, hown2, hb2⟩
  have hb02 := below_step hb1 hb2
  go_wp2_with fail
  refine (H2.out _ _ _ ((hrl.below hb2).more hb2.size)).mono ?_
  rintro e w3 ⟨hb3, A3, c3, rfl, hown3⟩
  have hrG := Reads.of_own hown3
  have hown23 := own_mono (own_below hown2 hb3) hb1.size
  have hb03 := below_step hb02 hb3
  clear hown3 hown2 hrl hb1 hb2 hb3 hb02
  go_wp2
  go_loopw [0, 7, 21] (fun o _ i wr => ∃ (j : Nat) (A' : Option Addr) (c' : Nat) (cur : List Int), j ≤ k ∧ i = .int .i64 j ∧ o = .slice A' n c' ∧ Hid (joinL a G = joinL cur (G.drop j)) ∧ wr.ownsRow w.heap.size 45 1 (.slice A' n c') n (cur.map (.int .u64)) ∧ Below w3.heap.size w3 wr) (fun _ _ i _ => k - (intOf i).toNat)
  case atStart => exact ⟨0, A2, c2, a, Nat.zero_le _, rfl, rfl, rfl, hown23, Below.refl _ _⟩
  case round =>
    obtain ⟨j, A', c', cur, hj, rfl, rfl, hJ, hown, hb⟩ := hrel
    by_cases hlt : j < k
    · obtain ⟨ad, r, rfl, had, hs, c0, c1⟩ := (hrG.below hb).run hlt
      obtain ⟨i, m, rfl, h1, him⟩ := HR.out r (List.mem_of_getElem? hs)
      rw [HAL.out] at him
      have HD := Lib.hid (drop_of_get hs)
      have HJ2 : Hid (joinL a G = joinL (layL cur i m) (G.drop (j + 1))) := by
        show _ = _
        rw [hJ.out, HD.out]
        rfl
      dsimp only at c0 c1
      have hrc := (Reads.of_own hown).alloc (Nat.le_refl _) (.cells #[.int .i64 i, .int .i64 m] 133)
      have HL := Lib.hid (glay_ok A' n c' _ cur i m _ hrc (by simp) hn him h1)
      have hb0 := hb.alloc hb.size (.cells #[.int .i64 i, .int .i64 m] 133)
      have hbs : w.heap.size ≤ (wr.alloc (.cells #[.int .i64 i, .int .i64 m] 133)).heap.size := by have := hb0.size; have := hb03.size; omega
      clear hs hrc hown hJ
      go_wp2_with fail
      refine HL.out.mono ?_
      rintro e w4 ⟨hb4, A4, c4, rfl, hown4⟩
      go_wp2
      go_roundw
      case rel => exact ⟨j + 1, A4, c4, layL cur i m, by omega, by go_num, rfl, HJ2, own_mono hown4 hbs, hb0.trans (hb4.mono hb0.size)⟩
      case measure => simp [intOf]; omega
    · have hjk : j = k := by omega
      subst hjk
      rw [List.drop_of_length_le (by rw [← HK.out]; exact Nat.le_refl _)] at hJ
      have hJ : Hid (joinL a G = cur) := hJ
      go_wp2
      go_ret2
      rw [hJ.out]
      exact ⟨below_step hb03 hb, A', c', rfl, hown⟩
end Go.Proofs.YtbmkbnalembbjaaGreatDoor

namespace Go.Proofs.YtbmkbnalembbjaaGreatDoor
open Go.RowKit
set_option maxRecDepth 100000 in
set_option maxHeartbeats 1000000 in
theorem indexSpot2_any (F : Nat) (cap cap2 : Value) (A : Option Addr) (n c B : Nat) (l : List Spot) (p : Spot → Bool) (w : World) (hr : Reads w B 5 A n (spotsC l)) (hB : B ≤ w.heap.size) (hn : n ≤ 1000000) (hF : Plain Tryz.prog F)
    (HC : ∀ (w' : World) (s : Spot), Below w.heap.size w w' → s ∈ l → Calls Tryz.prog F #[.agg #[.int .i64 s.loc, .int .i64 s.r, .int .i64 s.b, .int .i64 s.t, .bool s.f], cap, cap2] w' fun e w'' => e = .returned (.bool (p s)) ∧ Below w'.heap.size w' w'') :
    Calls Tryz.prog 94 #[.slice A n c, .func (.func F) #[] #[cap, cap2]] w fun e w' => e = .returned (.int .i64 (ixOf p l)) ∧ Below w.heap.size w w' := by
  have hll : l.length = n := by have := hr.1; rw [spotsC_length] at this; omega
  have HL := Lib.hid hll
  have HC := Lib.hid HC
  have hcf := fun (x : Value) (w : World) => hF #[x, cap, cap2] w
  clear hll hF
  go_enter Tryz.func94, Tryz.ntmps94
  go_wp2
  go_loopw [5, 8] (fun _ i wr => ∃ j : Nat, j ≤ n ∧ i = .int .i64 j ∧ Below w.heap.size w wr ∧ Hid (∀ x ∈ l.take j, p x = false)) (fun _ i _ => n - (intOf i).toNat)
  case atStart => exact ⟨0, Nat.zero_le _, rfl, Below.refl _ _, by intro x hx; simp at hx⟩
  case round =>
    obtain ⟨j, hj, rfl, hb, HD⟩ := hrel
    by_cases hlt : j < n
    · obtain ⟨ad, s, rfl, had, hs, c0, c1, c2, c3, c4⟩ := (hr.below (hb.mono hB)).spot hlt
      have HS := Lib.hid hs
      have HQ := Lib.hid (HC.out wr s hb (List.mem_of_getElem? hs))
      clear hs
      cases hp : p s
      · have HF := Lib.hid hp
        clear hp
        go_wp2_with fail
        refine HQ.out.mono ?_
        rw [HF.out]
        rintro e w1 ⟨rfl, hb1⟩
        go_wp2
        go_roundw
        case rel => exact ⟨j + 1, by omega, by go_num, hb.trans (hb1.mono hb.size), fun x hx => by
          rcases take_succ_mem HS.out x hx with h | rfl
          · exact HD.out x h
          · exact HF.out⟩
        case measure => simp [intOf]; omega
      · have HF := Lib.hid hp
        clear hp
        go_wp2_with fail
        refine HQ.out.mono ?_
        rw [HF.out]
        rintro e w1 ⟨rfl, hb1⟩
        go_wp2
        go_ret
        exact ⟨ret_int (ixOf_some HS.out HF.out HD.out).symm, hb.trans (hb1.mono hb.size)⟩
    · go_wp2
      go_ret
      exact ⟨ret_int (ixOf_none (by have := HD.out; rwa [List.take_of_length_le (by rw [HL.out]; omega)] at this)).symm, hb⟩
end Go.Proofs.YtbmkbnalembbjaaGreatDoor

namespace Go.Proofs.YtbmkbnalembbjaaGreatDoor
open Go.RowKit
def pF (x : Int) (fr : Bool) (s : Spot) : Bool := (s.loc == x) && (s.f == fr)
set_option maxHeartbeats 400000 in
theorem findC_any (g1 g2 : Nat) (x : Int) (fr : Bool) (s : Spot) (w : World) (hg1 : g1 < w.heap.size) (hg2 : g2 < w.heap.size) (hc1 : w.cell? ⟨g1, 0, none⟩ = some (.int .i64 x)) (hc2 : w.cell? ⟨g2, 0, none⟩ = some (.bool fr)) :
    Calls Tryz.prog 128 #[.agg #[.int .i64 s.loc, .int .i64 s.r, .int .i64 s.b, .int .i64 s.t, .bool s.f], .pointer (some ⟨g1, 0, none⟩), .pointer (some ⟨g2, 0, none⟩)] w fun e w' => e = .returned (.bool (pF x fr s)) ∧ Below w.heap.size w w' := by
  obtain ⟨loc, r, b, t, f⟩ := s
  have hc1' : ∀ o, (w.alloc o).cell? ⟨g1, 0, none⟩ = some (.int .i64 x) := fun o => by rw [World.cell?_alloc_lt _ _ _ (by exact hg1)]; exact hc1
  have hc2' : ∀ o, (w.alloc o).cell? ⟨g2, 0, none⟩ = some (.bool fr) := fun o => by rw [World.cell?_alloc_lt _ _ _ (by exact hg2)]; exact hc2
  unfold pF
  dsimp only
  by_cases h : loc = x
  · subst h
    go_enter Tryz.func128, Tryz.ntmps128
    go_wp2
    go_ret
    exact ⟨by simp, below_new _ _⟩
  · have h1 : (loc == x) = false := by simpa using h
    rw [h1, Bool.false_and]
    go_enter Tryz.func128, Tryz.ntmps128
    go_wp2
    go_ret
    exact ⟨rfl, below_new _ _⟩
set_option maxRecDepth 100000 in
set_option maxHeartbeats 1000000 in
theorem gfind_ok (A : Option Addr) (n c : Nat) (l : List Spot) (x : Int) (fr : Bool) (i : Nat) (s : Spot) (w : World) (hr : Reads w w.heap.size 5 A n (spotsC l)) (hn : n ≤ 256) (hix : ixOf (pF x fr) l = i) (hs : l[i]? = some s) :
    Calls Tryz.prog 102 #[.slice A n c, .int .i64 x, .bool fr] w fun e w' => e = .returned (.tuple #[.agg #[.int .i64 s.loc, .int .i64 s.r, .int .i64 s.b, .int .i64 s.t, .bool s.f], .bool true]) ∧ Below w.heap.size w w' := by
  have HIX := fun W hr hB HC => indexSpot2_any 128 (.pointer (some ⟨w.heap.size, 0, none⟩)) (.pointer (some ⟨w.heap.size + 1, 0, none⟩)) A n c w.heap.size l (pF x fr) W hr hB (by omega) (plain_of (fn := Tryz.f128) Tryz.func128 (by kernel_rfl) (by kernel_rfl)) HC
  rw [hix] at HIX
  have HIX := Lib.hid HIX
  have hin : i < n := by
    have h1 := (List.getElem?_eq_some_iff.1 hs).1
    have h2 := hr.1
    rw [spotsC_length] at h2
    omega
  generalize hp : pF x fr = p at *
  have HP := Lib.hid hp
  have HS := Lib.hid hs
  clear hp hix hs
  go_enter Tryz.func102, Tryz.ntmps102
  go_wp2_with fail
  have hb0 := (((below_new w (.cells #[.int .i64 x] 3)).alloc (by simp) (.cells #[.bool fr] 4))).alloc (by simp; omega) (.cells #[.int .i64 0, .int .i64 0, .int .i64 0, .int .i64 0, .bool false] 165)
  have B0 := ((Blk.new w 3 #[.int .i64 x]).alloc (.cells #[.bool fr] 4)).alloc (.cells #[.int .i64 0, .int .i64 0, .int .i64 0, .int .i64 0, .bool false] 165)
  have B1 := (Blk.new (w.alloc (.cells #[.int .i64 x] 3)) 4 #[.bool fr]).alloc (.cells #[.int .i64 0, .int .i64 0, .int .i64 0, .int .i64 0, .bool false] 165)
  have B2 := Blk.new ((w.alloc (.cells #[.int .i64 x] 3)).alloc (.cells #[.bool fr] 4)) 165 #[.int .i64 0, .int .i64 0, .int .i64 0, .int .i64 0, .bool false]
  simp only [World.size_alloc] at B1 B2
  refine (HIX.out _ (hr.below hb0) (by simp <;> omega) ?_).mono ?_
  · intro w' s hb' _
    have hsz := hb'.size
    simp only [World.size_alloc] at hsz
    have := findC_any w.heap.size (w.heap.size + 1) x fr s w' (by omega) (by omega) ((B0.below hb' (by simp; omega)).cell 0) ((B1.below hb' (by simp)).cell 0)
    rw [HP.out] at this
    exact this
  rintro e w1 ⟨rfl, hb1⟩
  have D2 := B2.below hb1 (by simp)
  have hb01 := below_step hb0 (hb1.mono (by simp <;> omega))
  obtain ⟨ad, s', rfl, had, hs', k0, k1, k2, k3, k4⟩ := (hr.below hb01).spot hin
  obtain rfl : s = s' := Option.some.inj (HS.out.symm.trans hs')
  obtain ⟨loc, r, b, t, f⟩ := s
  dsimp only at *
  have m0 := D2.cell 0
  have m1 := D2.cell 1
  have m2 := D2.cell 2
  have m3 := D2.cell 3
  have m4 := D2.cell 4
  have g0 := D2.frozen 0
  have g1 := D2.frozen 1
  have g2 := D2.frozen 2
  have g3 := D2.frozen 3
  have g4 := D2.frozen 4
  simp only [List.getElem?_toArray, List.getElem?_cons_zero, List.getElem?_cons_succ] at m0 m1 m2 m3 m4
  have HB := Lib.hid hb01
  clear hb0 hb1 hb01 B0 B1 B2 D2 hs'
  go_wp2
  refine bodyPost_ret (v := .tuple #[.agg #[.int .i64 loc, .int .i64 r, .int .i64 b, .int .i64 t, .bool f], .bool true]) ?_ rfl ⟨rfl, ?_⟩
  · simp only [results, Tryz.results102]
    go_simp
  · iterate 5 refine Below.setCell ?_ (by dsimp only; omega) _
    exact HB.out
set_option maxHeartbeats 400000 in
theorem glay_zero (A : Option Addr) (n c : Nat) (i : Int) (w : World) :
    Calls Tryz.prog 101 #[.slice A n c, .int .i64 i, .int .i64 0] w fun e w' => e = .returned (.slice A n c) ∧ w' = w := by
  go_enter Tryz.func101, Tryz.ntmps101
  go_wp2
  go_ret
  exact ⟨rfl, rfl⟩
set_option maxRecDepth 100000 in
set_option maxHeartbeats 2000000 in
theorem take_good (A : Option Addr) (n c : Nat) (a : List Int) (x r b t : Int) (i : Nat) (s : Spot) (w : World) (hr : Reads w w.heap.size 1 A n (a.map (.int .u64))) (hnc : n ≤ c) (ha : ∀ x ∈ a, (Lit.int .u64 x).wf = true)
    (hE : headE r b t false = 0) (hC : checkE a = 0) (hix : ixOf (pF x true) (spotsL a) = i) (hs : (spotsL a)[i]? = some s) (hxs : s.loc = x) (hfs : s.f = true) (hk : 1 + r + b ≤ s.long) :
    Calls Tryz.prog 69 #[.slice A n c, .int .i64 x, .agg #[.int .i64 r, .int .i64 b, .int .i64 t, .bool false]] w fun e w' => Below w.heap.size w w' ∧ ∃ A' c', e = .returned (.tuple #[.slice A' n c', .int .i64 0]) ∧
      w'.ownsRow w.heap.size 45 1 (.slice A' n c') n ((takeL a s.loc.toNat s.long.toNat (1 + r + b).toNat (wordOf r b t false)).map (.int .u64)) := by
  have hba := below_new w (.cells #[.int .i64 r, .int .i64 b, .int .i64 t, .bool false] 50)
  have B0 := Blk.new w 50 #[.int .i64 r, .int .i64 b, .int .i64 t, .bool false]
  have HW := Lib.hid (fun w => hword_ok r b t false w hE)
  have HGh := fun w => glong_ok r b t false w hE
  have hE0 := (checkE_ok.1 hC).1
  have H1 := fun w hr => gspots_any A n c a w hr hnc ha
  have hgs : gspotsL a = spotsL a := by unfold gspotsL; rw [if_pos hC]
  rw [hC, hgs] at H1
  have hS := spotsL_length a
  have hlen := (parse_ok hE0).1
  have hal : a.length = n := by have := hr.1; simpa using this
  have hok := (parse_mem (parse_ok hE0).2 s (List.mem_of_getElem? hs)).1
  have hh := headE_ok.1 hE
  generalize spotsL a = S at *
  obtain ⟨k0, hk0⟩ : ∃ k, k = S.length := ⟨_, rfl⟩
  rw [← hk0] at H1 hS
  have HF := Lib.hid (fun A c w hr => gfind_ok A k0 c S x true i s w hr hS hix hs)
  have HGs := fun w => glong_ok s.r s.b s.t s.f w hok.head
  have hl0 := hok.loc0
  have hlf := hok.fits
  have hr0 := hok.r0
  have hb0 := hok.b0
  obtain ⟨loc, r2, b2, t2, f2⟩ := s
  unfold Spot.long at *
  dsimp only at *
  subst hxs hfs
  obtain ⟨L, rfl⟩ : ∃ L : Nat, loc = L := ⟨loc.toNat, by omega⟩
  obtain ⟨k, hkk⟩ : ∃ k : Nat, 1 + r + b = k := ⟨(1 + r + b).toNat, by omega⟩
  obtain ⟨m, hmm⟩ : ∃ m : Nat, 1 + r2 + b2 = m := ⟨(1 + r2 + b2).toNat, by omega⟩
  rw [hkk] at HGh hk ⊢
  rw [hmm] at HGs hk hlf ⊢
  simp only [Int.toNat_natCast]
  obtain ⟨p, hp⟩ : ∃ p : Nat, (L : Int) + k = p := ⟨L + k, by omega⟩
  obtain ⟨q, hq⟩ : ∃ q : Nat, (m : Int) - k = q := ⟨m - k, by omega⟩
  have hw1 : IntKind.i64.wrap ((L : Int) + k) = p := by rw [hp]; exact IntWalk.i64_in _ (by omega)
  have hw2 : IntKind.i64.wrap ((m : Int) - k) = q := by rw [hq]; exact IntWalk.i64_in _ (by omega)
  have HP : Hid (p = L + k ∧ q = m - k ∧ p + q ≤ n) := by show _ ∧ _ ∧ _; omega
  have hF : fillE n L m = 0 := fillE_ok.2 ⟨by omega, by omega, by omega, by omega, by omega⟩
  have HFl := fun w B hr hB => fill_ok A n c B a L m 0 w hr hB hF
  simp only [Int.toNat_natCast] at HFl
  have hLn : L < n := by omega
  have hgt : decide ((m : Int) < k) = false := decide_eq_false (by omega)
  have hgt2 : decide (m < k) = false := decide_eq_false (by omega)
  have HT : Hid (takeL a L m k (wordOf r b t false) = layL ((fillL a L m 0).set L (wordOf r b t false)) p q) := by show _ = _; unfold takeL; rw [HP.out.1, HP.out.2.1]
  rw [HT.out]
  generalize fillL a L m 0 = F at *
  generalize wordOf r b t false = v at *
  have H1 := Lib.hid H1
  have HGh := Lib.hid HGh
  have HGs := Lib.hid HGs
  have HFl := Lib.hid HFl
  have hn : n ≤ 256 := by omega
  have HK0 := Lib.hid hk0
  clear hix hs hE hC hE0 hgs hok hh hk0 hkk hmm hp hq hF HT hal hlen hl0 hlf hr0 hb0 hk
  go_enter Tryz.func69, Tryz.ntmps69
  go_wp2_with fail
  refine (HW.out _).mono ?_
  rintro e w1 ⟨rfl, hb1⟩
  have hb01 := below_step hba hb1
  have D1 := B0.below hb1 (by simp)
  have k3 := D1.cell 3
  simp only [List.getElem?_toArray, List.getElem?_cons_zero, List.getElem?_cons_succ] at k3
  go_wp2_with fail
  refine (H1.out _ ((hr.below hb01).more hb01.size)).mono ?_
  rintro e w2 ⟨hb2, A', c', rfl, hown⟩
  have hb02 := below_step hb01 hb2
  have hrl := Reads.of_own hown
  have D2 := D1.below hb2 (by have := D1.lt; omega)
  clear hown k3 D1
  go_wp2_with fail
  refine (HF.out _ _ _ hrl).mono ?_
  rintro e w3 ⟨rfl, hb3⟩
  have hb03 := (below_step hb02 hb3)
  have hb04 := hb03.alloc hb03.size (.cells #[.int .i64 L, .int .i64 r2, .int .i64 b2, .int .i64 t2, .bool true] 165)
  have D4 := (D2.below hb3 (by have := D2.lt; omega)).alloc (.cells #[.int .i64 L, .int .i64 r2, .int .i64 b2, .int .i64 t2, .bool true] 165)
  have S4 := Blk.new w3 165 #[.int .i64 L, .int .i64 r2, .int .i64 b2, .int .i64 t2, .bool true]
  clear hrl hb01 hb02 hb1 hb2 hb3 D2 B0 hba hb03
  have q0 := D4.cell 0
  have q1 := D4.cell 1
  have q2 := D4.cell 2
  have q3 := D4.cell 3
  have s1 := S4.cell 1
  have s2 := S4.cell 2
  have s3 := S4.cell 3
  have s4 := S4.cell 4
  simp only [List.getElem?_toArray, List.getElem?_cons_zero, List.getElem?_cons_succ] at q0 q1 q2 q3 s1 s2 s3 s4
  have D4 := D4.drew
  have S4 := S4.drew
  have hb04 := hb04.drew
  go_wp2
  go_region_held3 (fun w' => w'.cell? ⟨w.heap.size, 0, none⟩ = some (.int .i64 r) ∧ w'.cell? ⟨w.heap.size, 1, none⟩ = some (.int .i64 b) ∧ w'.cell? ⟨w.heap.size, 2, none⟩ = some (.int .i64 t) ∧ w'.cell? ⟨w.heap.size, 3, none⟩ = some (.bool false) ∧
            w'.cell? ⟨w3.heap.size, 1, none⟩ = some (.int .i64 r2) ∧ w'.cell? ⟨w3.heap.size, 2, none⟩ = some (.int .i64 b2) ∧ w'.cell? ⟨w3.heap.size, 3, none⟩ = some (.int .i64 t2) ∧ w'.cell? ⟨w3.heap.size, 4, none⟩ = some (.bool true)) (go_keep)
    (first
      | (go_at_call 103; (first | with_reducible refine (HGh.out _).mono ?_ | with_reducible refine (HGs.out _).mono ?_); rintro e w4 ⟨rfl, hb4⟩; have D4 := D4.below hb4 D4.lt; have S4 := S4.below hb4 S4.lt; have q0 := D4.cell 0; have q1 := D4.cell 1; have q2 := D4.cell 2; have q3 := D4.cell 3; have s1 := S4.cell 1; have s2 := S4.cell 2; have s3 := S4.cell 3; have s4 := S4.cell 4; simp only [List.getElem?_toArray, List.getElem?_cons_zero, List.getElem?_cons_succ] at q0 q1 q2 q3 s1 s2 s3 s4; have hb04 := hb04.trans (hb4.mono hb04.size)))
  all_goals
    go_wp2_with fail
    refine (HGs.out _).mono ?_
    rintro e w5 ⟨rfl, hb5⟩
    have D4 := D4.below hb5 D4.lt
    have S4 := S4.below hb5 S4.lt
    have hb04 := hb04.trans (hb5.mono hb04.size)
    go_wp2_with fail
    refine (HFl.out _ _ (hr.below hb04) hb04.size).mono ?_
    rintro e w6 ⟨hb6, A6, c6, rfl, hown6⟩
    have D4 := D4.below hb6 D4.lt
    have S4 := S4.below hb6 S4.lt
    have hg6 := hb04.size
    have hb04 := hb04.trans (hb6.mono hb04.size)
    obtain ⟨g, cap, hv, hg, -⟩ := hown6.form (by omega)
    obtain ⟨rfl, rfl⟩ : A6 = some ⟨g, 0, none⟩ ∧ c6 = cap := by simpa using hv
    have hF0 := hown6.frozenAt L
    have hl := hown6.1
    simp only [List.length_map] at hl
    have hc0 := hown6.cellAt L (by omega)
    rw [List.getElem?_map, List.getElem?_eq_getElem (by omega)] at hc0
    have hc1 : w6.cell? ⟨g, L, none⟩ = some (.int .u64 (F[L]'(by omega))) := hc0
    have hownR := own_mono (hown6.stored L (.int .u64 v)).1 hg6
    rw [← List.map_set] at hownR
    have D4 := (D4.far (p := ⟨g, L, none⟩) (by dsimp only; have := own_blk_ne hown6 D4 (by decide); intro h; exact this (by rw [h]; rfl)) (.int .u64 v)).drew
    have S4 := (S4.far (p := ⟨g, L, none⟩) (by dsimp only; have := own_blk_ne hown6 S4 (by decide); intro h; exact this (by rw [h]; rfl)) (.int .u64 v)).drew
    have hb04 := (hb04.setCell (p := ⟨g, L, none⟩) (by dsimp only; omega) (.int .u64 v)).drew
    have hownR := hownR.drew
    clear hv hc0 hown6 hb5 hb6 hg q0 q1 q2 q3 s1 s2 s3 s4
    have q0 := D4.cell 0
    have q1 := D4.cell 1
    have q2 := D4.cell 2
    have q3 := D4.cell 3
    have s1 := S4.cell 1
    have s2 := S4.cell 2
    have s3 := S4.cell 3
    have s4 := S4.cell 4
    simp only [List.getElem?_toArray, List.getElem?_cons_zero, List.getElem?_cons_succ] at q0 q1 q2 q3 s1 s2 s3 s4
    by_cases hq0 : q = 0
    · subst hq0
      have HL : Hid (layL (F.set L v) p 0 = F.set L v) := rfl
      go_wp2
      go_region_held3 (fun w' => w'.cell? ⟨w.heap.size, 0, none⟩ = some (.int .i64 r) ∧ w'.cell? ⟨w.heap.size, 1, none⟩ = some (.int .i64 b) ∧ w'.cell? ⟨w.heap.size, 2, none⟩ = some (.int .i64 t) ∧ w'.cell? ⟨w.heap.size, 3, none⟩ = some (.bool false) ∧
            w'.cell? ⟨w3.heap.size, 1, none⟩ = some (.int .i64 r2) ∧ w'.cell? ⟨w3.heap.size, 2, none⟩ = some (.int .i64 b2) ∧ w'.cell? ⟨w3.heap.size, 3, none⟩ = some (.int .i64 t2) ∧ w'.cell? ⟨w3.heap.size, 4, none⟩ = some (.bool true)) (go_keep)
        (first
          | (go_at_call 103; (first | with_reducible refine (HGh.out _).mono ?_ | with_reducible refine (HGs.out _).mono ?_); rintro e w4 ⟨rfl, hb4⟩; have D4 := D4.below hb4 D4.lt; have S4 := S4.below hb4 S4.lt; have q0 := D4.cell 0; have q1 := D4.cell 1; have q2 := D4.cell 2; have q3 := D4.cell 3; have s1 := S4.cell 1; have s2 := S4.cell 2; have s3 := S4.cell 3; have s4 := S4.cell 4; simp only [List.getElem?_toArray, List.getElem?_cons_zero, List.getElem?_cons_succ] at q0 q1 q2 q3 s1 s2 s3 s4; have hb04 := hb04.trans (hb4.mono hb04.size); have hownR := own_below hownR hb4)
          | (go_at_call 101; refine (glay_zero _ _ _ _ _).mono ?_; rintro e w5 ⟨rfl, rfl⟩))
      all_goals
        go_wp2
        go_ret2
        exact ⟨hb04, _, _, rfl, by rw [HL.out]; exact hownR⟩
    · have HLay := Lib.hid (fun c W hr => glay_ok (some ⟨g, 0, none⟩) n c W.heap.size (F.set L v) p q W hr (Nat.le_refl _) hn HP.out.2.2 (by omega))
      go_wp2
      go_region_held3 (fun w' => w'.cell? ⟨w.heap.size, 0, none⟩ = some (.int .i64 r) ∧ w'.cell? ⟨w.heap.size, 1, none⟩ = some (.int .i64 b) ∧ w'.cell? ⟨w.heap.size, 2, none⟩ = some (.int .i64 t) ∧ w'.cell? ⟨w.heap.size, 3, none⟩ = some (.bool false) ∧
            w'.cell? ⟨w3.heap.size, 1, none⟩ = some (.int .i64 r2) ∧ w'.cell? ⟨w3.heap.size, 2, none⟩ = some (.int .i64 b2) ∧ w'.cell? ⟨w3.heap.size, 3, none⟩ = some (.int .i64 t2) ∧ w'.cell? ⟨w3.heap.size, 4, none⟩ = some (.bool true)) (go_keep)
        (first
          | (go_at_call 103; (first | with_reducible refine (HGh.out _).mono ?_ | with_reducible refine (HGs.out _).mono ?_); rintro e w4 ⟨rfl, hb4⟩; have D4 := D4.below hb4 D4.lt; have S4 := S4.below hb4 S4.lt; have q0 := D4.cell 0; have q1 := D4.cell 1; have q2 := D4.cell 2; have q3 := D4.cell 3; have s1 := S4.cell 1; have s2 := S4.cell 2; have s3 := S4.cell 3; have s4 := S4.cell 4; simp only [List.getElem?_toArray, List.getElem?_cons_zero, List.getElem?_cons_succ] at q0 q1 q2 q3 s1 s2 s3 s4; have hb04 := hb04.trans (hb4.mono hb04.size); have hownR := own_below hownR hb4)
          | (go_at_call 101; refine (HLay.out _ _ (Reads.of_own hownR)).mono ?_; rintro e w5 ⟨hb5, A5, c5, rfl, hown5⟩; have D4 := D4.below hb5 D4.lt; have S4 := S4.below hb5 S4.lt; have q0 := D4.cell 0; have q1 := D4.cell 1; have q2 := D4.cell 2; have q3 := D4.cell 3; have s1 := S4.cell 1; have s2 := S4.cell 2; have s3 := S4.cell 3; have s4 := S4.cell 4; simp only [List.getElem?_toArray, List.getElem?_cons_zero, List.getElem?_cons_succ] at q0 q1 q2 q3 s1 s2 s3 s4; have hg5 := hb04.size; have hb04 := hb04.trans (hb5.mono hb04.size); have hownZ := own_mono hown5 hg5))
      all_goals
        go_wp2
        go_ret2
        exact ⟨hb04, _, _, rfl, hownZ⟩
end Go.Proofs.YtbmkbnalembbjaaGreatDoor

namespace Go.Proofs.YtbmkbnalembbjaaGreatDoor
open Go.RowKit
end Go.Proofs.YtbmkbnalembbjaaGreatDoor

namespace Go.Proofs.YtbmkbnalembbjaaGreatDoor
open Go.RowKit
end Go.Proofs.YtbmkbnalembbjaaGreatDoor

namespace Go.Proofs.YtbmkbnalembbjaaGreatDoor
open Go.RowKit
set_option maxHeartbeats 400000 in
theorem equal_u64 (A A2 : Option Addr) (n c m c2 B B2 : Nat) (xs ys : List Int) (w : World) (hr : Reads w B 1 A n (xs.map (.int .u64))) (hr2 : Reads w B2 1 A2 m (ys.map (.int .u64))) (hn : n ≤ 1000000000000000000) (hm : m ≤ 1000000000000000000) :
    Calls Tryz.prog 29 #[.slice A n c, .slice A2 m c2] w fun e w' => e = .returned (.bool (decide (xs = ys))) ∧ ∃ q, w' = w.drewN q := by
  have hxl : xs.length = n := by have := hr.1; simpa using this
  have hyl : ys.length = m := by have := hr2.1; simpa using this
  have HX := Lib.hid hxl
  have HY := Lib.hid hyl
  clear hxl hyl
  by_cases hnm : n = m
  · subst hnm
    go_enter Tryz.func29, Tryz.ntmps29
    go_wp2
    go_loopw [13] (fun i wr => ∃ j : Nat, j ≤ n ∧ i = .int .i64 j ∧ xs.take j = ys.take j ∧ ∃ q, wr = w.drewN q) (fun i _ => n - (intOf i).toNat)
    case atStart => exact ⟨0, Nat.zero_le _, rfl, by simp, 0, rfl⟩
    case round =>
      obtain ⟨j, hj, rfl, ht, q, rfl⟩ := hrel
      have HT := Lib.hid ht
      clear ht
      by_cases hlt : j < n
      · obtain ⟨ad, u, rfl, _, hx, hc⟩ := hr.at_ hlt
        obtain ⟨ad2, u2, rfl, _, hx2, hc2⟩ := hr2.at_ hlt
        have hl : j < xs.length := by rw [HX.out]; exact hlt
        have hl2 : j < ys.length := by rw [HY.out]; exact hlt
        rw [List.getElem?_map, List.getElem?_eq_getElem hl] at hx
        rw [List.getElem?_map, List.getElem?_eq_getElem hl2] at hx2
        obtain rfl : u = .int .u64 xs[j] := by simpa using hx.symm
        obtain rfl : u2 = .int .u64 ys[j] := by simpa using hx2.symm
        clear hx hx2
        have T : Hid (xs.take (j + 1) = ys.take (j + 1) ↔ xs[j] = ys[j]) := by
          show _ ↔ _
          rw [List.take_succ_eq_append_getElem hl, List.take_succ_eq_append_getElem hl2, HT.out]
          constructor
          · intro h
            have := List.append_cancel_left h
            simpa using this
          · intro h; rw [h]
        have hlt' : (j : Int) < n := by omega
        generalize hgx : xs[j] = x at *
        generalize hgy : ys[j] = y at *
        have HGX := Lib.hid hgx
        have HGY := Lib.hid hgy
        clear hgx hgy
        by_cases he : x = y
        · subst he
          go_wp2
          go_quiet (fail)
          go_wp2
          go_roundw
          case rel => exact ⟨j + 1, by omega, by go_num, T.out.2 (by simp), _, rfl⟩
          case measure => simp [intOf]; omega
        · have he2 : (x == y) = false := by simpa using he
          have he3 : (x != y) = true := by simpa using he
          go_wp2
          go_quiet (fail)
          go_wp2
          go_ret
          refine ⟨?_, _, drewN_add _ _ _⟩
          have : ¬ xs = ys := by
            intro h
            apply he
            rw [← HGX.out, ← HGY.out]
            subst h
            rfl
          rw [decide_eq_false this]
          rfl
      · go_wp2
        go_ret
        have hjn : j = n := by omega
        subst hjn
        exact ⟨by rw [decide_eq_true (eq_of_takes _ _ _ HX.out HY.out HT.out)]; rfl, _, rfl⟩
  · have hne : ¬ xs = ys := by
      intro h
      subst h
      exact hnm (HX.out.symm.trans HY.out)
    have e1 : ((n : Int) == (m : Int)) = false := by simp; omega
    have e2 : ((n : Int) != (m : Int)) = true := by simp; omega
    have e3 : (n == m) = false := by simpa using hnm
    have e4 : (n != m) = true := by simpa using hnm
    go_enter Tryz.func29, Tryz.ntmps29
    go_wp2
    go_ret
    exact ⟨by rw [decide_eq_false hne]; rfl, 0, rfl⟩
end Go.Proofs.YtbmkbnalembbjaaGreatDoor

namespace Go.Proofs.YtbmkbnalembbjaaGreatDoor
open Go.RowKit
theorem notzero_any (x : Int) (w : World) : Calls Tryz.prog 25 #[.int .i64 x] w fun e w' => e = .returned (.bool (x != 0)) ∧ w = w' := by
  go_enter Tryz.func25, Tryz.ntmps25
  go_wp2
  go_ret
  exact ⟨rfl, rfl⟩
set_option maxHeartbeats 400000 in
theorem indexErr_any (A : Option Addr) (n c B : Nat) (xs : List Int) (w : World) (hr : Reads w B 1 A n (xs.map (.int .i64))) (hn : n ≤ 1000000000000000000) :
    Calls Tryz.prog 59 #[.slice A n c, .func (.func 25) #[] #[]] w fun e w' =>
      (∃ i : Int, e = .returned (.int .i64 i) ∧ (decide (0 ≤ i) = !(xs.all (· == 0)))) ∧ w = w' := by
  have hxl : xs.length = n := by have := hr.1; simpa using this
  have HX := Lib.hid hxl
  clear hxl
  go_enter Tryz.func59, Tryz.ntmps59
  go_wp2
  go_loop [8] (fun i => ∃ j : Nat, j ≤ n ∧ i = .int .i64 j ∧ (xs.take j).all (· == 0) = true) (fun i => n - (intOf i).toNat)
  case atStart => exact ⟨0, Nat.zero_le _, rfl, by simp⟩
  case round =>
    obtain ⟨j, hj, rfl, ht⟩ := hrel
    have HT := Lib.hid ht
    clear ht
    by_cases hlt : j < n
    · obtain ⟨ad, u, rfl, _, hx, hc⟩ := hr.at_ hlt
      have hl : j < xs.length := by rw [HX.out]; exact hlt
      rw [List.getElem?_map, List.getElem?_eq_getElem hl] at hx
      obtain rfl : u = .int .i64 xs[j] := by simpa using hx.symm
      clear hx
      have T : Hid ((xs.take (j + 1)).all (· == 0) = (xs[j] == 0)) := by
        show _ = _
        rw [List.take_succ_eq_append_getElem hl, List.all_append, HT.out]
        simp
      have T2 : Hid (xs[j] ∈ xs) := List.getElem_mem hl
      generalize xs[j] = x at *
      by_cases he : x = 0
      · subst he
        go_wp2_with (go_at_call 25; refine (notzero_any _ _).mono ?_; rintro e w' ⟨rfl, rfl⟩)
        go_round
        case rel => exact ⟨j + 1, by omega, by go_num, by rw [T.out]; rfl⟩
        case measure => simp [intOf]; omega
      · have he2 : (x != 0) = true := by simpa using he
        have he3 : (x == 0) = false := by simpa using he
        go_wp2_with (go_at_call 25; refine (notzero_any _ _).mono ?_; rintro e w' ⟨rfl, rfl⟩)
        go_ret
        refine ⟨⟨j, rfl, ?_⟩, rfl⟩
        have : xs.all (· == 0) = false := by
          rw [List.all_eq_false]
          exact ⟨x, T2.out, by simpa using he⟩
        rw [this]
        simp
    · go_wp2
      go_ret
      refine ⟨⟨-1, rfl, ?_⟩, rfl⟩
      have hjn : j = n := by omega
      have := HT.out
      rw [hjn, List.take_of_length_le (by rw [HX.out]; omega)] at this
      rw [this]
      simp
theorem containsErr_any (A : Option Addr) (n c B : Nat) (xs : List Int) (w : World) (hr : Reads w B 1 A n (xs.map (.int .i64))) (hn : n ≤ 1000000000000000000) :
    Calls Tryz.prog 24 #[.slice A n c, .func (.func 25) #[] #[]] w fun e w' => e = .returned (.bool !(xs.all (· == 0))) ∧ w = w' := by
  have H := indexErr_any A n c B xs w hr hn
  have HH := Lib.hid H
  clear H
  generalize (!(xs.all (· == 0))) = b at *
  go_enter Tryz.func24, Tryz.ntmps24
  go_wp2_with (go_at_call 59; refine HH.out.mono ?_; rintro e w' ⟨⟨i, rfl, hi⟩, rfl⟩)
  go_ret
  exact ⟨rfl, rfl⟩
theorem good_any (A : Option Addr) (n c B : Nat) (xs : List Int) (w : World) (hr : Reads w B 1 A n (xs.map (.int .i64))) (hn : n ≤ 1000000000000000000) :
    Calls Tryz.prog 8 #[.slice A n c] w fun e w' => e = .returned (.bool (xs.all (· == 0))) ∧ w = w' := by
  have H := containsErr_any A n c B xs w hr hn
  have HH := Lib.hid H
  clear H
  generalize xs.all (· == 0) = b at *
  go_enter Tryz.func8, Tryz.ntmps8
  go_wp2_with (go_at_call 24; refine HH.out.mono ?_; rintro e w' ⟨rfl, rfl⟩)
  go_ret
  exact ⟨by simp, rfl⟩
theorem good_of (A : Option Addr) (n c B : Nat) (xs : List Int) (b : Bool) (w : World) (hb : xs.all (· == 0) = b) (hr : Reads w B 1 A n (xs.map (.int .i64))) (hn : n ≤ 1000000000000000000) :
    Calls Tryz.prog 8 #[.slice A n c] w fun e w' => e = .returned (.bool b) ∧ w = w' := by
  subst hb
  exact good_any A n c B xs w hr hn
end Go.Proofs.YtbmkbnalembbjaaGreatDoor

namespace Go.Proofs.YtbmkbnalembbjaaGreatDoor
open Go.ChangeShapes Go.WideShapes Go.ChangeAt Go.RowKit Go.Joins Go.Deep
end Go.Proofs.YtbmkbnalembbjaaGreatDoor

namespace Go.Proofs.YtbmkbnalembbjaaGreatDoor
open Go.RowKit
def W64 (a : List Int) : Prop := ∀ x ∈ a, (Lit.int .u64 x).wf = true
theorem word_wf {r b t : Int} {f : Bool} (h : headE r b t f = 0) : (Lit.int .u64 (wordOf r b t f)).wf = true := by
  obtain ⟨-, -, -, -, -, w0, w1⟩ := rdw_word r b t f h
  simp [Lit.wf, IntKind.min, IntKind.max, IntKind.signed, IntKind.bits]
  omega
theorem fillL_w64 {a : List Int} {i n : Nat} (ha : W64 a) : W64 (fillL a i n 0) := by
  intro x h
  unfold fillL at h
  rcases List.mem_append.1 h with h | h
  · rcases List.mem_append.1 h with h | h
    · exact ha x (List.mem_of_mem_take h)
    · obtain rfl := (List.mem_replicate.1 h).2
      decide
  · exact ha x (List.mem_of_mem_drop h)
theorem set_w64 {a : List Int} {i : Nat} {v : Int} (ha : W64 a) (hv : (Lit.int .u64 v).wf = true) : W64 (a.set i v) := by
  intro x hx
  rcases List.mem_or_eq_of_mem_set hx with h | rfl
  · exact ha x h
  · exact hv
theorem layL_w64 {a : List Int} {i n : Nat} (ha : W64 a) (hn : n ≤ 256) : W64 (layL a i n) := by
  unfold layL
  split
  · exact ha
  · exact set_w64 (fillL_w64 ha) (word_wf (headE_ok.2 ⟨by omega, by omega, by omega, by omega, by omega, by omega, by omega, fun _ => ⟨rfl, rfl⟩⟩))
theorem ix_of_spot {a : List Int} (h : spotsE a = 0) {p : Spot → Bool} {j : Nat} {s : Spot} (hs : (spotsL a)[j]? = some s) (hp : p s = true) (hq : ∀ y, p y = true → y.loc = s.loc) : ixOf p (spotsL a) = j := by
  refine ixOf_some hs hp (fun y hy => ?_)
  cases hpy : p y
  · rfl
  · have he := hq y hpy
    have hr := spots_rise h
    rw [List.mem_take_iff_getElem] at hy
    obtain ⟨k, hk, rfl⟩ := hy
    obtain ⟨hi, rfl⟩ := List.getElem?_eq_some_iff.1 hs
    have := List.pairwise_iff_getElem.1 hr k j (by omega) hi (by omega)
    omega
namespace GapTurns
open Go.ChangeShapes Go.WideShapes Go.ChangeAt Go.RowKit
theorem own : ownKnob Tryz.prog.godebug = none := by kernel_rfl
theorem laidOut : laidOutB Tryz.prog = true := by kernel_rfl
end GapTurns
end Go.Proofs.YtbmkbnalembbjaaGreatDoor

namespace Go.Proofs.YtbmkbnalembbjaaGreatDoor
open Go.RowKit
def joined (a : List Int) : List Int := joinL a (gapsL (spotsL a))
def takenA (a : List Int) (g : Rn) (r b t : Int) : List Int := takeL (joined a) g.loc.toNat g.len.toNat (1 + r + b).toNat (wordOf r b t false)
structure FirstGap (a : List Int) (N : Int) (j : Nat) (g : Rn) : Prop where
  fits : fitsE (ggL a) N = 0
  ix : firstV (ggL a) N = j
  at_ : (ggL a)[j]? = some g
  long : N ≤ g.len
theorem first_gap {a : List Int} {N : Int} (h : fitsE (ggL a) N = 0) : ∃ j g, FirstGap a N j g := by
  obtain ⟨h1, h2⟩ := fitsL_ok h
  have h3 : fitsL (ggL a) N ≠ [] := by rw [h1]; exact h2
  cases hl : fitsL (ggL a) N with
  | nil => exact absurd hl h3
  | cons x l =>
    obtain ⟨j, g, q1, q2, rfl⟩ := fitsL_mem (l := ggL a) (n := N) (x := x) (by rw [hl]; exact List.mem_cons_self)
    exact ⟨j, g, h, by unfold firstV; rw [hl]; rfl, q1, q2⟩
theorem gap_facts {a : List Int} (h : checkE a = 0) {g : Rn} (hg : g ∈ ggL a) : ∃ i n : Nat, g = ⟨i, n⟩ ∧ 1 ≤ n ∧ i + n ≤ a.length := by
  unfold ggL at hg
  rw [if_pos h] at hg
  exact (join_ok h).runs g hg
theorem ggL_length {a : List Int} : (ggL a).length ≤ 257 := by
  unfold ggL
  split
  · have h1 := gapsA_length [] false (spotsL a)
    have h2 := spotsL_length a
    unfold gapsL
    simp only [List.length_nil] at h1
    omega
  · simp
theorem joinL_w64 : ∀ (l : List Rn) (a : List Int), W64 a → (∀ q ∈ l, q.len.toNat ≤ 256) → W64 (joinL a l)
  | [], _, h, _ => h
  | q :: l, _, h, hl => joinL_w64 l _ (layL_w64 h (hl q List.mem_cons_self)) (fun z hz => hl z (List.mem_cons_of_mem _ hz))
set_option maxRecDepth 100000 in
set_option maxHeartbeats 4000000 in
theorem takeFn_no (A : Option Addr) (n c : Nat) (RA : Option Addr) (rn rc : Nat) (PA : Option Addr) (pn pc : Nat) (HA : Option Addr) (hn hc : Nat) (S : St) (r b t : Int) (w : World) (hR : StR w w.heap.size A n RA rn PA pn HA hn S) (hK : StK n c rn pn hn S) (hE : headE r b t false = 0) (hF : fitsE (ggL S.a) (1 + r + b) ≠ 0) :
    Calls Tryz.prog 36 #[.agg #[.slice A n c, .slice RA rn rc, .slice PA pn pc, .slice HA hn hc], .agg #[.int .i64 r, .int .i64 b, .int .i64 t, .bool false]] w fun e w' => Below w.heap.size w w' ∧ e = .returned (.tuple #[.slice none 0 0, .int .i64 0, .bool false]) := by
  have HLo := Lib.hid (fun w => hlongc_ok r b t false w hE)
  have HGp := Lib.hid (fun w hr => ggapsE_any A n c S.a w hr hK.cap hK.wf)
  have HFi := Lib.hid (fun A' c' w hr => first_any A' (ggL S.a).length c' (ggL S.a) (1 + r + b) w hr (by have := ggL_length (a := S.a); omega))
  have g1 : (fitsE (ggL S.a) (1 + r + b) != 0) = true := by simpa using hF
  generalize fitsE (ggL S.a) (1 + r + b) = F at *
  generalize firstV (ggL S.a) (1 + r + b) = V at *
  generalize 1 + r + b = N at *
  generalize checkE S.a = CE at *
  obtain ⟨q, hq⟩ : ∃ q, q = (ggL S.a).length := ⟨_, rfl⟩
  rw [← hq] at HGp HFi
  have hb0 := below_new w (.cells #[.slice A n c, .slice RA rn rc, .slice PA pn pc, .slice HA hn hc] 28)
  have hb1 := hb0.alloc hb0.size (.cells #[.int .i64 r, .int .i64 b, .int .i64 t, .bool false] 50)
  have DS := (Blk.new w 28 #[.slice A n c, .slice RA rn rc, .slice PA pn pc, .slice HA hn hc]).alloc (.cells #[.int .i64 r, .int .i64 b, .int .i64 t, .bool false] 50)
  have DH := Blk.new (w.alloc (.cells #[.slice A n c, .slice RA rn rc, .slice PA pn pc, .slice HA hn hc] 28)) 50 #[.int .i64 r, .int .i64 b, .int .i64 t, .bool false]
  rw [World.size_alloc] at DH
  obtain ⟨h0, h1, h2, h3⟩ := DH.four
  clear hb0 hF hq
  go_enter Tryz.func36, Tryz.ntmps36
  go_wp2_with fail
  refine (HLo.out _).mono ?_
  rintro e w2 ⟨rfl, hb2⟩
  have hb02 := below_step hb1 hb2
  have DS2 := DS.below hb2 DS.lt
  clear h0 h1 h2 h3
  obtain ⟨s0, s1, s2, s3⟩ := DS2.four
  go_wp2_with fail
  refine (HGp.out _ ((hR.a.below hb02).more hb02.size)).mono ?_
  rintro e w3 ⟨hb3, A5, c5, rfl, hown⟩
  have hb03 := below_step hb02 hb3
  have hrG := Reads.of_own hown
  clear s0 s1 s2 s3
  go_wp2_with fail
  refine (HFi.out A5 c5 _ hrG).mono ?_
  rintro e w4 ⟨rfl, hb4⟩
  have hb04 := below_step hb03 hb4
  go_wp2_with fail
  go_ret3
  exact ⟨hb04, rfl⟩
set_option maxRecDepth 100000 in
set_option maxHeartbeats 4000000 in
theorem takeFn_yes (A : Option Addr) (n c : Nat) (RA : Option Addr) (rn rc : Nat) (PA : Option Addr) (pn pc : Nat) (HA : Option Addr) (hn hc : Nat) (S : St) (r b t : Int) (j : Nat) (g : Rn) (w : World) (hR : StR w w.heap.size A n RA rn PA pn HA hn S) (hK : StK n c rn pn hn S) (hC : checkE S.a = 0) (hE : headE r b t false = 0) (hG : FirstGap S.a (1 + r + b) j g) :
    Calls Tryz.prog 36 #[.agg #[.slice A n c, .slice RA rn rc, .slice PA pn pc, .slice HA hn hc], .agg #[.int .i64 r, .int .i64 b, .int .i64 t, .bool false]] w fun e w' => Below w.heap.size w w' ∧ ∃ (A' : Option Addr) (c' : Nat), e = .returned (.tuple #[.slice A' n c', .int .i64 g.loc, .bool true]) ∧
      w'.ownsRow w.heap.size 45 1 (.slice A' n c') n ((takenA S.a g r b t).map (.int .u64)) := by
  have HLo := Lib.hid (fun w => hlongc_ok r b t false w hE)
  have HGp := Lib.hid (fun w hr => ggapsE_any A n c S.a w hr hK.cap hK.wf)
  have HFi := Lib.hid (fun A' c' w hr => first_any A' (ggL S.a).length c' (ggL S.a) (1 + r + b) w hr (by have := ggL_length (a := S.a); omega))
  have HJn := Lib.hid (fun w hr => gjoin_ok A n c S.a w hr hK.cap hK.wf hC)
  have hgm : g ∈ gapsL (spotsL S.a) := by have := List.mem_of_getElem? hG.at_; unfold ggL at this; rwa [if_pos hC] at this
  obtain ⟨s, hs, e1, e2, e3⟩ := join_spot hC hgm
  have hJ := join_ok hC
  obtain ⟨js, hjs⟩ := List.mem_iff_getElem?.1 hs
  have hixs : ixOf (pF g.loc true) (spotsL (joinL S.a (gapsL (spotsL S.a)))) = js := ix_of_spot (checkE_ok.1 hJ.check).1 hjs (by unfold pF; rw [e1, e2]; simp) (fun y hy => by unfold pF at hy; simp only [Bool.and_eq_true, beq_iff_eq] at hy; rw [hy.1, e1])
  have hwj : ∀ x ∈ joinL S.a (gapsL (spotsL S.a)), (Lit.int .u64 x).wf = true := by
    refine joinL_w64 _ _ hK.wf (fun q hq => ?_)
    obtain ⟨i, k, rfl, h1, h2⟩ := hJ.runs q hq
    have := (parse_ok (checkE_ok.1 hC).1).1
    simp only [Int.toNat_natCast]
    omega
  have HTk := Lib.hid (fun A' c' w hr hnc => take_good A' n c' (joinL S.a (gapsL (spotsL S.a))) g.loc r b t js s w hr hnc hwj hE hJ.check hixs hjs e1 e2 (by rw [e3]; exact hG.long))
  have HR : Hid (takeL (joinL S.a (gapsL (spotsL S.a))) s.loc.toNat s.long.toNat (1 + r + b).toNat (wordOf r b t false) = takenA S.a g r b t) := by
    show _ = _
    unfold takenA joined
    rw [e1, e3]
  rw [HR.out] at HTk
  rw [hG.fits, hG.ix] at HFi
  rw [hC] at HGp
  generalize takenA S.a g r b t = na at *
  generalize joinL S.a (gapsL (spotsL S.a)) = ja at *
  have HAt := Lib.hid hG.at_
  have hjl : j < (ggL S.a).length := (List.getElem?_eq_some_iff.1 hG.at_).1
  obtain ⟨q, hq⟩ : ∃ q, q = (ggL S.a).length := ⟨_, rfl⟩
  rw [← hq] at HGp HFi hjl
  generalize 1 + r + b = N at *
  have hb0 := below_new w (.cells #[.slice A n c, .slice RA rn rc, .slice PA pn pc, .slice HA hn hc] 28)
  have hb1 := hb0.alloc hb0.size (.cells #[.int .i64 r, .int .i64 b, .int .i64 t, .bool false] 50)
  have DS := (Blk.new w 28 #[.slice A n c, .slice RA rn rc, .slice PA pn pc, .slice HA hn hc]).alloc (.cells #[.int .i64 r, .int .i64 b, .int .i64 t, .bool false] 50)
  have DH := Blk.new (w.alloc (.cells #[.slice A n c, .slice RA rn rc, .slice PA pn pc, .slice HA hn hc] 28)) 50 #[.int .i64 r, .int .i64 b, .int .i64 t, .bool false]
  rw [World.size_alloc] at DH
  obtain ⟨h0, h1, h2, h3⟩ := DH.four
  clear hb0 hq hG hgm hs e1 e2 e3 hJ hjs hixs hwj HR
  go_enter Tryz.func36, Tryz.ntmps36
  go_wp2_with fail
  refine (HLo.out _).mono ?_
  rintro e w2 ⟨rfl, hb2⟩
  have hb02 := below_step hb1 hb2
  have DS2 := DS.below hb2 DS.lt
  have DH2 := DH.below hb2 DH.lt
  clear h0 h1 h2 h3
  obtain ⟨s0, s1, s2, s3⟩ := DS2.four
  go_wp2_with fail
  refine (HGp.out _ ((hR.a.below hb02).more hb02.size)).mono ?_
  rintro e w3 ⟨hb3, A5, c5, rfl, hown⟩
  have hb03 := below_step hb02 hb3
  have DS3 := DS2.below hb3 DS2.lt
  have DH3 := DH2.below hb3 DH2.lt
  have hrG := Reads.of_own hown
  clear s0 s1 s2 s3
  go_wp2_with fail
  refine (HFi.out A5 c5 _ hrG).mono ?_
  rintro e w4 ⟨rfl, hb4⟩
  have hb04 := below_step hb03 hb4
  have DS4 := DS3.below hb4 DS3.lt
  have DH4 := DH3.below hb4 DH3.lt
  have hrG4 := (hrG.below hb4).more hb4.size
  obtain ⟨s0, s1, s2, s3⟩ := DS4.four
  clear hown hrG
  go_wp2_with fail
  refine (HJn.out _ ((hR.a.below hb04).more hb04.size)).mono ?_
  rintro e w5 ⟨hb5, A6, c6, rfl, hownJ⟩
  have hb05 := below_step hb04 hb5
  have DH5 := DH4.below hb5 DH4.lt
  have hrG5 := (hrG4.below hb5).more hb5.size
  obtain ⟨ad, g', rfl, had, hg', k0, k1⟩ := hrG5.run hjl
  obtain rfl : g' = g := Option.some.inj (hg'.symm.trans HAt.out)
  have hrJ := Reads.of_own hownJ
  have HT2 := Lib.hid (fun w hr => HTk.out A6 c6 w hr (own_cap hownJ))
  clear s0 s1 s2 s3 hg' hrG4
  go_upto_region 7 with fail
  go_cut [13] from 15 to 56 (fun s13 wc => ∃ (A7 : Option Addr) (c7 : Nat), s13 = .slice A7 n c7 ∧ wc.ownsRow w.heap.size 45 1 (.slice A7 n c7) n (na.map (.int .u64)) ∧ Below w5.heap.size w5 wc)
  case first =>
    have hb := (Below.refl w5.heap.size w5).drew
    have DH := DH5.drew
    obtain ⟨h0, h1, h2, h3⟩ := DH.four
    have k0 : w5.drew.cell? (ad.add (j * 2)) = some (.int .i64 g'.loc) := k0
    go_region_held3 (fun w' => w'.cell? (ad.add (j * 2)) = some (.int .i64 g'.loc) ∧ w'.cell? ⟨w.heap.size + 1, 0, none⟩ = some (.int .i64 r) ∧ w'.cell? ⟨w.heap.size + 1, 1, none⟩ = some (.int .i64 b) ∧ w'.cell? ⟨w.heap.size + 1, 2, none⟩ = some (.int .i64 t) ∧ w'.cell? ⟨w.heap.size + 1, 3, none⟩ = some (.bool false)) (go_keep)
      (first
        | (go_at_call 69; (with_reducible refine (HT2.out _ ((hrJ.below hb).more hb.size)).mono ?_); rintro e wA ⟨hbA, A7, c7, rfl, oA⟩; have DH := DH.below hbA DH.lt; obtain ⟨h0, h1, h2, h3⟩ := DH.four; have k0 := (hbA.cell (p := ad.add (j * 2)) (by rw [block_of_add]; exact had)).trans k0; have hb := hb.trans (hbA.mono hb.size)))
    all_goals
      go_wp2_with fail
      go_meet
      exact ⟨A7, c7, rfl, own_mono oA hb05.size, hb⟩
  case rest =>
    obtain ⟨A7, c7, rfl, oA, hbc⟩ := hcut
    have hb06 := below_step hb05 hbc
    have k0 := (hbc.cell (p := ad.add (j * 2)) (by rw [block_of_add]; exact had)).trans k0
    go_upto_region 8 with fail
    go_region
    all_goals
      go_wp2_with fail
      go_ret3
      first
        | exact ⟨hb06, A7, c7, rfl, oA⟩
        | exact ⟨hb06.drew, A7, c7, rfl, oA.drew⟩
end Go.Proofs.YtbmkbnalembbjaaGreatDoor
