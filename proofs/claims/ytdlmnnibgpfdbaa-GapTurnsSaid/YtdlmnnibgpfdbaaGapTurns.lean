/-
  GapTurns answers true for every arena, word and head, and changes no argument: freeing an object directly after its allocation leaves gaps of the same total size and changes no other object. No condition.
-/
import Derived.Test.YtdlmnnibgpfdbaaGapGive
import Derived.Test.YtdlmnnibgpfdbaaSlicesRun
import Derived.Test.YtdlmnnibgpfdbaaSlices
import Derived.Test.YtdlmnnibgpfdbaaGood
import Derived.Test.YtdlmnnibgpfdbaaLawHead
import Derived.Test.YtdlmnnibgpfdbaaAt
import Derived.StillTailTactics
namespace Go.Proofs.Ytdlmnnibgpfdbaa
open Go.RowKit

theorem notZero_any (x : Int) (w : World) : Calls Try.prog 36 #[.int .u64 x] w fun e w' => e = .returned (.bool (x != 0)) ∧ w = w' := by
  go_enter Try.func36, Try.ntmps36
  go_wp2
  go_ret
  exact ⟨rfl, rfl⟩
theorem notNull_any (x : Int) (w : World) : Calls Try.prog 38 #[.int .i64 x] w fun e w' => e = .returned (.bool (x != -1)) ∧ w = w' := by
  go_enter Try.func38, Try.ntmps38
  go_wp2
  go_ret
  exact ⟨rfl, rfl⟩

set_option maxHeartbeats 400000 in
theorem indexZero_any (A : Option Addr) (n c B : Nat) (xs : List Int) (w : World) (hr : Reads w B 1 A n (xs.map (.int .u64))) (hn : n ≤ 1000000) (h0 : ∀ x ∈ xs, x = 0) :
    Calls Try.prog 67 #[.slice A n c, .func (.func 36) #[] #[]] w fun e w' => e = .returned (.int .i64 (-1)) ∧ w = w' := by
  have H0 := Lib.hid h0
  clear h0
  go_enter Try.func67, Try.ntmps67
  go_wp2
  go_loop [8] (fun i => ∃ j : Nat, j ≤ n ∧ i = .int .i64 j) (fun i => n - (intOf i).toNat)
  case atStart => exact ⟨0, Nat.zero_le _, rfl⟩
  case round =>
    obtain ⟨j, hj, rfl⟩ := hrel
    by_cases hlt : j < n
    · obtain ⟨ad, x, rfl, _, hx, hc⟩ := hr.num hlt
      obtain rfl := H0.out x (List.mem_of_getElem? hx)
      clear hx
      go_wp2_with (go_at_call 36; refine (notZero_any _ _).mono ?_; rintro e w' ⟨rfl, rfl⟩)
      go_round
      case rel => exact ⟨j + 1, by omega, by go_num⟩
      case measure => simp [intOf]; omega
    · go_wp2
      go_ret
      exact ⟨rfl, rfl⟩
set_option maxHeartbeats 400000 in
theorem indexNull_any (A : Option Addr) (n c B : Nat) (xs : List Int) (w : World) (hr : Reads w B 1 A n (xs.map (.int .i64))) (hn : n ≤ 1000000) (h0 : ∀ x ∈ xs, x = -1) :
    Calls Try.prog 68 #[.slice A n c, .func (.func 38) #[] #[]] w fun e w' => e = .returned (.int .i64 (-1)) ∧ w = w' := by
  have H0 := Lib.hid h0
  clear h0
  go_enter Try.func68, Try.ntmps68
  go_wp2
  go_loop [8] (fun i => ∃ j : Nat, j ≤ n ∧ i = .int .i64 j) (fun i => n - (intOf i).toNat)
  case atStart => exact ⟨0, Nat.zero_le _, rfl⟩
  case round =>
    obtain ⟨j, hj, rfl⟩ := hrel
    by_cases hlt : j < n
    · obtain ⟨ad, x, rfl, _, hx, hc⟩ := hr.num hlt
      obtain rfl := H0.out x (List.mem_of_getElem? hx)
      clear hx
      go_wp2_with (go_at_call 38; refine (notNull_any _ _).mono ?_; rintro e w' ⟨rfl, rfl⟩)
      go_round
      case rel => exact ⟨j + 1, by omega, by go_num⟩
      case measure => simp [intOf]; omega
    · go_wp2
      go_ret
      exact ⟨rfl, rfl⟩
set_option maxHeartbeats 400000 in
theorem containsZero_any (A : Option Addr) (n c B : Nat) (xs : List Int) (w : World) (hr : Reads w B 1 A n (xs.map (.int .u64))) (hn : n ≤ 1000000) (h0 : ∀ x ∈ xs, x = 0) :
    Calls Try.prog 35 #[.slice A n c, .func (.func 36) #[] #[]] w fun e w' => e = .returned (.bool false) ∧ w = w' := by
  have H := Lib.hid (indexZero_any A n c B xs w hr hn h0)
  clear h0
  go_enter Try.func35, Try.ntmps35
  go_wp2_with (go_at_call 67; refine H.out.mono ?_; rintro e w' ⟨rfl, rfl⟩)
  go_ret
  exact ⟨rfl, rfl⟩
set_option maxHeartbeats 400000 in
theorem containsNull_any (A : Option Addr) (n c B : Nat) (xs : List Int) (w : World) (hr : Reads w B 1 A n (xs.map (.int .i64))) (hn : n ≤ 1000000) (h0 : ∀ x ∈ xs, x = -1) :
    Calls Try.prog 37 #[.slice A n c, .func (.func 38) #[] #[]] w fun e w' => e = .returned (.bool false) ∧ w = w' := by
  have H := Lib.hid (indexNull_any A n c B xs w hr hn h0)
  clear h0
  go_enter Try.func37, Try.ntmps37
  go_wp2_with (go_at_call 68; refine H.out.mono ?_; rintro e w' ⟨rfl, rfl⟩)
  go_ret
  exact ⟨rfl, rfl⟩

def W64 (a : List Int) : Prop := ∀ x ∈ a, (Lit.int .u64 x).wf = true
theorem word_wf {r b t : Int} {f : Bool} (h : headE r b t f = 0) : (Lit.int .u64 (wordOf r b t f)).wf = true := by
  obtain ⟨-, -, -, -, -, w0, w1⟩ := rdw_word r b t f h
  simp [Lit.wf, IntKind.min, IntKind.max, IntKind.signed, IntKind.bits]
  omega
theorem fillL_w64 {a : List Int} {i n : Nat} (ha : W64 a) : W64 (fillL a i n 0) := by
  intro x h
  unfold fillL at h
  rcases List.mem_append.1 h with h | h
  · rcases List.mem_append.1 h with h | h
    · exact ha x (List.mem_of_mem_take h)
    · obtain rfl := (List.mem_replicate.1 h).2
      decide
  · exact ha x (List.mem_of_mem_drop h)
theorem set_w64 {a : List Int} {i : Nat} {v : Int} (ha : W64 a) (hv : (Lit.int .u64 v).wf = true) : W64 (a.set i v) := by
  intro x hx
  rcases List.mem_or_eq_of_mem_set hx with h | rfl
  · exact ha x h
  · exact hv
theorem layL_w64 {a : List Int} {i n : Nat} (ha : W64 a) (hn : n ≤ 256) : W64 (layL a i n) := by
  unfold layL
  split
  · exact ha
  · exact set_w64 (fillL_w64 ha) (word_wf (headE_ok.2 ⟨by omega, by omega, by omega, by omega, by omega, by omega, by omega, fun _ => ⟨rfl, rfl⟩⟩))

theorem ix_of_spot {a : List Int} (h : spotsE a = 0) {p : Spot → Bool} {j : Nat} {s : Spot} (hs : (spotsL a)[j]? = some s) (hp : p s = true) (hq : ∀ y, p y = true → y.loc = s.loc) : ixOf p (spotsL a) = j := by
  refine ixOf_some hs hp (fun y hy => ?_)
  cases hpy : p y
  · rfl
  · have he := hq y hpy
    have hr := spots_rise h
    rw [List.mem_take_iff_getElem] at hy
    obtain ⟨k, hk, rfl⟩ := hy
    obtain ⟨hi, rfl⟩ := List.getElem?_eq_some_iff.1 hs
    have := List.pairwise_iff_getElem.1 hr k j (by omega) hi (by omega)
    omega

set_option maxHeartbeats 400000 in
theorem gapTurns_bad (A : Option Addr) (n c : Nat) (a : List Int) (x r b t : Int) (f : Bool) (w : World) (hr : Reads w w.heap.size 1 A n (a.map (.int .u64))) (hnc : n ≤ c) (ha : ∀ x ∈ a, (Lit.int .u64 x).wf = true)
    (hbad : ¬ (headE r b t f = 0 ∧ f = false ∧ checkE a = 0 ∧ ∃ (i : Nat) (s : Spot), ixOf (pF x true) (spotsL a) = i ∧ (spotsL a)[i]? = some s ∧ 1 + r + b ≤ s.long)) :
    Calls Try.prog 8 #[.slice A n c, .int .i64 x, .agg #[.int .i64 r, .int .i64 b, .int .i64 t, .bool f]] w fun e w' => e = .returned (.bool true) ∧ Below w.heap.size w w' := by
  have H1 := Lib.hid (fun w hr => take_bad A n c a x r b t f w hr hnc ha hbad)
  have hba := below_new w (.cells #[.int .i64 r, .int .i64 b, .int .i64 t, .bool f] 47)
  have B0 := Blk.new w 47 #[.int .i64 r, .int .i64 b, .int .i64 t, .bool f]
  clear hbad
  go_enter Try.func8, Try.ntmps8
  go_wp2_with fail
  refine (holes_true _).mono ?_
  rintro e w1 ⟨rfl, hb1⟩
  have hb01 := below_step hba hb1
  have D1 := B0.below hb1 B0.lt
  have k0 := D1.cell 0
  have k1 := D1.cell 1
  have k2 := D1.cell 2
  have k3 := D1.cell 3
  simp only [List.getElem?_toArray, List.getElem?_cons_zero, List.getElem?_cons_succ] at k0 k1 k2 k3
  go_wp2_with fail
  refine (H1.out _ ((hr.below hb01).more hb01.size)).mono ?_
  rintro e w2 ⟨⟨E, hE, rfl⟩, hb2⟩
  have hE1 : (E != 0) = true := by simpa using hE
  go_wp2
  go_ret
  exact ⟨rfl, below_step hb01 hb2⟩

set_option maxRecDepth 100000 in
set_option maxHeartbeats 4000000 in
theorem gapTurns_ok (A : Option Addr) (n c : Nat) (a : List Int) (x r b t : Int) (i : Nat) (s : Spot) (w : World) (hr : Reads w w.heap.size 1 A n (a.map (.int .u64))) (hnc : n ≤ c) (ha : ∀ x ∈ a, (Lit.int .u64 x).wf = true)
    (hE : headE r b t false = 0) (hC : checkE a = 0) (hix : ixOf (pF x true) (spotsL a) = i) (hs : (spotsL a)[i]? = some s) (hxs : s.loc = x) (hfs : s.f = true) (hk : 1 + r + b ≤ s.long) :
    Calls Try.prog 8 #[.slice A n c, .int .i64 x, .agg #[.int .i64 r, .int .i64 b, .int .i64 t, .bool false]] w fun e w' => e = .returned (.bool true) ∧ Below w.heap.size w w' := by
  have H1 := fun w hr => take_good A n c a x r b t i s w hr hnc ha hE hC hix hs hxs hfs hk
  have T := take_ok hC hs hfs hE hk
  have hal : a.length = n := by have := hr.1; simpa using this
  have hlen := (parse_ok (checkE_ok.1 hC).1).1
  have hok := (parse_mem (parse_ok (checkE_ok.1 hC).1).2 s (List.mem_of_getElem? hs)).1
  have hl0 := hok.loc0
  have hsf := hok.fit256
  have hh := headE_ok.1 hE
  have hwb : W64 (takeL a s.loc.toNat s.long.toNat (1 + r + b).toNat (wordOf r b t false)) := by
    unfold takeL
    exact layL_w64 (set_w64 (fillL_w64 ha) (word_wf hE)) (by omega)
  have hwc : W64 (layL (takeL a s.loc.toNat s.long.toNat (1 + r + b).toNat (wordOf r b t false)) s.loc.toNat (1 + r + b).toNat) := layL_w64 hwb (by omega)
  have H5 := fun w hr => ggapsE_any A n c a w hr hnc ha
  have H7 := fun w hr => gjoin_ok A n c a w hr hnc ha hC
  have hgga : ggL a = gapsL (spotsL a) := by unfold ggL; rw [if_pos hC]
  rw [hC, hgga] at H5
  obtain ⟨L, hL⟩ : ∃ L : Nat, s.loc = L := ⟨s.loc.toNat, by omega⟩
  rw [hL] at T H1 hwb hwc hxs
  rw [Int.toNat_natCast] at T H1 hwb hwc
  subst hxs
  generalize takeL a L s.long.toNat (1 + r + b).toNat (wordOf r b t false) = bb at *
  obtain ⟨kk, hkk⟩ : ∃ kk : Nat, kk = (1 + r + b).toNat := ⟨_, rfl⟩
  rw [← hkk] at T hwc
  have hgl : kk = (⟨L, r, b, t, false⟩ : Spot).long.toNat := by rw [hkk]; rfl
  generalize hcc : layL bb L kk = cc at *
  obtain ⟨t1, t2, ⟨j, t3⟩, t4, t5, t6, t7, t8, t9, t10⟩ := T
  obtain ⟨t41, t42⟩ := t4 _ rfl
  have hE2 := (checkE_ok.1 t2).1
  have hjx := ix_of_spot hE2 (p := fun s => s.loc == (L : Int)) t3 (by simp) (fun y hy => by simpa using hy)
  have hjf := ix_of_spot hE2 (p := pF L false) t3 (by simp [pF]) (fun y hy => by simp [pF] at hy; exact hy.1)
  have H2 := fun A' c' w hr hnc => at_ok A' n c' bb L j ⟨L, r, b, t, false⟩ w hr hnc hwb t2 (by unfold atIx; exact hjx) t3
  have H4 := fun A' c' w hr hnc => give_ok A' n c' bb L j ⟨L, r, b, t, false⟩ w hr hnc hwb t2 hjf t3 rfl rfl t5
  have hbok := (parse_mem (parse_ok hE2).2 _ (List.mem_of_getElem? t3)).1
  have hri : ∀ v ∈ refIx (spotsL bb) bb ⟨L, r, b, t, false⟩, v = -1 := by
    intro v hv
    unfold refIx at hv
    obtain ⟨u, hu, rfl⟩ := List.mem_map.1 hv
    rw [t41 u hu]
    rfl
  have hril := refIx_length (l := spotsL bb) hbok
  have hbol := bodyOf_length hbok
  generalize refIx (spotsL bb) bb ⟨L, r, b, t, false⟩ = RI at *
  generalize bodyOf bb ⟨L, r, b, t, false⟩ = BO at *
  dsimp only at *
  rw [Int.toNat_natCast, ← hgl, hcc] at H4
  have hggc : ggL cc = gapsL (spotsL a) := by unfold ggL; rw [if_pos t8, t9]
  have H6 := fun A' c' w hr hnc => ggapsE_any A' n c' cc w hr hnc hwc
  rw [hggc, t8] at H6
  have H8 := fun A' c' w hr hnc => gjoin_ok A' n c' cc w hr hnc hwc t8
  rw [t10] at H8
  have hGl : (gapsL (spotsL a)).length ≤ 256 := by have := gapsA_length [] false (spotsL a); have := spotsL_length a; unfold gapsL; simp only [List.length_nil] at *; omega
  generalize joinL a (gapsL (spotsL a)) = J at *
  generalize gapsL (spotsL a) = G at *
  obtain ⟨g, hg⟩ : ∃ g, g = G.length := ⟨_, rfl⟩
  rw [← hg] at H5 H6 hGl
  obtain ⟨rn, rfl⟩ : ∃ rn : Nat, r = rn := ⟨r.toNat, by omega⟩
  obtain ⟨bn, rfl⟩ : ∃ bn : Nat, b = bn := ⟨b.toNat, by omega⟩
  simp only [Int.toNat_natCast] at H2
  have H1 := Lib.hid H1
  have H2 := Lib.hid H2
  have H4 := Lib.hid H4
  have H5 := Lib.hid H5
  have H6 := Lib.hid H6
  have H7 := Lib.hid H7
  have H8 := Lib.hid H8
  have HRI := Lib.hid hri
  have HBO := Lib.hid t42
  have HG := Lib.hid hg
  have hba := below_new w (.cells #[.int .i64 rn, .int .i64 bn, .int .i64 t, .bool false] 47)
  have B0 := Blk.new w 47 #[.int .i64 rn, .int .i64 bn, .int .i64 t, .bool false]
  have hn : n ≤ 256 := by omega
  have hrn : rn ≤ 256 := by omega
  have hbn : bn ≤ 256 := by omega
  clear hE hC hix hs hfs hk hal hlen hok hl0 hsf hh hwb hwc hgga hL hkk hgl hcc t1 t2 t3 t5 t6 t7 t8 t9 t10 t41 t42 hE2 hjx hjf hbok hri hril hbol hggc hg
  go_enter Try.func8, Try.ntmps8
  go_wp2_with fail
  refine (holes_true _).mono ?_
  rintro e w1 ⟨rfl, hb1⟩
  have hb01 := below_step hba hb1
  have D1 := B0.below hb1 B0.lt
  have k0 := D1.cell 0
  have k1 := D1.cell 1
  have k2 := D1.cell 2
  have k3 := D1.cell 3
  simp only [List.getElem?_toArray, List.getElem?_cons_zero, List.getElem?_cons_succ] at k0 k1 k2 k3
  clear hba B0 hb1
  go_wp2_with fail
  refine (H1.out _ ((hr.below hb01).more hb01.size)).mono ?_
  rintro e w2 ⟨hb2, Ab, cb, rfl, hown2⟩
  have hrB := Reads.of_own hown2
  have hcb := own_cap hown2
  have hb02 := below_step hb01 hb2
  have D2 := D1.below hb2 D1.lt
  clear hown2 hb01 hb2 D1 k0 k1 k2 k3
  go_wp2_with fail
  refine (H2.out _ _ _ hrB hcb).mono ?_
  rintro e w3 ⟨hb3, B1, d1, B2, d2, rfl, ho1, ho2⟩
  have hb03 := below_step hb02 hb3
  have hbn3 := below_new w3 (.cells #[.int .i64 t, .slice B1 rn d1, .slice B2 bn d2, .bool false] 42)
  have O3 := Blk.new w3 42 #[.int .i64 t, .slice B1 rn d1, .slice B2 bn d2, .bool false]
  have D3 := (D2.below hb3 D2.lt).alloc (.cells #[.int .i64 t, .slice B1 rn d1, .slice B2 bn d2, .bool false] 42)
  have hrR := (Reads.of_own ho1).below hbn3
  have hrY := (Reads.of_own ho2).below hbn3
  have hrB3 := (((hrB.below hb3).more hb3.size).below hbn3).more hbn3.size
  have hb04 := below_step hb03 hbn3
  have k0 := D3.cell 0
  have k1 := D3.cell 1
  have k2 := D3.cell 2
  have o0 := O3.cell 0
  have o1 := O3.cell 1
  have o2 := O3.cell 2
  have o3 := O3.cell 3
  simp only [List.getElem?_toArray, List.getElem?_cons_zero, List.getElem?_cons_succ] at k0 k1 k2 o0 o1 o2 o3
  clear ho1 ho2 hb02 hb03 hb3 D2 D3 O3 hbn3 hrB
  go_wp2_with fail
  refine (containsZero_any B2 bn d2 _ BO _ hrY (by omega) HBO.out).mono ?_
  rintro e w4 ⟨rfl, rfl⟩
  go_wp2_with fail
  refine (containsNull_any B1 rn d1 _ RI _ hrR (by omega) HRI.out).mono ?_
  rintro e w4 ⟨rfl, rfl⟩
  clear k0 k1 k2 o0 o1 o2 o3 hrY hrR
  go_wp2_with fail
  refine (H4.out _ _ _ hrB3 hcb).mono ?_
  rintro e w5 ⟨hb5, Ac, c5, rfl, hown5⟩
  have hrC := Reads.of_own hown5
  have hcc := own_cap hown5
  have hb05 := below_step hb04 hb5
  have hra := (hr.below hb05).more hb05.size
  clear hown5 hb04 hb5 hrB3
  go_wp2_with fail
  refine (H5.out _ hra).mono ?_
  rintro e w6 ⟨hb6, A6, c6, rfl, hown6⟩
  have hrG := Reads.of_own hown6
  have hb06 := below_step hb05 hb6
  have hrC6 := (hrC.below hb6).more hb6.size
  have hra6 := (hra.below hb6).more hb6.size
  clear hown6 hb05 hb6 hrC hra
  go_wp2_with fail
  refine (H6.out _ _ _ hrC6 hcc).mono ?_
  rintro e w7 ⟨hb7, A7, c7, rfl, hown7⟩
  have hrH := Reads.of_own hown7
  have hb07 := below_step hb06 hb7
  have hrC7 := (hrC6.below hb7).more hb7.size
  have hra7 := (hra6.below hb7).more hb7.size
  have hrG7 := (hrG.below hb7).more hb7.size
  clear hown7 hb06 hb7 hrC6 hra6 hrG
  go_wp2_with fail
  refine (H7.out _ hra7).mono ?_
  rintro e w8 ⟨hb8, A8, c8, rfl, hown8⟩
  have hrJ := Reads.of_own hown8
  have hb08 := below_step hb07 hb8
  have hrC8 := (hrC7.below hb8).more hb8.size
  have hrG8 := (hrG7.below hb8).more hb8.size
  have hrH8 := (hrH.below hb8).more hb8.size
  clear hown8 hb07 hb8 hrC7 hra7 hrG7 hrH
  go_wp2_with fail
  refine (H8.out _ _ _ hrC8 hcc).mono ?_
  rintro e w9 ⟨hb9, A9, c9, rfl, hown9⟩
  have hrK := Reads.of_own hown9
  have hb09 := below_step hb08 hb9
  have hrG9 := (hrG8.below hb9).more hb9.size
  have hrH9 := (hrH8.below hb9).more hb9.size
  have hrJ9 := (hrJ.below hb9).more hb9.size
  have hE5 := reads_new w9 ([0, 0, 0, 0, 0].map (.int .i64)) 26 5 1 rfl
  clear hown9 hb08 hb9 hrC8 hrG8 hrH8 hrJ
  go_wp2_with fail
  refine (good_of _ 5 5 _ [0, 0, 0, 0, 0] true _ (by decide) (by simpa using hE5) (by decide)).mono ?_
  rintro e w10 ⟨rfl, rfl⟩
  clear hE5
  go_wp2_with fail
  refine (equal_run A6 A7 g c6 c7 _ _ G _ (hrG9.alloc (Nat.le_refl _) _) (hrH9.alloc (Nat.le_refl _) _) (by omega)).mono ?_
  rintro e w11 ⟨rfl, q, hq⟩
  have hb911 : Below w9.heap.size w9 w11 := by rw [hq]; exact below_drewN (below_new _ _) _
  clear hq
  go_wp2_with fail
  refine (equal_u64 A8 A9 n c8 n c9 _ _ J J _ (hrJ9.below hb911) (hrK.below hb911) (by omega) (by omega)).mono ?_
  rintro e w12 ⟨he, q2, hq2⟩
  obtain rfl : e = .returned (.bool true) := by rw [he, decide_eq_true rfl]
  have hb912 : Below w9.heap.size w9 w12 := by rw [hq2]; exact below_drewN hb911 _
  clear he hq2
  go_wp2
  go_ret
  exact ⟨rfl, below_step hb09 hb912⟩

theorem gapTurns_any (A : Option Addr) (n c : Nat) (a : List Int) (x r b t : Int) (f : Bool) (w : World) (hr : Reads w w.heap.size 1 A n (a.map (.int .u64))) (hnc : n ≤ c) (_ : c ≤ maxLen) (ha : ∀ x ∈ a, (Lit.int .u64 x).wf = true) (_ : (Lit.int .i64 x).wf = true) :
    Calls Try.prog 8 #[.slice A n c, .int .i64 x, .agg #[.int .i64 r, .int .i64 b, .int .i64 t, .bool f]] w fun e w' => e = .returned (.bool true) ∧ Below w.heap.size w w' := by
  by_cases h : headE r b t f = 0 ∧ f = false ∧ checkE a = 0 ∧ ∃ (i : Nat) (s : Spot), ixOf (pF x true) (spotsL a) = i ∧ (spotsL a)[i]? = some s ∧ 1 + r + b ≤ s.long
  · obtain ⟨h1, rfl, h3, i, s, h4, h5, h6⟩ := h
    rcases ixOf_cases (pF x true) (spotsL a) with ⟨h7, -⟩ | ⟨i2, s2, h7, h8, h9, -⟩
    · omega
    · have hi : i = i2 := by omega
      subst hi
      obtain rfl : s = s2 := Option.some.inj (h5.symm.trans h8)
      have h9' : s.loc = x ∧ s.f = true := by simpa [pF] using h9
      exact gapTurns_ok A n c a x r b t i s w hr hnc ha h1 h3 h4 h5 h9'.1 h9'.2 h6
  · exact gapTurns_bad A n c a x r b t f w hr hnc ha h

namespace GapTurns
open Go.ChangeShapes Go.WideShapes Go.ChangeAt Go.RowKit
theorem own : ownKnob Try.prog.godebug = none := by kernel_rfl
theorem laidOut : laidOutB Try.prog = true := by kernel_rfl

set_option maxRecDepth 100000 in
theorem lifted (os : Os) (started : os.Started) (H : Type) (enc : TypeId × Value → H) :
    ReturnsInHanded {} Try.checked os 8 .any (Rows.gapTurnsSpec.pre6 enc Try.prog Try.f8 Rows.gapTurnsRow.domain false) (Rows.gapTurnsSpec.post enc Try.prog Try.f8 false true false false) := by
  refine returnsInHanded_of_change (C := Try.checked) own started (by as_aux_lemma => kernel_rfl) Try.func8
    (ChangeSpec.witness6 (enc := enc) (C := Try.checked) false ⟨#[], #[.slice none 0 0, .int .i64 0, .agg #[.int .i64 0, .int .i64 0, .int .i64 0, .bool false]], []⟩ 8 (by as_aux_lemma => kernel_rfl) (by as_aux_lemma => kernel_rfl) (by as_aux_lemma => kernel_rfl) (by as_aux_lemma => kernel_rfl)) ?_
  intro W base args ds gs before hval0 hW hcnd _
  have hval : ∀ (j : Nat) t v, Try.f8.params[j]? = some t → args[j]? = some v → Value.okWide Try.prog W .any base t v := hval0
  have hW' := hW
  obtain ⟨p, q, hA0, hV, rfl, hfz, hnd⟩ := hW
  have hA : DataW.TrodAll enc Try.prog W 0 (fun _ => true) true Try.f8.params.toList args.toList ds p := hA0
  rw [Try.params8] at hA hval
  obtain ⟨v0, vs0, d0, ds0, p0, q0, hargs, rfl, rfl, h0, hA⟩ := trodAll_cons hA
  obtain ⟨v1, vs1, d1, ds1, p1, q1, rfl, rfl, rfl, h1, hA⟩ := trodAll_cons hA
  obtain ⟨v2, vs2, d2, ds2, p2, q2, rfl, rfl, rfl, h2, hA⟩ := trodAll_cons hA
  obtain ⟨rfl, rfl, rfl⟩ := trodAll_nil hA
  obtain rfl : args = #[v0, v1, v2] := by cases args; simp_all
  obtain ⟨A0, n0, c0, xs0, rfl, hnc0, hc0, hr0, hx0⟩ := open_nums Try.underlying25 Try.underlying29 (by as_aux_lemma => kernel_rfl) (hval 0 _ v0 rfl rfl) (fun x hx => hW'.lt x (by simp [hx])) h0
  obtain ⟨i1, rfl, rfl, rfl, w1⟩ := open_int Try.underlying3 (hval 1 _ v1 rfl rfl) h1
  obtain ⟨r2, b2, t2, f2, rfl⟩ := open_head (P := Try.prog) Try.underlying47 (by as_aux_lemma => kernel_rfl) (by as_aux_lemma => kernel_rfl) Try.underlying3 Try.underlying4 (hval 2 _ v2 rfl rfl) h2
  refine (gapTurns_any A0 n0 c0 xs0 i1 r2 b2 t2 f2 W hr0 hnc0 hc0 hx0 w1).mono fun e W' ⟨he, hb⟩ => ?_
  subst he
  exact ⟨_, rfl, law_post laidOut Try.underlying4 rfl (by as_aux_lemma => kernel_rfl) rfl rfl hW' hb⟩

set_option maxHeartbeats 10000000 in
theorem closed : joinedFacts Try.prog 8 Try.f8 Rows.gapTurnsSpec Rows.gapTurnsRow = true := by
  unfold joinedFacts
  simp only [Bool.and_eq_true]
  repeat' apply And.intro
  all_goals as_aux_lemma => kernel_rfl

set_option maxHeartbeats 1000000 in
theorem proved : Rows.GapTurnsSaid :=
  OpenClaim.holds_of_wide 8 Try.f8 rfl rfl rfl rfl rfl rfl rfl ⟨rfl, rfl, rfl, rfl, rfl⟩ rfl rfl rfl rfl rfl (by as_aux_lemma => kernel_rfl) Try.func8 closed
    (of_decide_eq_true (by as_aux_lemma => kernel_rfl)) (by unfold Func.isWrapper; first | (rw [if_pos (by decide +kernel)]; kernel_rfl) | (rw [if_neg (by decide +kernel)]; exact ⟨rfl, rfl⟩))
    (fun os started H enc _ => lifted os started H enc)
end GapTurns
end Go.Proofs.Ytdlmnnibgpfdbaa
