/-
  GapJoins answers true for every arena, and changes no argument: Join leaves the gaps unchanged, makes each of them one object, and changes nothing else. No condition.
-/
import Derived.Test.YtdlmnnibgpfdbaaGapJoin
import Derived.Test.YtdlmnnibgpfdbaaSlicesRun
import Derived.Test.YtdlmnnibgpfdbaaSlices
import Derived.Test.YtdlmnnibgpfdbaaGood
import Derived.Test.YtdlmnnibgpfdbaaLaw
import Derived.StillTailTactics
namespace Go.Proofs.Ytdlmnnibgpfdbaa
open Go.RowKit

theorem layL_wf {a : List Int} {i n : Nat} (ha : ∀ x ∈ a, (Lit.int .u64 x).wf = true) (hn : n ≤ 256) : ∀ x ∈ layL a i n, (Lit.int .u64 x).wf = true := by
  intro x hx
  unfold layL at hx
  split at hx
  · exact ha x hx
  · rename_i h0
    rcases List.mem_or_eq_of_mem_set hx with h | rfl
    · unfold fillL at h
      rcases List.mem_append.1 h with h | h
      · rcases List.mem_append.1 h with h | h
        · exact ha x (List.mem_of_mem_take h)
        · obtain rfl := (List.mem_replicate.1 h).2
          decide
      · exact ha x (List.mem_of_mem_drop h)
    · have hE : headE 0 ((n : Int) - 1) 0 true = 0 := headE_ok.2 ⟨by omega, by omega, by omega, by omega, by omega, by omega, by omega, fun _ => ⟨rfl, rfl⟩⟩
      obtain ⟨-, -, -, -, -, w0, w1⟩ := rdw_word 0 ((n : Int) - 1) 0 true hE
      simp [Lit.wf, IntKind.min, IntKind.max, IntKind.signed, IntKind.bits]
      omega
theorem joinL_wf : ∀ (l : List Rn) (a : List Int), (∀ x ∈ a, (Lit.int .u64 x).wf = true) → (∀ r ∈ l, r.len ≤ 256) → ∀ x ∈ joinL a l, (Lit.int .u64 x).wf = true := by
  intro l
  induction l with
  | nil => intro a ha _; exact ha
  | cons r l ih =>
    intro a ha hl
    have := hl r List.mem_cons_self
    exact ih _ (layL_wf ha (by omega)) (fun s hs => hl s (List.mem_cons_of_mem _ hs))

def pIn (k : Nat) (r : Rn) : Bool := decide (r.loc ≤ (k : Int)) && decide ((k : Int) - r.loc < r.len)

set_option maxHeartbeats 400000 in
theorem in_any (r : Rn) (k : Nat) (w : World) (h0 : 0 ≤ r.loc) (hk : k ≤ 256) :
    Calls Try.prog 32 #[.agg #[.int .i64 r.loc, .int .i64 r.len], .int .i64 k] w fun e w' => e = .returned (.bool (pIn k r)) ∧ Below w.heap.size w w' := by
  obtain ⟨l, n⟩ := r
  unfold pIn
  dsimp only at *
  by_cases h1 : l ≤ (k : Int)
  · have w1 : IntKind.i64.wrap ((k : Int) - l) = (k : Int) - l := IntWalk.i64_in _ (by omega)
    go_enter Try.func32, Try.ntmps32
    go_wp2
    go_ret
    exact ⟨by simp [h1], below_new _ _⟩
  · rw [decide_eq_false h1, Bool.false_and]
    go_enter Try.func32, Try.ntmps32
    go_wp2
    go_ret
    exact ⟨rfl, below_new _ _⟩

set_option maxHeartbeats 400000 in
theorem inClosure_any (g : Nat) (k : Nat) (r : Rn) (w : World) (h0 : 0 ≤ r.loc) (hk : k ≤ 256) (hg : g < w.heap.size) (hc : w.cell? ⟨g, 0, none⟩ = some (.int .i64 k)) :
    Calls Try.prog 31 #[.agg #[.int .i64 r.loc, .int .i64 r.len], .pointer (some ⟨g, 0, none⟩)] w fun e w' => e = .returned (.bool (pIn k r)) ∧ Below w.heap.size w w' := by
  have H := Lib.hid (fun w => in_any r k w h0 hk)
  have hc' : ∀ o, (w.alloc o).cell? ⟨g, 0, none⟩ = some (.int .i64 k) := fun o => by rw [World.cell?_alloc_lt _ _ _ (by exact hg)]; exact hc
  obtain ⟨l, n⟩ := r
  dsimp only at *
  generalize pIn k ⟨l, n⟩ = b at *
  go_enter Try.func31, Try.ntmps31
  go_wp2_with fail
  refine (H.out _).mono ?_
  rintro e w1 ⟨rfl, hb1⟩
  go_wp2
  go_ret
  exact ⟨rfl, below_step (below_new _ _) hb1⟩

set_option maxHeartbeats 400000 in
theorem gapJoins_bad (A : Option Addr) (n c : Nat) (a : List Int) (w : World) (hr : Reads w w.heap.size 1 A n (a.map (.int .u64))) (hnc : n ≤ c) (ha : ∀ x ∈ a, (Lit.int .u64 x).wf = true) (hE : checkE a ≠ 0) :
    Calls Try.prog 7 #[.slice A n c] w fun e w' => e = .returned (.bool true) ∧ Below w.heap.size w w' := by
  have H1 := Lib.hid (fun w hr => ggapsE_any A n c a w hr hnc ha)
  have H2 := Lib.hid (fun w hr => gjoin_bad A n c a w hr hnc ha hE)
  have hg : ggL a = [] := by unfold ggL; rw [if_neg hE]
  rw [hg] at H1
  generalize checkE a = E at *
  have hE1 : (E != 0) = true := by simpa using hE
  have hE2 : (E == E) = true := by simp
  clear hE
  go_enter Try.func7, Try.ntmps7
  go_wp2_with (go_at_call 20; refine (holes_true _).mono ?_; rintro e w1 ⟨rfl, hb1⟩)
  go_wp2_with fail
  refine (H1.out _ ((hr.below hb1).more hb1.size)).mono ?_
  rintro e w2 ⟨hb2, A', c', rfl, -⟩
  have hb02 := below_step hb1 hb2
  go_wp2_with fail
  refine (H2.out _ ((hr.below hb02).more hb02.size)).mono ?_
  rintro e w3 ⟨rfl, hb3⟩
  go_wp2
  go_ret
  exact ⟨rfl, below_step hb02 hb3⟩

theorem any_false {α : Type} {p : α → Bool} {l : List α} (h : l.any p = false) : ∀ x ∈ l, p x = false := fun x hx => by
  cases hp : p x
  · rfl
  · rw [List.any_eq_true.2 ⟨x, hx, hp⟩] at h; cases h

set_option maxRecDepth 100000 in
set_option maxHeartbeats 2000000 in
theorem gapJoins_ok (A : Option Addr) (n c : Nat) (a : List Int) (w : World) (hr : Reads w w.heap.size 1 A n (a.map (.int .u64))) (hnc : n ≤ c) (ha : ∀ x ∈ a, (Lit.int .u64 x).wf = true) (hE : checkE a = 0) :
    Calls Try.prog 7 #[.slice A n c] w fun e w' => e = .returned (.bool true) ∧ Below w.heap.size w w' := by
  have H1 := fun w hr => ggapsE_any A n c a w hr hnc ha
  have H2 := fun w hr => gjoin_ok A n c a w hr hnc ha hE
  have hJ := join_ok hE
  have hgg : ggL a = gapsL (spotsL a) := by unfold ggL; rw [if_pos hE]
  have hal : a.length = n := by have := hr.1; simpa using this
  have hn : n ≤ 256 := by have := (parse_ok (checkE_ok.1 hE).1).1; omega
  have hGl : (gapsL (spotsL a)).length ≤ 256 := by have := gapsA_length [] false (spotsL a); have := spotsL_length a; unfold gapsL; simp only [List.length_nil] at *; omega
  rw [hgg, hE] at H1
  obtain ⟨b, hb⟩ : ∃ b, b = joinL a (gapsL (spotsL a)) := ⟨_, rfl⟩
  have hbw : ∀ x ∈ b, (Lit.int .u64 x).wf = true := by
    rw [hb]
    refine joinL_wf _ _ ha (fun r hr => ?_)
    obtain ⟨i, m, rfl, -, h⟩ := hJ.runs r hr
    dsimp only
    omega
  rw [← hb] at hJ H2
  generalize gapsL (spotsL a) = G at *
  obtain ⟨j1, j2, j3, j4, j5, j6, j7⟩ := hJ
  have hbn : b.length = n := by omega
  have hgb : ggL b = G := by unfold ggL; rw [if_pos j2, j3]
  have H3 := fun A' c' w hr hnc => ggapsE_any A' n c' b w hr hnc hbw
  rw [hgb, j2] at H3
  have H4 := fun A' c' w hr => spots_any A' n c' b w hr hbw
  rw [(checkE_ok.1 j2).1] at H4
  have H5 := fun A' c' w hr hnc => gjoin_ok A' n c' b w hr hnc hbw j2
  rw [j3, j4] at H5
  have H6 := fun A' c' w hr hnc => checkFn_any A' n c' b w hr hnc hbw
  rw [j2] at H6
  have hSl := spotsL_length b
  generalize spotsL b = S at *
  obtain ⟨k, hk⟩ : ∃ k, k = G.length := ⟨_, rfl⟩
  obtain ⟨m, hm⟩ : ∃ m, m = S.length := ⟨_, rfl⟩
  rw [← hk] at H1 H3 hGl j5
  rw [← hm] at H4 hSl
  have H1 := Lib.hid H1
  have H2 := Lib.hid H2
  have H3 := Lib.hid H3
  have H4 := Lib.hid H4
  have H5 := Lib.hid H5
  have H6 := Lib.hid H6
  have J5 := Lib.hid j5
  have J6 := Lib.hid j6
  have J7 := Lib.hid j7
  have HM := Lib.hid hm
  have HAL := Lib.hid hal
  have HBN := Lib.hid hbn
  clear hgg hgb j1 j2 j3 j4 j5 j6 j7 hE hb hal hbn hbw hk hm
  go_enter Try.func7, Try.ntmps7
  go_wp2_with (go_at_call 20; refine (holes_true _).mono ?_; rintro e w1 ⟨rfl, hb1⟩)
  go_wp2_with fail
  refine (H1.out _ ((hr.below hb1).more hb1.size)).mono ?_
  rintro e w2 ⟨hb2, Ag, cg, rfl, hown2⟩
  have hrG := Reads.of_own hown2
  have hb02 := below_step hb1 hb2
  clear hown2 hb1 hb2
  go_wp2_with fail
  refine (H2.out _ ((hr.below hb02).more hb02.size)).mono ?_
  rintro e w3 ⟨hb3, Ab, cb, rfl, hown3⟩
  have hrB := Reads.of_own hown3
  have hcb := own_cap hown3
  have hrG3 := (hrG.below hb3).more hb3.size
  have hb03 := below_step hb02 hb3
  clear hown3 hb02 hb3 hrG
  go_wp2_with fail
  refine (H3.out _ _ _ hrB hcb).mono ?_
  rintro e w4 ⟨hb4, A4, c4, rfl, hown4⟩
  have hr4 := Reads.of_own hown4
  have hrB4 := (hrB.below hb4).more hb4.size
  have hrG4 := (hrG3.below hb4).more hb4.size
  have hb04 := below_step hb03 hb4
  clear hown4 hb03 hb4 hrB hrG3
  go_wp2_with fail
  refine (H4.out _ _ _ hrB4).mono ?_
  rintro e w5 ⟨hb5, A5, c5, rfl, hown5⟩
  have hrS := Reads.of_own hown5
  have hrB5 := (hrB4.below hb5).more hb5.size
  have hrG5 := (hrG4.below hb5).more hb5.size
  have hr5 := (hr4.below hb5).more hb5.size
  have hb05 := below_step hb04 hb5
  clear hown5 hb04 hb5 hrB4 hrG4 hr4
  go_wp2_with fail
  refine (H5.out _ _ _ hrB5 hcb).mono ?_
  rintro e w6 ⟨hb6, A6, c6, rfl, hown6⟩
  have hrC := Reads.of_own hown6
  have hrS6 := (hrS.below hb6).more hb6.size
  have hrB6 := (hrB5.below hb6).more hb6.size
  have hrG6 := (hrG5.below hb6).more hb6.size
  have hr6 := (hr5.below hb6).more hb6.size
  have hb06 := below_step hb05 hb6
  have hE3 := reads_new w6 ([0, 0, 0].map (.int .i64)) 26 3 1 rfl
  clear hown6 hb05 hb6 hrS hrB5 hrG5 hr5
  go_wp2_with fail
  refine (good_of _ 3 3 _ [0, 0, 0] true _ (by decide) (by simpa using hE3) (by decide)).mono ?_
  rintro e w7 ⟨rfl, rfl⟩
  clear hE3
  go_wp2_with fail
  refine (equal_run Ag A4 k cg c4 _ _ G _ (hrG6.alloc (Nat.le_refl _) _) (hr6.alloc (Nat.le_refl _) _) (by omega)).mono ?_
  rintro e w8 ⟨rfl, q, hq⟩
  have hb68 : Below w6.heap.size w6 w8 := by rw [hq]; exact below_drewN (below_new _ _) _
  clear hq hr6
  go_wp2_with fail
  refine (equal_u64 Ab A6 n cb n c6 _ _ b b _ (hrB6.below hb68) (hrC.below hb68) (by omega) (by omega)).mono ?_
  rintro e w9 ⟨he, q2, hq2⟩
  obtain rfl : e = .returned (.bool true) := by rw [he, decide_eq_true rfl]
  have hb69 : Below w6.heap.size w6 w9 := by rw [hq2]; exact below_drewN hb68 _
  have hb09 := below_step hb06 hb69
  have hrA9 := (hr.below hb09).more hb09.size
  have hrB9 := (hrB6.below hb69).more hb69.size
  have hrG9 := (hrG6.below hb69).more hb69.size
  have hrS9 := (hrS6.below hb69).more hb69.size
  clear hq2 he hb68 hrC hrB6 hrG6 hrS6 hb69 hb06
  go_wp2
  go_loopw [13, 15, 88] (fun cnt _ i wr => ∃ j q : Nat, j ≤ m ∧ i = .int .i64 j ∧ cnt = .int .i64 q ∧ q ≤ j ∧ Hid (q = ((S.take j).filter (·.f)).length) ∧ Below w9.heap.size w9 wr) (fun _ _ i _ => m - (intOf i).toNat)
  case atStart => exact ⟨0, 0, Nat.zero_le _, rfl, rfl, Nat.le_refl _, rfl, Below.refl _ _⟩
  case round =>
    obtain ⟨j, q, hj, rfl, rfl, hqj, hq, hb⟩ := hrel
    by_cases hlt : j < m
    · obtain ⟨ad, s, rfl, had, hs, c0, c1, c2, c3, c4⟩ := (hrS9.below hb).spot hlt
      have HT : Hid (S.take (j + 1) = S.take j ++ [s]) := by
        show _ = _
        obtain ⟨h1, rfl⟩ := List.getElem?_eq_some_iff.1 hs
        exact List.take_succ_eq_append_getElem h1
      clear hs
      obtain ⟨loc, r, b', t, f⟩ := s
      dsimp only at *
      have hb0 := hb.alloc hb.size (.cells #[.int .i64 loc, .int .i64 r, .int .i64 b', .int .i64 t, .bool f] 49)
      cases f
      · go_wp2
        go_roundw
        case rel => exact ⟨j + 1, q, by omega, by go_num, rfl, by omega, by show _ = _; rw [HT.out, List.filter_append, List.length_append, ← hq.out]; rfl, hb0⟩
        case measure => simp [intOf]; omega
      · go_wp2
        go_roundw
        case rel => exact ⟨j + 1, q + 1, by omega, by go_num, by go_num, by omega, by show _ = _; rw [HT.out, List.filter_append, List.length_append, ← hq.out]; rfl, hb0⟩
        case measure => simp [intOf]; omega
    · have hjm : j = m := by omega
      subst hjm
      rw [List.take_of_length_le (by rw [← HM.out]; exact Nat.le_refl _)] at hq
      obtain rfl : q = k := hq.out.trans J5.out
      clear hrS9 hq
      have hbA := below_step hb09 hb
      have hrA := (hrA9.below hb).more hb.size
      have hrB := (hrB9.below hb).more hb.size
      have hrG := (hrG9.below hb).more hb.size
      clear hrA9 hrB9 hrG9 hb09 hb
      obtain ⟨wo, hwo⟩ : ∃ x, x = wr := ⟨wr, rfl⟩
      subst hwo
      go_wp2
      go_loopw [16, 100] (fun _ i WX => ∃ j : Nat, j ≤ n ∧ i = .int .i64 j ∧ Below wo.heap.size wo WX) (fun _ i _ => n - (intOf i).toNat)
      case atStart => exact ⟨0, Nat.zero_le _, rfl, Below.refl _ _⟩
      case round =>
        obtain ⟨j, hj, rfl, hb⟩ := hrel
        by_cases hlt : j < n
        · obtain ⟨ad, x, rfl, had, hx, cx⟩ := (hrA.below hb).num hlt
          obtain ⟨adb, y, rfl, hadb, hy, cy⟩ := (hrB.below hb).num hlt
          have hb0 := hb.alloc hb.size (.cells #[.int .i64 j] 3)
          have B0 := Blk.new wr 3 #[.int .i64 j]
          have HC := Lib.hid (fun W (hW : Below (wr.alloc (.cells #[.int .i64 j] 3)).heap.size (wr.alloc (.cells #[.int .i64 j] 3)) W) => containsRun_any 31 (.pointer (some ⟨wr.heap.size, 0, none⟩)) Ag q cg _ G (pIn j) W ((hrG.below (hb0.trans (hW.mono hb0.size)))) (by have := hb0.size; have := hW.size; omega) (by omega) (plain_of (fn := Try.f31) Try.func31 (by kernel_rfl) (by kernel_rfl)) (fun w' s hb' hs => by
            obtain ⟨i, m, rfl, -, him⟩ := J7.out s hs
            have h1 := hW.size
            have h2 := hb'.size
            simp only [World.size_alloc] at h1
            exact inClosure_any wr.heap.size j _ w' (by dsimp only; omega) (by omega) (by omega) (((B0.below hW (by simp)).below hb' (by omega)).cell 0)))
          cases hin : G.any (pIn j)
          · have hab : b[j]? = a[j]? := by
              rcases J6.out j with h | ⟨r, hr, h1, h2⟩
              · exact h
              · have := any_false hin r hr
                unfold pIn at this
                rw [decide_eq_true h1, decide_eq_true h2] at this
                cases this
            rw [hx, hy] at hab
            obtain rfl : y = x := Option.some.inj hab
            rw [hin] at HC
            clear hin hab hx hy
            go_wp2
            have k00 : (wr.alloc (.cells #[.int .i64 j] 3)).cell? ⟨wr.heap.size, 0, none⟩ = some (.int .i64 j) := B0.cell 0
            have hwo := hb.size
            have a00 : (wr.alloc (.cells #[.int .i64 j] 3)).cell? (ad.add j) = some (.int .u64 y) := (World.cell?_alloc_lt _ _ _ (by rw [block_of_add]; omega)).trans cx
            have b00 : (wr.alloc (.cells #[.int .i64 j] 3)).cell? (adb.add j) = some (.int .u64 y) := (World.cell?_alloc_lt _ _ _ (by rw [block_of_add]; omega)).trans cy
            clear cx cy
            go_region_held3 (fun w' => w'.cell? ⟨wr.heap.size, 0, none⟩ = some (.int .i64 j) ∧ w'.cell? (ad.add j) = some (.int .u64 y) ∧ w'.cell? (adb.add j) = some (.int .u64 y)) (go_keep)
              (first
                | (go_at_call 30; refine (HC.out _ (Below.refl _ _).drew).mono ?_; rintro e w2 ⟨rfl, hb2⟩; have k0 : w2.cell? ⟨wr.heap.size, 0, none⟩ = some (.int .i64 j) := (B0.drew.below hb2 (by simp)).cell 0; have a0 := (hb2.cell (p := ad.add j) (by rw [block_of_add]; simp; omega)).trans a00; have b0 := (hb2.cell (p := adb.add j) (by rw [block_of_add]; simp; omega)).trans b00; have HB2 := Lib.hid hb2))
            have hbx := (hb0.drew).trans (HB2.out.mono hb0.size)
            go_wp2
            go_roundw
            case rel => exact ⟨j + 1, by omega, by go_num, hbx⟩
            case measure => simp [intOf]; omega
          · rw [hin] at HC
            clear hin hx hy
            have k00 : (wr.alloc (.cells #[.int .i64 j] 3)).cell? ⟨wr.heap.size, 0, none⟩ = some (.int .i64 j) := B0.cell 0
            go_wp2
            refine wp_region_held_drew (S := fun _ => True) (by kernel_rfl) trivial (fun hHeld => ?_)
            refine wpAnyH_take (i := 0) (v := .slice Ag q cg) (List.getElem?_toArray.trans rfl) (by kernel_rfl) (by kernel_rfl) (by kernel_rfl) (fun _ _ _ h => h) (Or.inl ⟨by rfl, fun w _ => by go_simp⟩) hHeld ?_
            try simp only [Act.put, List.setIfInBounds_toArray, List.set_cons_zero, List.set_cons_succ]
            refine wpAnyH_take (i := 1) (v := .func (.func 31) #[] #[.pointer (some ⟨wr.heap.size, 0, none⟩)]) (List.getElem?_toArray.trans rfl) (by kernel_rfl) (by kernel_rfl) (by kernel_rfl) (fun _ _ _ h => h) (Or.inl ⟨by rfl, fun w _ => by go_simp⟩) hHeld ?_
            try simp only [Act.put, List.setIfInBounds_toArray, List.set_cons_zero, List.set_cons_succ]
            refine wpAnyH_ready (rs := [2]) (by kernel_rfl) (by simp) (AllReadyH.cons (List.getElem?_toArray.trans rfl) (fun K hK => ?_) AllReadyH.nil)
            go_simp
            go_at_call 30
            refine (HC.out _ (Below.refl _ _).drew).mono ?_
            rintro e w2 ⟨rfl, hb2⟩
            have HB2 := Lib.hid hb2
            refine hK.out _ _ trivial (fun hHeld => ?_)
            clear hK K
            try simp only [Act.put, List.setIfInBounds_toArray, List.set_cons_zero, List.set_cons_succ]
            refine wpAnyH_take (i := 3) (v := .bool false) (List.getElem?_toArray.trans rfl) (by kernel_rfl) (by kernel_rfl) (by kernel_rfl) (fun _ _ _ h => h) (Or.inl ⟨by rfl, fun w _ => by go_simp⟩) hHeld ?_
            try simp only [Act.put, List.setIfInBounds_toArray, List.set_cons_zero, List.set_cons_succ]
            refine wpAnyH_take (i := 4) (v := .bool false) (List.getElem?_toArray.trans rfl) (by kernel_rfl) (by kernel_rfl) (by kernel_rfl) (fun _ _ _ h => h) (Or.inl ⟨by rfl, fun w _ => by go_simp⟩) hHeld ?_
            try simp only [Act.put, List.setIfInBounds_toArray, List.set_cons_zero, List.set_cons_succ]
            refine wpAnyH_take (i := 5) (v := undef) (List.getElem?_toArray.trans rfl) (by kernel_rfl) (by kernel_rfl) (by kernel_rfl) (fun _ _ _ h => h) (Or.inr ⟨by rfl, rfl⟩) hHeld ?_
            try simp only [Act.put, List.setIfInBounds_toArray, List.set_cons_zero, List.set_cons_succ]
            refine wpAnyH_take (i := 6) (v := undef) (List.getElem?_toArray.trans rfl) (by kernel_rfl) (by kernel_rfl) (by kernel_rfl) (fun _ _ _ h => h) (Or.inr ⟨by rfl, rfl⟩) hHeld ?_
            try simp only [Act.put, List.setIfInBounds_toArray, List.set_cons_zero, List.set_cons_succ]
            refine wpAnyH_take (i := 7) (v := undef) (List.getElem?_toArray.trans rfl) (by kernel_rfl) (by kernel_rfl) (by kernel_rfl) (fun _ _ _ h => h) (Or.inr ⟨by rfl, rfl⟩) hHeld ?_
            try simp only [Act.put, List.setIfInBounds_toArray, List.set_cons_zero, List.set_cons_succ]
            refine wpAnyH_take (i := 8) (v := undef) (List.getElem?_toArray.trans rfl) (by kernel_rfl) (by kernel_rfl) (by kernel_rfl) (fun _ _ _ h => h) (Or.inr ⟨by rfl, rfl⟩) hHeld ?_
            try simp only [Act.put, List.setIfInBounds_toArray, List.set_cons_zero, List.set_cons_succ]
            refine wpAnyH_take (i := 9) (v := undef) (List.getElem?_toArray.trans rfl) (by kernel_rfl) (by kernel_rfl) (by kernel_rfl) (fun _ _ _ h => h) (Or.inr ⟨by rfl, rfl⟩) hHeld ?_
            try simp only [Act.put, List.setIfInBounds_toArray, List.set_cons_zero, List.set_cons_succ]
            refine wpAnyH_take (i := 10) (v := undef) (List.getElem?_toArray.trans rfl) (by kernel_rfl) (by kernel_rfl) (by kernel_rfl) (fun _ _ _ h => h) (Or.inr ⟨by rfl, rfl⟩) hHeld ?_
            try simp only [Act.put, List.setIfInBounds_toArray, List.set_cons_zero, List.set_cons_succ]
            refine wpAnyH_take (i := 11) (v := undef) (List.getElem?_toArray.trans rfl) (by kernel_rfl) (by kernel_rfl) (by kernel_rfl) (fun _ _ _ h => h) (Or.inr ⟨by rfl, rfl⟩) hHeld ?_
            try simp only [Act.put, List.setIfInBounds_toArray, List.set_cons_zero, List.set_cons_succ]
            refine wpAnyH_take (i := 12) (v := undef) (List.getElem?_toArray.trans rfl) (by kernel_rfl) (by kernel_rfl) (by kernel_rfl) (fun _ _ _ h => h) (Or.inr ⟨by rfl, rfl⟩) hHeld ?_
            try simp only [Act.put, List.setIfInBounds_toArray, List.set_cons_zero, List.set_cons_succ]
            refine wpAnyH_take (i := 13) (v := undef) (List.getElem?_toArray.trans rfl) (by kernel_rfl) (by kernel_rfl) (by kernel_rfl) (fun _ _ _ h => h) (Or.inr ⟨by rfl, rfl⟩) hHeld ?_
            try simp only [Act.put, List.setIfInBounds_toArray, List.set_cons_zero, List.set_cons_succ]
            refine wpAnyH_take (i := 14) (v := .bool false) (List.getElem?_toArray.trans rfl) (by kernel_rfl) (by kernel_rfl) (by kernel_rfl) (fun _ _ _ h => h) (Or.inl ⟨by rfl, fun w _ => by go_simp⟩) hHeld ?_
            try simp only [Act.put, List.setIfInBounds_toArray, List.set_cons_zero, List.set_cons_succ]
            refine wpAnyH_done (by kernel_rfl) ?_ _
            all_goals
              have hbx := (hb0.drew).trans (HB2.out.mono hb0.size)
              go_wp2
              go_roundw
              case rel => exact ⟨j + 1, by omega, by go_num, hbx⟩
              case measure => simp [intOf]; omega
        · go_wp2_with fail
          refine (H6.out _ _ _ ((hrB.below hb).more hb.size) hcb).mono ?_
          rintro e w10 ⟨rfl, hb10⟩
          go_wp2
          go_ret
          exact ⟨by simp, below_step (below_step hbA hb) hb10⟩

theorem gapJoins_any (A : Option Addr) (n c : Nat) (a : List Int) (w : World) (hr : Reads w w.heap.size 1 A n (a.map (.int .u64))) (hnc : n ≤ c) (_ : c ≤ maxLen) (ha : ∀ x ∈ a, (Lit.int .u64 x).wf = true) :
    Calls Try.prog 7 #[.slice A n c] w fun e w' => e = .returned (.bool true) ∧ Below w.heap.size w w' := by
  by_cases hE : checkE a = 0
  · exact gapJoins_ok A n c a w hr hnc ha hE
  · exact gapJoins_bad A n c a w hr hnc ha hE

namespace GapJoins
open Go.ChangeShapes Go.WideShapes Go.ChangeAt Go.RowKit
theorem own : ownKnob Try.prog.godebug = none := by kernel_rfl
theorem laidOut : laidOutB Try.prog = true := by kernel_rfl

set_option maxRecDepth 100000 in
theorem lifted (os : Os) (started : os.Started) (H : Type) (enc : TypeId × Value → H) :
    ReturnsInHanded {} Try.checked os 7 .any (Rows.gapJoinsSpec.pre6 enc Try.prog Try.f7 Rows.gapJoinsRow.domain false) (Rows.gapJoinsSpec.post enc Try.prog Try.f7 false true false false) := by
  refine returnsInHanded_of_change (C := Try.checked) own started (by as_aux_lemma => kernel_rfl) Try.func7
    (ChangeSpec.witness6 (enc := enc) (C := Try.checked) false ⟨#[], #[.slice none 0 0], []⟩ 8 (by as_aux_lemma => kernel_rfl) (by as_aux_lemma => kernel_rfl) (by as_aux_lemma => kernel_rfl) (by as_aux_lemma => kernel_rfl)) ?_
  intro W base args ds gs before hval0 hW hcnd _
  have hval : ∀ (j : Nat) t v, Try.f7.params[j]? = some t → args[j]? = some v → Value.okWide Try.prog W .any base t v := hval0
  have hW' := hW
  obtain ⟨p, q, hA0, hV, rfl, hfz, hnd⟩ := hW
  have hA : DataW.TrodAll enc Try.prog W 0 (fun _ => true) true Try.f7.params.toList args.toList ds p := hA0
  rw [Try.params7] at hA hval
  obtain ⟨v0, vs0, d0, ds0, p0, q0, hargs, rfl, rfl, h0, hA⟩ := trodAll_cons hA
  obtain ⟨rfl, rfl, rfl⟩ := trodAll_nil hA
  obtain rfl : args = #[v0] := by cases args; simp_all
  obtain ⟨A0, n0, c0, xs0, rfl, hnc0, hc0, hr0, hx0⟩ := open_nums Try.underlying25 Try.underlying29 (by as_aux_lemma => kernel_rfl) (hval 0 _ v0 rfl rfl) (fun x hx => hW'.lt x (by simp [hx])) h0
  refine (gapJoins_any A0 n0 c0 xs0 W hr0 hnc0 hc0 hx0).mono fun e W' ⟨he, hb⟩ => ?_
  subst he
  exact ⟨_, rfl, law_post laidOut Try.underlying4 rfl (by as_aux_lemma => kernel_rfl) rfl rfl hW' hb⟩

set_option maxHeartbeats 10000000 in
theorem closed : joinedFacts Try.prog 7 Try.f7 Rows.gapJoinsSpec Rows.gapJoinsRow = true := by
  unfold joinedFacts
  simp only [Bool.and_eq_true]
  repeat' apply And.intro
  all_goals as_aux_lemma => kernel_rfl

set_option maxHeartbeats 1000000 in
theorem proved : Rows.GapJoinsSaid :=
  OpenClaim.holds_of_wide 7 Try.f7 rfl rfl rfl rfl rfl rfl rfl ⟨rfl, rfl, rfl, rfl, rfl⟩ rfl rfl rfl rfl rfl (by as_aux_lemma => kernel_rfl) Try.func7 closed
    (of_decide_eq_true (by as_aux_lemma => kernel_rfl)) (by unfold Func.isWrapper; first | (rw [if_pos (by decide +kernel)]; kernel_rfl) | (rw [if_neg (by decide +kernel)]; exact ⟨rfl, rfl⟩))
    (fun os started H enc _ => lifted os started H enc)
end GapJoins
end Go.Proofs.Ytdlmnnibgpfdbaa
