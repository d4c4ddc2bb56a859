/-
  package spot: Set.
-/
import Derived.Test.YtbmkbnalembbjaaDoorSpotFn2
import Derived.Test.YtbmkbnalembbjaaDoorWord
namespace Go.Proofs.YtbmkbnalembbjaaDoor
open Go.RowKit

set_option maxHeartbeats 1000000 in
theorem mSet_bad (A : Option Addr) (n c B : Nat) (m : List Int) (z a l : Int) (on : Bool) (w : World) (hr : Reads w B 1 A n (m.map (.int .u64))) (hn : n ≤ 9223372036854775807) (hm : U64s m) (hE : mstE m z a l ≠ 0) :
    Calls Tryd.prog 31 #[.slice A n c, .int .i64 z, .int .i64 a, .int .i64 l, .bool on] w fun e w' => e = .returned (.tuple #[.slice none 0 0, .int .i64 (mstE m z a l)]) ∧ w' = w := by
  have H := mstretch_any A n c B m z a l w hr hn hm
  generalize mstE m z a l = E at *
  have hE1 : (E != 0) = true := by simpa using hE
  have H := Lib.hid H
  clear hE hm
  go_enter Tryd.func31, Tryd.ntmps31
  go_wp2_with fail
  refine H.out.mono ?_
  rintro e w' ⟨rfl, rfl⟩
  go_wp2
  go_ret2
  exact ⟨rfl, rfl⟩

theorem mk_set {m : List Int} {i Z : Nat} (hi : i < m.length) (j : Nat) : mk (m.set i (Z : Int)) j = if j / 64 = i then Z.testBit (j % 64) else mk m j := by
  unfold mk
  rw [List.getD_eq_getElem?_getD, List.getD_eq_getElem?_getD, List.getElem?_set]
  by_cases h : i = j / 64
  · subst h
    rw [if_pos rfl, if_pos hi, if_pos rfl]
    rfl
  · rw [if_neg h, if_neg (fun e => h e.symm)]

set_option maxRecDepth 100000 in
set_option maxHeartbeats 2000000 in
theorem mSet_ok (A : Option Addr) (n c : Nat) (m : List Int) (N K L : Nat) (on : Bool) (w : World) (hr : Reads w w.heap.size 1 A n (m.map (.int .u64))) (hm : U64s m) (hE : mstE m N K L = 0) :
    Calls Tryd.prog 31 #[.slice A n c, .int .i64 N, .int .i64 K, .int .i64 L, .bool on] w fun e w' => Below w.heap.size w w' ∧ ∃ A' c' m', e = .returned (.tuple #[.slice A' n c', .int .i64 0]) ∧ w'.ownsRow w.heap.size 41 1 (.slice A' n c') n (m'.map (.int .u64)) ∧
      m'.length = m.length ∧ U64s m' ∧ ∀ j, mk m' j = if K ≤ j ∧ j < K + L then on else mk m j := by
  have hl : m.length = n := by have := hr.1; simpa using this
  obtain ⟨N', K', L', h1, h2, h3, hN, hlen, -, hKL, -⟩ := mstE_ok hE
  obtain rfl : N = N' := by omega
  obtain rfl : K = K' := by omega
  obtain rfl : L = L' := by omega
  have hn : n = (N + 63) / 64 := by omega
  have H := mstretch_any A n c w.heap.size m N K L w hr (by omega) hm
  rw [hE] at H
  have H := Lib.hid H
  have HCl := Lib.hid (clone_u64 A n c w.heap.size (m.map (.int .u64)) w hr (Nat.le_refl _) (u64s_one m) (by omega))
  have HL := Lib.hid hl
  have HN := Lib.hid hn
  have HM := Lib.hid hm
  have ws : IntKind.i64.wrap ((K : Int) + L) = (K : Int) + L := IntWalk.i64_in _ (by omega)
  clear hE h1 h2 h3 hl hlen hn hm
  go_enter Tryd.func31, Tryd.ntmps31
  go_wp2_with fail
  refine H.out.mono ?_
  rintro e w' ⟨rfl, rfl⟩
  go_wp2_with fail
  refine HCl.out.mono ?_
  rintro e w2 ⟨A2, c2, rfl, hown2, hb2⟩
  go_wp2
  go_loopw [14, 15] (fun i _ wr => ∃ (k : Nat) (cur : List Int), K ≤ k ∧ k ≤ K + L ∧ i = .int .i64 k ∧ Hid (cur.length = m.length) ∧ Hid (U64s cur) ∧ Hid (∀ j, mk cur j = if K ≤ j ∧ j < k then on else mk m j) ∧
    wr.ownsRow w'.heap.size 41 1 (.slice A2 n c2) n (cur.map (.int .u64)) ∧ Below w'.heap.size w' wr) (fun i _ _ => 512 - (intOf i).toNat)
  case atStart => exact ⟨K, m, Nat.le_refl _, by omega, rfl, rfl, HM.out, (fun j => by rw [if_neg (by omega)]), hown2, hb2⟩
  case round =>
    obtain ⟨k, cur, hk0, hk1, rfl, hcl, hcw, hcm, hown, hb⟩ := hrel
    by_cases hlt : k < K + L
    · have hlt2 : (k : Int) < (K : Int) + L := by omega
      have hkn : k / 64 < n := by have := HN.out; omega
      have hl2 : cur.length = n := hcl.out.trans HL.out
      obtain ⟨g, cap, hv, hg, -⟩ := hown.form (by omega)
      obtain ⟨rfl, rfl⟩ : A2 = some ⟨g, 0, none⟩ ∧ c2 = cap := by simpa using hv
      have hF0 := hown.frozenAt (k / 64)
      have hc0 := hown.cellAt (k / 64) (by omega)
      rw [List.getElem?_map, List.getElem?_eq_getElem (by omega)] at hc0
      obtain ⟨x, hx⟩ : ∃ x, x = cur[k / 64]'(by omega) := ⟨_, rfl⟩
      have hwf := hcw.out x (by rw [hx]; exact List.getElem_mem _)
      have hx0 : 0 ≤ x ∧ x < 18446744073709551616 := by simp [Lit.wf, IntKind.min, IntKind.max, IntKind.signed, IntKind.bits] at hwf; omega
      have hc1 : wr.cell? ⟨g, k / 64, none⟩ = some (.int .u64 x) := by rw [hc0, hx]; rfl
      have hxs : cur[k / 64]? = some x := by rw [hx]; exact List.getElem?_eq_getElem _
      obtain ⟨X, rfl⟩ : ∃ X : Nat, x = X := ⟨x.toNat, by omega⟩
      have HB : Hid (∀ j, j / 64 = k / 64 → mk cur j = X.testBit (j % 64)) := fun j hj => mk_word (by rw [hj]; exact hxs)
      obtain ⟨P, hP⟩ : ∃ P : Nat, P = 2 ^ (k % 64) := ⟨_, rfl⟩
      have hP64 : P < 2 ^ 64 := by rw [hP]; exact Nat.pow_lt_pow_right (by decide) (by omega)
      have e1 : IntKind.u64.wrap ((2 : Int) ^ (k % 64)) = (P : Int) := by
        have h9 : ((2 : Int) ^ (k % 64)) = (P : Int) := by rw [hP]; simp
        rw [h9]
        simp [IntKind.wrap, IntKind.bits, IntKind.signed]
        omega
      obtain ⟨Y, hY⟩ : ∃ Y : Nat, Y = X ||| P := ⟨_, rfl⟩
      have e2 : bits .or .u64 (X : Int) (P : Int) = (Y : Int) := by rw [u64_or _ _ (by omega) (by omega) (by omega) (by omega), Int.toNat_natCast, Int.toNat_natCast, hY]
      have hX64 : X < 2 ^ 64 := by omega
      have hY64 : Y < 2 ^ 64 := by rw [hY]; exact Nat.or_lt_two_pow hX64 hP64
      have hYb : ∀ i, Y.testBit i = (X.testBit i || decide (k % 64 = i)) := fun i => by rw [hY, Nat.testBit_or, hP, Nat.testBit_two_pow]
      obtain ⟨Z, hZ⟩ : ∃ Z : Nat, Z = Y ^^^ P := ⟨_, rfl⟩
      have e3 : bits .xor .u64 (Y : Int) (P : Int) = (Z : Int) := by rw [u64_xor _ _ (by omega) (by omega) (by omega) (by omega), Int.toNat_natCast, Int.toNat_natCast, hZ]
      have hZ64 : Z < 2 ^ 64 := by rw [hZ]; exact Nat.xor_lt_two_pow hY64 hP64
      have hZb : ∀ i, Z.testBit i = (X.testBit i && !decide (k % 64 = i)) := fun i => by
        rw [hZ, Nat.testBit_xor, hYb, hP, Nat.testBit_two_pow]
        cases X.testBit i <;> cases decide (k % 64 = i) <;> rfl
      have HKW : Hid (∀ V : Nat, V < 2 ^ 64 → U64s (cur.set (k / 64) (V : Int))) := fun V hV x hx => by
        rcases List.mem_or_eq_of_mem_set hx with h | rfl
        · exact hcw.out x h
        · simp [Lit.wf, IntKind.min, IntKind.max, IntKind.signed, IntKind.bits]; omega
      have HKM : Hid (∀ V : Nat, (∀ i, V.testBit i = if k % 64 = i then on else X.testBit i) → ∀ j, mk (cur.set (k / 64) (V : Int)) j = if K ≤ j ∧ j < k + 1 then on else mk m j) := fun V hV j => by
        rw [mk_set (by omega)]
        by_cases hj : j / 64 = k / 64
        · rw [if_pos hj, hV]
          by_cases hjk : k % 64 = j % 64
          · have : j = k := by omega
            subst this
            rw [if_pos rfl, if_pos (by omega)]
          · rw [if_neg hjk, ← HB.out j hj, hcm.out j]
            by_cases h : K ≤ j ∧ j < k
            · rw [if_pos h, if_pos (by omega)]
            · rw [if_neg h, if_neg (by intro h2; have : j = k := by omega
                                       subst this; exact hjk rfl)]
        · rw [if_neg hj, hcm.out j]
          by_cases h : K ≤ j ∧ j < k
          · rw [if_pos h, if_pos (by omega)]
          · rw [if_neg h, if_neg (by intro h2; have : j = k := by omega
                                     subst this; exact hj rfl)]
      have HO := Lib.hid hown
      have hgw : w'.heap.size ≤ g := hg
      cases on
      · have HZ2 : Hid (∀ i, Z.testBit i = if k % 64 = i then false else X.testBit i) := fun i => by
          rw [hZb]
          by_cases h : k % 64 = i
          · rw [if_pos h, decide_eq_true h]; cases X.testBit i <;> rfl
          · rw [if_neg h, decide_eq_false h]; cases X.testBit i <;> rfl
        have HZ := Lib.hid hZ64
        clear hv hc0 hx hwf hxs hP hP64 hY hZ hYb hZb hX64 hY64 hZ64 hown hl2
        go_wp2
        have s1 := (HO.out.stored (k / 64) (.int .u64 (Y : Int))).1
        have s2 := (s1.stored (k / 64) (.int .u64 (Z : Int))).1
        rw [List.set_set, ← List.map_set] at s2
        have hbx := (hb.setCell (p := ⟨g, k / 64, none⟩) hgw (.int .u64 (Y : Int))).setCell (p := ⟨g, k / 64, none⟩) hgw (.int .u64 (Z : Int))
        go_roundw
        case rel => exact ⟨k + 1, cur.set (k / 64) (Z : Int), by omega, by omega, by go_num, by show _ = _; rw [List.length_set]; exact hcl.out, HKW.out Z HZ.out, HKM.out Z HZ2.out, s2, hbx⟩
        case measure => simp [intOf]; omega
      · have HY2 : Hid (∀ i, Y.testBit i = if k % 64 = i then true else X.testBit i) := fun i => by
          rw [hYb]
          by_cases h : k % 64 = i
          · rw [if_pos h, decide_eq_true h]; cases X.testBit i <;> rfl
          · rw [if_neg h, decide_eq_false h]; cases X.testBit i <;> rfl
        have HYY := Lib.hid hY64
        clear hv hc0 hx hwf hxs hP hP64 hY hZ hYb hZb hX64 hY64 hZ64 hown hl2
        go_wp2
        have s1 := (HO.out.stored (k / 64) (.int .u64 (Y : Int))).1
        rw [← List.map_set] at s1
        have hbx := hb.setCell (p := ⟨g, k / 64, none⟩) hgw (.int .u64 (Y : Int))
        go_roundw
        case rel => exact ⟨k + 1, cur.set (k / 64) (Y : Int), by omega, by omega, by go_num, by show _ = _; rw [List.length_set]; exact hcl.out, HKW.out Y HYY.out, HKM.out Y HY2.out, s1, hbx⟩
        case measure => simp [intOf]; omega
    · have hkk : k = K + L := by omega
      go_wp2
      go_ret2
      exact ⟨hb, _, _, cur, rfl, hown, hcl.out, hcw.out, fun j => by rw [hcm.out j, hkk]⟩
end Go.Proofs.YtbmkbnalembbjaaDoor
