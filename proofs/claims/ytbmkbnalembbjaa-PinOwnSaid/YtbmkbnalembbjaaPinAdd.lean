/-
  package pin: find, Many, Add, Drop.
-/
import Derived.Test.YtbmkbnalembbjaaPinLaw
import Derived.Test.YtbmkbnalembbjaaSlicesPin
import Derived.Test.YtbmkbnalembbjaaInsertPin
import Derived.Test.YtbmkbnalembbjaaDeletePin
namespace Go.Proofs.Ytbmkbnalembbjaa
open Go.RowKit

set_option maxHeartbeats 1000000 in
theorem pfind_any (A : Option Addr) (n c : Nat) (l : List Rn) (x : Int) (w : World) (hr : Reads w w.heap.size 2 A n (runsC l)) (hn : n ≤ 1000000000000000000) :
    Calls Try.prog 36 #[.slice A n c, .int .i64 x] w fun e w' => Below w.heap.size w w' ∧
      ((findE l x = 0 ∧ ∃ i : Nat, PlaceOf l x i ∧ e = .returned (.tuple #[.int .i64 i, .bool (hasAt l x i), .int .i64 0])) ∨ ((findE l x != 0) = true ∧ e = .returned (.tuple #[.int .i64 0, .bool false, .int .i64 (findE l x)]))) := by
  have hl : l.length = n := by have := hr.1; rw [runsC_length] at this; omega
  have H1 := Lib.hid (fun w hr => pcheck_any A n c l w hr (by omega))
  have H2 := Lib.hid (fun w => pthere_any x w)
  by_cases hE : pinE l = 0
  · have hok := pinE_ok.1 hE
    have hn16 : n ≤ 16 := by have := hok.len; omega
    have H3 := Lib.hid (fun w hr => bsearch_any A n c l x w hr (by omega) hok.rise)
    rw [hE] at H1
    cases hth : thereB x
    · rw [hth] at H2
      have HF : Hid (findE l x = 4) := by show _ = _; unfold findE; rw [if_neg (by simp [hE]), hth]; rfl
      clear hE hok hth hl
      go_enter Try.func36, Try.ntmps36
      go_wp2_with fail
      refine (H1.out _ hr).mono ?_
      rintro e w1 ⟨rfl, hb1⟩
      go_wp2_with fail
      refine (H2.out _).mono ?_
      rintro e w2 ⟨rfl, rfl⟩
      go_wp2
      go_ret3
      exact ⟨hb1, .inr ⟨by rw [HF.out]; rfl, by rw [HF.out]; rfl⟩⟩
    · rw [hth] at H2
      have HF : Hid (findE l x = 0) := findE_zero.2 ⟨hok, hth⟩
      clear hE hok hth hl
      go_enter Try.func36, Try.ntmps36
      go_wp2_with fail
      refine (H1.out _ hr).mono ?_
      rintro e w1 ⟨rfl, hb1⟩
      go_wp2_with fail
      refine (H2.out _).mono ?_
      rintro e w2 ⟨rfl, rfl⟩
      go_wp2_with fail
      refine (H3.out _ ((hr.below hb1).more hb1.size)).mono ?_
      rintro e w3 ⟨hb3, i, hi, rfl⟩
      have HI := Lib.hid hi
      clear hi
      go_wp2
      go_ret3
      exact ⟨below_step hb1 hb3, .inl ⟨HF.out, i, HI.out, rfl⟩⟩
  · have HF : Hid (findE l x = pinE l) := by show _ = _; unfold findE; rw [if_pos hE]
    have hE1 : (pinE l != 0) = true := by simpa using hE
    have hE2 : (pinE l == 0) = false := by simpa using hE
    generalize pinE l = E at *
    clear hE hl
    go_enter Try.func36, Try.ntmps36
    go_wp2_with fail
    refine (H1.out _ hr).mono ?_
    rintro e w1 ⟨rfl, hb1⟩
    go_wp2
    go_ret3
    exact ⟨hb1, .inr ⟨by rw [HF.out]; exact hE1, by rw [HF.out]; rfl⟩⟩

theorem own_set1 {w : World} {base g n c k : Nat} {e : TypeId} {xs : List Value} (h : w.ownsRow base e k (.slice (some ⟨g, 0, none⟩) n c) n xs) (j : Nat) (u : Value) :
    (w.setCell ⟨g, j, none⟩ u).ownsRow base e k (.slice (some ⟨g, 0, none⟩) n c) n (xs.set j u) := by
  obtain ⟨cur, hb, hg, hc, hm, hl, ht⟩ := own_open h
  have hB : Blk w g e cur.toArray := hg
  have hB2 := hB.set_ j u
  simp only [List.setIfInBounds_toArray] at hB2
  have := own_close (size := k) (n := n) (c := c) (cur.set j u) hb hB2 hc hm (by rw [List.length_set]; exact hl)
  rw [List.take_set, ht] at this
  exact this
theorem runsC_set : ∀ (l : List Rn) (i : Nat) (y : Rn) (v : Int), l[i]? = some y → (runsC l).set (i * 2 + 1) (.int .i64 v) = runsC (l.set i ⟨y.loc, v⟩)
  | [], i, y, v, h => by simp at h
  | x :: l, 0, y, v, h => by
    simp only [List.getElem?_cons_zero, Option.some.injEq] at h
    subst h
    rfl
  | x :: l, i + 1, y, v, h => by
    have ih := runsC_set l i y v (by simpa using h)
    rw [show (i + 1) * 2 + 1 = (i * 2 + 1) + 1 + 1 by omega, List.set_cons_succ]
    show (runC x ++ runsC l).set _ _ = runC x ++ runsC (l.set i ⟨y.loc, v⟩)
    rw [← ih]
    rfl
theorem runsC_take (l : List Rn) (i : Nat) : (runsC l).take (i * 2) = runsC (l.take i) := by
  induction l generalizing i with
  | nil => simp [runsC]
  | cons x l ih =>
    cases i with
    | zero => simp [runsC]
    | succ i =>
      rw [show (i + 1) * 2 = i * 2 + 1 + 1 by omega]
      show (Value.int .i64 x.loc :: Value.int .i64 x.len :: runsC l).take _ = _
      rw [List.take_succ_cons, List.take_succ_cons, ih]
      rfl
theorem runsC_drop (l : List Rn) (i : Nat) : (runsC l).drop (i * 2) = runsC (l.drop i) := by
  induction l generalizing i with
  | nil => simp [runsC]
  | cons x l ih =>
    cases i with
    | zero => simp [runsC]
    | succ i =>
      rw [show (i + 1) * 2 = i * 2 + 1 + 1 by omega]
      show (Value.int .i64 x.loc :: Value.int .i64 x.len :: runsC l).drop _ = _
      rw [List.drop_succ_cons, List.drop_succ_cons, ih]
      rfl
theorem runsC_append (l l' : List Rn) : runsC (l ++ l') = runsC l ++ runsC l' := by simp [runsC]

/-- What is handed back: a row of pins of its own, a number, no error. -/
def PinRes (base : Nat) (l : List Rn) (v : Int) (e : Ending) (w : World) : Prop :=
  ∃ (A : Option Addr) (c : Nat), e = .returned (.tuple #[.slice A l.length c, .int .i64 v, .int .i64 0]) ∧ w.ownsRow base 47 2 (.slice A l.length c) l.length (runsC l)

/-- The error of pin.Add, where there is one. -/
def addE (l : List Rn) (x : Int) : Int := if findE l x ≠ 0 then findE l x else 7
set_option maxRecDepth 100000 in
set_option maxHeartbeats 2000000 in
theorem padd_all (A : Option Addr) (n c : Nat) (l : List Rn) (x : Int) (w : World) (hr : Reads w w.heap.size 2 A n (runsC l)) (hn : n ≤ 1000000000000000000) :
    Calls Try.prog 19 #[.slice A n c, .int .i64 x] w fun e w' => Below w.heap.size w w' ∧
      ((findE l x = 0 ∧ ∃ i : Nat, PlaceOf l x i ∧ countP l x < 1000000 ∧ (hasAt l x i = true ∨ l.length < 16) ∧ PinRes w.heap.size (moreP l x i (countP l x + 1)) (countP l x + 1) e w') ∨
       (¬ (findE l x = 0 ∧ ∃ i : Nat, PlaceOf l x i ∧ countP l x < 1000000 ∧ (hasAt l x i = true ∨ l.length < 16)) ∧ ∃ er : Int, (er != 0) = true ∧ er = addE l x ∧ e = .returned (.tuple #[.slice none 0 0, .int .i64 0, .int .i64 er]))) := by
  have hl : l.length = n := by have := hr.1; rw [runsC_length] at this; omega
  have HL := Lib.hid hl
  have H := Lib.hid (pfind_any A n c l x w hr hn)
  clear hl
  go_enter Try.func19, Try.ntmps19
  go_wp2_with fail
  refine H.out.mono ?_
  rintro e w1 ⟨hb1, ⟨hF, i, hi, rfl⟩ | ⟨hF, rfl⟩⟩
  · have hok := (findE_zero.1 hF).1
    have HOK := Lib.hid hok
    have HF := Lib.hid hF
    have HI := Lib.hid hi
    have hn16 : n ≤ 16 := by have := hok.len; have := HL.out; omega
    have hin0 : i ≤ n := by have := hi.le; have := HL.out; omega
    cases hh : hasAt l x i
    · have HH := Lib.hid hh
      have HV : Hid (countP l x = 0) := countP_none (place_none hok.rise hi hh)
      by_cases h16 : n = 16
      · have g1 : (n == 16) = true := by simp [h16]
        have g1' : ((n : Int) == 16) = true := by simp [h16]
        have HN : Hid (¬ (findE l x = 0 ∧ ∃ i : Nat, PlaceOf l x i ∧ countP l x < 1000000 ∧ (hasAt l x i = true ∨ l.length < 16))) := by
          rintro ⟨-, j, hj, -, hj2⟩
          rw [hj.unique hi, hh] at hj2
          have := HL.out
          rcases hj2 with h | h
          · cases h
          · omega
        clear hF hok hi hh h16
        go_wp2
        go_ret3
        exact ⟨hb1, .inr ⟨HN.out, 7, rfl, by unfold addE; rw [if_neg (by simp [HF.out])], rfl⟩⟩
      · have g1 : (n == 16) = false := by simp [h16]
        have g1' : ((n : Int) == 16) = false := by simp; omega
        have hn15 : n < 16 := by omega
        clear hF hok hi hh h16
        go_wp2_with fail
        refine (clone_pin A n c _ (runsC l) _ (hr.below hb1) hb1.size (runsC_one l) (by omega)).mono ?_
        rintro e w2 ⟨A2, c2, rfl, hown2, hb2⟩
        have hbv := below_new w2 (.cells #[.int .i64 x, .int .i64 0] 47)
        have D0 := Blk.new w2 47 #[.int .i64 x, .int .i64 0]
        have hown3 := hown2.alloc (.cells #[.int .i64 x, .int .i64 0] 47)
        have hne : (Value.slice A2 n c2).ownBlock ≠ some w2.heap.size := fun h => by have := (hown2.lt _ h).2; omega
        have hsz := hb2.size
        have HIn := Lib.hid (insert_pin w1.heap.size A2 n c2 i (runsC l) w2.heap.size [.int .i64 x, .int .i64 0] _ hown3 (by rw [World.size_alloc]; omega) hin0 (by omega) D0 hne (runsC_one l) (by simp [Value.oneCell']) rfl)
        have hb12 := below_step hb1 hb2
        have hb13 := below_step hb12 hbv
        have hbw13 := hb2.trans (hbv.mono hb2.size)
        clear hown2 hown3 hne D0
        go_wp2_with fail
        refine HIn.out.mono ?_
        rintro e w4 ⟨A4, c4, rfl, hown4, hb4⟩
        have hbw4 := hbw13.trans hb4
        have hb04 := below_step hb1 hbw4
        have hcs : (runsC l).take (i * 2) ++ ([.int .i64 x, .int .i64 0] ++ (runsC l).drop (i * 2)) = runsC (l.take i ++ ⟨x, 0⟩ :: l.drop i) := by
          rw [runsC_take, runsC_drop, runsC_append]; rfl
        rw [hcs] at hown4
        obtain ⟨g, rfl⟩ : ∃ g, A4 = some ⟨g, 0, none⟩ := by
          rcases hown4.2 with ⟨h2, h3⟩ | ⟨g, cap, cur, hv, -⟩
          · injection h2 with _ h4; omega
          · injection hv with h1 h2 h3; exact ⟨g, h1⟩
        have hlt : (l.take i).length = i := by rw [List.length_take]; have := HL.out; omega
        have hget : (l.take i ++ ⟨x, 0⟩ :: l.drop i)[i]? = some ⟨x, 0⟩ := by rw [List.getElem?_append_right (by omega), hlt, Nat.sub_self]; rfl
        obtain ⟨n1, hn1⟩ : ∃ n1, n1 = n + 1 := ⟨_, rfl⟩
        rw [← hn1] at hown4 ⊢
        have hin1 : i < n1 := by omega
        obtain ⟨ad, z, e3, had, hz, c0, c1⟩ := (Reads.of_own hown4).run hin1
        injection e3 with e3
        subst e3
        obtain rfl : ⟨x, 0⟩ = z := Option.some.inj (hget.symm.trans hz)
        rw [Addr.add_lit, Nat.zero_add] at c0 c1
        dsimp only at c0 c1
        obtain ⟨cur, -, hgh, -⟩ := own_open hown4
        have BG : Blk w4 g 47 cur.toArray := hgh
        have f1 := BG.frozen (i * 2 + 1)
        have hgb := (hown4.lt g rfl).1
        have hown5 := own_set1 hown4 (i * 2 + 1) (.int .i64 1)
        rw [runsC_set _ _ _ _ hget] at hown5
        have hset : (l.take i ++ ⟨x, 0⟩ :: l.drop i).set i ⟨x, 1⟩ = moreP l x i (countP l x + 1) := by
          unfold moreP
          rw [HH.out, if_neg (by decide), HV.out]
          rw [List.set_append_right _ _ (by omega), hlt, Nat.sub_self]
          rfl
        dsimp only at hown5
        rw [hset] at hown5
        have HO5 := Lib.hid (own_mono hown5 hb1.size)
        have hb05 := hb04.setCell (p := ⟨g, i * 2 + 1, none⟩) (by dsimp only; have := hb1.size; omega) (.int .i64 1)
        have HML : Hid ((moreP l x i (countP l x + 1)).length = n1) := by
          show _ = _
          rw [← hset, List.length_set, List.length_append, List.length_cons, hlt, List.length_drop]
          have := HL.out
          omega
        have p1 : (w4.setCell ⟨g, i * 2 + 1, none⟩ (.int .i64 1)).cell? ⟨g, i * 2 + 1, none⟩ = some (.int .i64 1) := by
          have hB2 := BG.set_ (i * 2 + 1) (.int .i64 1)
          have h2 := hB2.cell (i * 2 + 1)
          rw [h2]
          have h3 := BG.cell (i * 2 + 1)
          rw [c1] at h3
          have h4 := (Array.getElem?_eq_some_iff.1 h3.symm).1
          rw [Array.getElem?_setIfInBounds_self_of_lt h4]
        have w11 : IntKind.i64.wrap ((0 : Int) + 1) = 1 := by decide
        clear hcs hown4 hgh BG hget hset hown5 hlt hz hn1
        go_wp2
        go_quiet (fail)
        go_wp2
        go_ret3
        refine ⟨below_drewN hb05 _, .inl ⟨HF.out, i, HI.out, by rw [HV.out]; omega, .inr (by rw [HL.out]; exact hn15), some ⟨g, 0, none⟩, c4, ?_, ?_⟩⟩
        · rw [HML.out, HV.out]; rfl
        · rw [HML.out]
          have := HO5.out
          exact this
    · obtain ⟨y, hy, hyx⟩ := hasAt_some hh
      have HH := Lib.hid hh
      have hym := List.mem_of_getElem? hy
      have hyb := bad_no.1 (hok.ok y hym)
      have HV : Hid (countP l x = y.len) := by show _ = _; rw [← hyx]; exact countP_some hok hym
      have hin : i < n := by have := (List.getElem?_eq_some_iff.1 hy).1; have := HL.out; omega
      obtain ⟨ad, z, rfl, had, hz, c0, c1⟩ := (hr.below hb1).run hin
      obtain rfl : y = z := Option.some.inj (hy.symm.trans hz)
      obtain ⟨yl, yn⟩ := y
      dsimp only at c0 c1 HV hyx hyb
      subst hyx
      by_cases hfull : yn = 1000000
      · have g1 : (yn == 1000000) = true := by simp [hfull]
        have HN : Hid (¬ (findE l yl = 0 ∧ ∃ i : Nat, PlaceOf l yl i ∧ countP l yl < 1000000 ∧ (hasAt l yl i = true ∨ l.length < 16))) := by
          rintro ⟨-, j, -, hj2, -⟩
          rw [HV.out] at hj2
          omega
        clear hF hok hi hh hy hz hym hfull hyb
        go_wp2
        go_ret3
        exact ⟨hb1, .inr ⟨HN.out, 7, rfl, by unfold addE; rw [if_neg (by simp [HF.out])], rfl⟩⟩
      · have g1 : (yn == 1000000) = false := by simp [hfull]
        have hyn2 : yn < 1000000 := by omega
        have HY := Lib.hid hy
        clear hF hok hi hh hy hz hym hfull
        go_wp2_with fail
        refine (clone_pin (some ad) n c _ (runsC l) _ (hr.below hb1) hb1.size (runsC_one l) (by omega)).mono ?_
        rintro e w2 ⟨A2, c2, rfl, hown2, hb2⟩
        obtain ⟨g, rfl⟩ : ∃ g, A2 = some ⟨g, 0, none⟩ := by
          rcases hown2.2 with ⟨h2, h3⟩ | ⟨g, cap, cur, hv, -⟩
          · injection h2 with _ h4; omega
          · injection hv with h1 h2 h3; exact ⟨g, h1⟩
        obtain ⟨ad2, z2, e3, had2, hz2, d0, d1⟩ := (Reads.of_own hown2).run hin
        injection e3 with e3
        subst e3
        obtain rfl : (⟨yl, yn⟩ : Rn) = z2 := Option.some.inj (HY.out.symm.trans hz2)
        rw [Addr.add_lit, Nat.zero_add] at d0 d1
        dsimp only at d0 d1
        obtain ⟨cur, -, hgh, -⟩ := own_open hown2
        have BG : Blk w2 g 47 cur.toArray := hgh
        have f1 := BG.frozen (i * 2 + 1)
        have hgb := (hown2.lt g rfl).1
        have hown5 := own_set1 hown2 (i * 2 + 1) (.int .i64 (yn + 1))
        rw [runsC_set _ _ _ _ HY.out] at hown5
        have hset : l.set i ⟨yl, yn + 1⟩ = moreP l yl i (countP l yl + 1) := by
          unfold moreP
          rw [if_pos HH.out, HV.out]
        dsimp only at hown5
        rw [hset] at hown5
        have hb02 := below_step hb1 hb2
        have HO5 := Lib.hid (own_mono hown5 hb1.size)
        have hb05 := hb02.setCell (p := ⟨g, i * 2 + 1, none⟩) (by dsimp only; have := hb1.size; omega) (.int .i64 (yn + 1))
        have HML : Hid ((moreP l yl i (countP l yl + 1)).length = n) := by
          show _ = _
          rw [← hset, List.length_set]
          exact HL.out
        have p1 : (w2.setCell ⟨g, i * 2 + 1, none⟩ (.int .i64 (yn + 1))).cell? ⟨g, i * 2 + 1, none⟩ = some (.int .i64 (yn + 1)) := by
          have hB2 := BG.set_ (i * 2 + 1) (.int .i64 (yn + 1))
          have h2 := hB2.cell (i * 2 + 1)
          rw [h2]
          have h3 := BG.cell (i * 2 + 1)
          rw [d1] at h3
          have h4 := (Array.getElem?_eq_some_iff.1 h3.symm).1
          rw [Array.getElem?_setIfInBounds_self_of_lt h4]
        have w11 : IntKind.i64.wrap (yn + 1) = yn + 1 := IntWalk.i64_in _ (by omega)
        clear hown2 hgh BG hset hown5 hz2
        go_wp2
        go_quiet (fail)
        go_wp2
        go_ret3
        refine ⟨below_drewN hb05 _, .inl ⟨HF.out, i, HI.out, by rw [HV.out]; omega, .inl HH.out, some ⟨g, 0, none⟩, c2, ?_, ?_⟩⟩
        · rw [HML.out, HV.out]; rfl
        · rw [HML.out]
          have := HO5.out
          exact this
  · have HN : Hid (¬ (findE l x = 0 ∧ ∃ i : Nat, PlaceOf l x i ∧ countP l x < 1000000 ∧ (hasAt l x i = true ∨ l.length < 16))) := fun h => by
      have h1 := h.1
      simp [h1] at hF
    have hF2 := hF
    go_wp2
    go_ret3
    exact ⟨hb1, .inr ⟨HN.out, findE l x, hF2, by unfold addE; rw [if_pos (by simpa using hF2)], rfl⟩⟩

theorem padd_any (A : Option Addr) (n c : Nat) (l : List Rn) (x : Int) (w : World) (hr : Reads w w.heap.size 2 A n (runsC l)) (hn : n ≤ 1000000000000000000) :
    Calls Try.prog 19 #[.slice A n c, .int .i64 x] w fun e w' => Below w.heap.size w w' ∧
      ((findE l x = 0 ∧ ∃ i : Nat, PlaceOf l x i ∧ countP l x < 1000000 ∧ (hasAt l x i = true ∨ l.length < 16) ∧ PinRes w.heap.size (moreP l x i (countP l x + 1)) (countP l x + 1) e w') ∨
       (¬ (findE l x = 0 ∧ ∃ i : Nat, PlaceOf l x i ∧ countP l x < 1000000 ∧ (hasAt l x i = true ∨ l.length < 16)) ∧ ∃ er : Int, (er != 0) = true ∧ e = .returned (.tuple #[.slice none 0 0, .int .i64 0, .int .i64 er]))) := by
  refine (padd_all A n c l x w hr hn).mono ?_
  rintro e w' ⟨hb, h | ⟨hno, er, h1, -, h2⟩⟩
  · exact ⟨hb, .inl h⟩
  · exact ⟨hb, .inr ⟨hno, er, h1, h2⟩⟩
end Go.Proofs.Ytbmkbnalembbjaa
