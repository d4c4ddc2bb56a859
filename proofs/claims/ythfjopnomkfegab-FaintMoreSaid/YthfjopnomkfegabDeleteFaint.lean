/-
  slices.Clone, DeleteFunc at pairs.
-/
import Derived.Test.YthfjopnomkfegabSlicesFaint
import Derived.Test.YthfjopnomkfegabMem
import Derived.Test.YthfjopnomkfegabFaintKeep
namespace Go.Proofs.Ythfjopnomkfegab
open Go.RowKit

theorem info_faint : (Try.prog.info? 44).map (fun i => (i.zero, i.size, i.bytes)) = some (some (.agg #[.int .i64 0, .int .i64 0]), 2, 16) := by kernel_rfl
theorem k_zero_faint : (Try.prog.info? 44).map (·.zero) = some (some (.agg #[.int .i64 0, .int .i64 0])) := by kernel_rfl
theorem zero_one2 (n : Nat) : ∀ v ∈ (Builtin.zeroCells (Value.agg #[.int .i64 0, .int .i64 0]).cells n).toList, v.oneCell' = true := by
  intro v hv
  have hc : (Value.agg #[.int .i64 0, .int .i64 0]).cells = #[.int .i64 0, .int .i64 0] := by kernel_rfl
  rw [hc] at hv
  unfold Builtin.zeroCells at hv
  simp only [Array.toList_map, List.mem_map] at hv
  obtain ⟨i, -, rfl⟩ := hv
  have h2 : i % 2 < 2 := Nat.mod_lt _ (by decide)
  have : i % 2 = 0 ∨ i % 2 = 1 := by omega
  rcases this with h | h <;> simp [h, Value.oneCell']

set_option maxHeartbeats 400000 in
theorem clone_faint (A : Option Addr) (n c B : Nat) (xs : List Value) (w : World) (hr : Reads w B 2 A n xs) (hB : B ≤ w.heap.size) (h1 : ∀ u ∈ xs, u.oneCell' = true) (hn : n ≤ 1000000) :
    Calls Try.prog 49 #[.slice A n c] w fun e w' => ∃ A' c', e = .returned (.slice A' n c') ∧ w'.ownsRow w.heap.size 44 2 (.slice A' n c') n xs ∧ Below w.heap.size w w' := by
  obtain ⟨i0, hi, hz0, hz1, hz2⟩ := info_parts info_faint
  rcases A with _ | ad
  · have hm : n = 0 := by
      rcases Nat.eq_zero_or_pos n with h0 | h0
      · exact h0
      · obtain ⟨ad, h, _⟩ := hr.2 h0
        cases h
    subst hm
    have hx : xs = [] := List.eq_nil_of_length_eq_zero (by simpa using hr.1)
    subst hx
    have hnil := fun (w : World) => Lib.run_eql_slice_nil (P := Try.prog) w 40 44 none 0 c 0 0 Try.underlying40
    go_enter Try.func49, Try.ntmps49
    go_wp2
    go_ret
    exact ⟨none, 0, rfl, World.ownsRow_nil _ _ _ _, Below.refl _ _⟩
  · have hnil := fun (w : World) => Lib.run_eql_slice_nil (P := Try.prog) w 40 44 (some ad) n c 0 0 Try.underlying40
    have hmade := World.ownsRow_made (e := 44) (size := 2) w #[] 0 (Nat.le_refl w.heap.size) (Nat.zero_le _) rfl
    go_enter Try.func49, Try.ntmps49
    go_wp2_with (at_builtin; refine wpList_append_any _ rfl (.tmp 5) (.tmp 6) 40 rfl w.heap.size 44 i0 _ 2 16 Try.underlying40 hi hz0 hz1 hz2 rfl (by decide) (.slice (some ⟨w.heap.size, 0, none⟩) 0 0) 0 [] rfl hmade B (some ad) n c xs rfl (hr.alloc hB _) h1 (by simp [maxLen]; omega) (by omega) (by simp) ?_; rintro v' w1 hown hgr hbl -; obtain ⟨A', c', rfl⟩ := own_slice hown)
    go_ret
    exact ⟨A', c', rfl, by simpa using hown, ((Below.refl _ _).alloc (Nat.le_refl _) _).grown hgr (by simp) (by simp [Value.ownBlock])⟩

theorem flat_take2 {α : Type} (f : α → List Value) (k : Nat) (hf : ∀ a, (f a).length = k) : ∀ (l : List α) (i : Nat), (l.flatMap f).take (i * k) = (l.take i).flatMap f
  | [], i => by simp
  | x :: l, 0 => by simp
  | x :: l, i + 1 => by
    rw [List.flatMap_cons, List.take_succ_cons, List.flatMap_cons, List.take_append, hf x, List.take_of_length_le (by rw [hf x, Nat.add_mul]; omega), show (i + 1) * k - k = i * k by rw [Nat.add_mul]; omega, flat_take2 f k hf l i]
theorem set2_take (Y : List Value) (i : Nat) (a b : Value) (h : i + 2 ≤ Y.length) : ((Y.set i a).set (i + 1) b).take (i + 2) = Y.take i ++ [a, b] := by
  apply List.ext_getElem?
  intro j
  rw [List.getElem?_take]
  by_cases h1 : j < i
  · rw [if_pos (by omega), List.getElem?_set_ne (by omega), List.getElem?_set_ne (by omega), List.getElem?_append_left (by simp; omega), List.getElem?_take, if_pos h1]
  · have hl : (Y.take i).length = i := by simp; omega
    rw [List.getElem?_append_right (by omega), hl]
    by_cases h2 : j = i
    · subst h2
      rw [if_pos (by omega), List.getElem?_set_ne (by omega), List.getElem?_set_self (by omega), Nat.sub_self]
      rfl
    · by_cases h3 : j = i + 1
      · subst h3
        rw [if_pos (by omega), List.getElem?_set_self (by simp; omega), show i + 1 - i = 1 by omega]
        rfl
      · rw [if_neg (by omega), List.getElem?_eq_none (by simp; omega)]
theorem set2_drop (Y : List Value) (i k : Nat) (a b : Value) (h : i + 2 ≤ k) : ((Y.set i a).set (i + 1) b).drop k = Y.drop k := by
  rw [List.drop_set_of_lt (by omega), List.drop_set_of_lt (by omega)]

def keptF (p : Rn → Bool) (l : List Rn) : List Rn := l.filter fun s => !p s
theorem keptF_snoc (p : Rn → Bool) (l : List Rn) (s : Rn) : keptF p (l ++ [s]) = if p s = true then keptF p l else keptF p l ++ [s] := by
  unfold keptF
  rw [List.filter_append]
  cases h : p s
  · rw [if_neg (by decide), List.filter_cons, if_pos (by simp [h])]; rfl
  · rw [if_pos rfl, List.filter_cons, if_neg (by simp [h])]; simp

set_option maxRecDepth 100000 in
set_option maxHeartbeats 2000000 in
theorem deleteF_faint (F : Nat) (cap : Value) (p : Rn → Bool) (base : Nat) (A : Option Addr) (n c : Nat) (ps : List Rn) (w : World) (hown : w.ownsRow base 44 2 (.slice A n c) n (runsC ps)) (hbase : base ≤ w.heap.size) (hn : n ≤ 1000000) (hP : Plain Try.prog F)
    (HC : ∀ (W : World) (s : Rn), Below base w W → Calls Try.prog F #[.agg #[.int .i64 s.loc, .int .i64 s.len], cap] W fun e w' => e = .returned (.bool (p s)) ∧ Below W.heap.size W w') :
    Calls Try.prog 48 #[.slice A n c, .func (.func F) #[] #[cap]] w fun e w' => Below base w w' ∧ ∃ m, m = (keptF p ps).length ∧ m ≤ n ∧ e = .returned (.slice A m c) ∧ w'.ownsRow base 44 2 (.slice A m c) m (runsC (keptF p ps)) := by
  have hpl : ps.length = n := by have := hown.1; rw [runsC_length] at this; omega
  have HI := Lib.hid (indexFaint_any F cap A n c w.heap.size ps p w (Reads.of_own hown) (Nat.le_refl _) (by omega) hP (fun w' s hb _ => HC w' s (hb.mono hbase)))
  cases hix : ps.findIdx? p with
  | none =>
    have hall := List.findIdx?_eq_none_iff.1 hix
    have hi1 : ixOf p ps = -1 := ixOf_none (fun x hx => by simpa using hall x hx)
    have hk : keptF p ps = ps := by
      unfold keptF
      rw [List.filter_eq_self]
      intro x hx
      simp [hall x hx]
    rw [hi1] at HI
    rw [hk]
    have HO := Lib.hid hown
    have HPL := Lib.hid hpl
    clear hown HC hall hi1 hk hix hpl
    go_enter Try.func48, Try.ntmps48
    go_wp2_with fail
    refine HI.out.mono ?_
    rintro e w1 ⟨rfl, hb1⟩
    go_wp2
    go_ret
    exact ⟨hb1.mono hbase, n, HPL.out.symm, Nat.le_refl _, rfl, own_below HO.out hb1⟩
  | some i =>
    obtain ⟨hil, hip, hif⟩ := List.findIdx?_eq_some_iff_getElem.1 hix
    have hi1 : ixOf p ps = (i : Int) := ixOf_some (List.getElem?_eq_getElem hil) hip (fun y hy => by
      rw [List.mem_take_iff_getElem] at hy
      obtain ⟨j, hj, rfl⟩ := hy
      have := hif j (by omega)
      simpa using this)
    rw [hi1] at HI
    have hin : i < n := by omega
    obtain ⟨g, cap0, hv, hbg, hgl, h1, h2, h3, -⟩ : ∃ g cap0, Value.slice A n c = .slice (some ⟨g, 0, none⟩) n cap0 ∧ base ≤ g ∧ g < w.heap.size ∧ n ≤ c ∧ True ∧ True ∧ True := by
      rcases hown.2 with ⟨hv, -⟩ | ⟨g, cap0, cur, hv, hg, hh, hc, -⟩
      · injection hv with _ h0 _; omega
      · injection hv with q1 q2 q3
        subst q1 q3
        exact ⟨g, c, rfl, hg, (Array.getElem?_eq_some_iff.1 hh).1, hc, trivial, trivial, trivial⟩
    injection hv with e1 _ e3
    subst e1 e3
    obtain ⟨cur, -, hg, hnc, hcm, hcl, htk⟩ := own_open hown
    have hk0 : keptF p (ps.take (i + 1)) = ps.take i := by
      rw [List.take_succ_eq_append_getElem hil, keptF_snoc, if_pos hip]
      unfold keptF
      rw [List.filter_eq_self]
      intro x hx
      rw [List.mem_take_iff_getElem] at hx
      obtain ⟨j, hj, rfl⟩ := hx
      have := hif j (by omega)
      simpa using this
    have hstart : Hid (∃ Y : List Value, Blk w g 44 Y.toArray ∧ Y.length = c * 2 ∧ Y.take (i * 2) = runsC (keptF p (ps.take (i + 1))) ∧ Y.drop ((i + 1) * 2) = cur.drop ((i + 1) * 2)) := by
      refine ⟨cur, hg, hcl, ?_, rfl⟩
      rw [hk0]
      have h5 : cur.take (i * 2) = (cur.take (n * 2)).take (i * 2) := by rw [List.take_take, Nat.min_eq_left (by omega)]
      rw [h5, htk]
      unfold runsC
      exact flat_take2 runC 2 (fun _ => rfl) ps i
    have hcells : Hid (∀ j s, ps[j]? = some s → cur[j * 2]? = some (.int .i64 s.loc) ∧ cur[j * 2 + 1]? = some (.int .i64 s.len)) := by
      intro j s hs
      obtain ⟨q1, q2⟩ := List.getElem?_eq_some_iff.1 hs
      have a0 := flat_at runC 2 (fun _ => rfl) ps j 0 q1 (by decide)
      have a1 := flat_at runC 2 (fun _ => rfl) ps j 1 q1 (by decide)
      rw [q2] at a0 a1
      have e0 : (runsC ps)[j * 2 + 0]? = some (.int .i64 s.loc) := a0
      have e1 : (runsC ps)[j * 2 + 1]? = some (.int .i64 s.len) := a1
      rw [← htk, List.getElem?_take, if_pos (by omega)] at e0 e1
      exact ⟨e0, e1⟩
    have hlen1 : Hid ((keptF p (ps.take (i + 1))).length = i) := by
      show _ = _
      rw [hk0, List.length_take]
      omega
    have HC := Lib.hid HC
    have hcf := fun (x : Value) (w : World) => hP #[x, cap] w
    have HPL := Lib.hid hpl
    clear hown hP hix hif hip hi1 hk0 htk hg hpl
    go_enter Try.func48, Try.ntmps48
    go_wp2_with fail
    refine HI.out.mono ?_
    rintro e w1 ⟨rfl, hb1⟩
    have hw1 := hb1.size
    have hi0 : ((i : Int) == -1) = false := by simp
    go_wp2
    go_loopw [5, 6, 7] (fun x y _ wr => ∃ (m j : Nat) (Y : List Value), m < j ∧ j ≤ n ∧ x = .int .i64 m ∧ y = .int .i64 j ∧ Hid ((keptF p (ps.take j)).length = m) ∧ Blk wr g 44 Y.toArray ∧ Hid (Y.length = c * 2) ∧ Hid (Y.take (m * 2) = runsC (keptF p (ps.take j))) ∧ Hid (Y.drop (j * 2) = cur.drop (j * 2)) ∧ Below base w wr) (fun _ y _ _ => n - (intOf y).toNat)
    case atStart =>
      obtain ⟨Y, y1, y2, y3, y4⟩ := hstart.out
      exact ⟨i, i + 1, Y, by omega, by omega, rfl, by go_num, hlen1, y1.below hb1 hgl, y2, y3, y4, hb1.mono hbase⟩
    case round =>
      obtain ⟨m, j, Y, hmj, hj, rfl, rfl, HLn, hBY, HYl, HYt, HYd, hb⟩ := hrel
      by_cases hlt : j < n
      · obtain ⟨s, hs⟩ : ∃ s, ps[j]? = some s := ⟨ps[j]'(by rw [HPL.out]; exact hlt), List.getElem?_eq_getElem _⟩
        obtain ⟨e0, e1⟩ := hcells.out j s hs
        have hT : ps.take (j + 1) = ps.take j ++ [s] := by
          obtain ⟨q1, q2⟩ := List.getElem?_eq_some_iff.1 hs
          rw [List.take_succ_eq_append_getElem q1, q2]
        have y0 : Y[j * 2]? = some (.int .i64 s.loc) := by
          have h1 : (Y.drop (j * 2))[0]? = (cur.drop (j * 2))[0]? := by rw [HYd.out]
          rw [List.getElem?_drop, List.getElem?_drop] at h1
          exact h1.trans e0
        have y1 : Y[j * 2 + 1]? = some (.int .i64 s.len) := by
          have h1 : (Y.drop (j * 2))[1]? = (cur.drop (j * 2))[1]? := by rw [HYd.out]
          rw [List.getElem?_drop, List.getElem?_drop] at h1
          exact h1.trans e1
        have hD : Hid (Y.drop ((j + 1) * 2) = cur.drop ((j + 1) * 2)) := by
          show _ = _
          have h1 : (Y.drop (j * 2)).drop 2 = (cur.drop (j * 2)).drop 2 := by rw [HYd.out]
          rw [List.drop_drop, List.drop_drop] at h1
          rw [show (j + 1) * 2 = j * 2 + 2 by omega]
          exact h1
        have hKs := keptF_snoc p (ps.take j) s
        rw [← hT] at hKs
        have HKs := Lib.hid hKs
        have hbx := hb.alloc (by have := hb.size; omega) (.cells #[.int .i64 s.loc, .int .i64 s.len] 44)
        have D0 := Blk.new wr 44 #[.int .i64 s.loc, .int .i64 s.len]
        have BY1 := hBY.alloc (.cells #[.int .i64 s.loc, .int .i64 s.len] 44)
        have k0 := hBY.cell (j * 2)
        have k1 := hBY.cell (j * 2 + 1)
        have d0 := D0.cell 0
        have d1 := D0.cell 1
        simp only [List.getElem?_toArray, List.getElem?_cons_zero, List.getElem?_cons_succ, y0, y1] at k0 k1 d0 d1
        have HQ := Lib.hid (HC.out _ s hbx)
        have hj1 : j + 1 ≤ n := hlt
        have HL1 := hBY.lt
        have hYl := HYl.out
        have hbsz := hb.size
        cases hps : p s
        · rw [hps] at HQ hKs
          rw [if_neg (by decide)] at hKs
          have HKs2 := Lib.hid hKs
          obtain ⟨u0, hu0⟩ : ∃ u, Y[m * 2]? = some u := ⟨_, List.getElem?_eq_getElem (by omega)⟩
          obtain ⟨u1, hu1⟩ : ∃ u, Y[m * 2 + 1]? = some u := ⟨_, List.getElem?_eq_getElem (by omega)⟩
          have HPS := Lib.hid hps
          have hst : Hid (((Y.set (m * 2) (.int .i64 s.loc)).set (m * 2 + 1) (.int .i64 s.len)).take ((m + 1) * 2) = runsC (keptF p (ps.take (j + 1)))) := by
            show _ = _
            rw [show (m + 1) * 2 = m * 2 + 2 by omega, set2_take _ _ _ _ (by omega), HYt.out, hKs, runsC_snoc]
            rfl
          have hsd : Hid (((Y.set (m * 2) (.int .i64 s.loc)).set (m * 2 + 1) (.int .i64 s.len)).drop ((j + 1) * 2) = cur.drop ((j + 1) * 2)) := by
            show _ = _
            rw [set2_drop _ _ _ _ _ (by omega)]
            exact hD.out
          have hln2 : Hid ((keptF p (ps.take (j + 1))).length = m + 1) := by
            show _ = _
            rw [hKs, List.length_append, HLn.out]; rfl
          have hlY2 : Hid (((Y.set (m * 2) (.int .i64 s.loc)).set (m * 2 + 1) (.int .i64 s.len)).length = c * 2) := by show _ = _; simp [hYl]
          clear hs e0 e1 hT y0 y1 hKs hps hYl HYt HYd
          go_wp2_with fail
          refine HQ.out.mono ?_
          rintro e w2 ⟨rfl, hb2⟩
          have hbz := hbx.trans (hb2.mono (by have := hbx.size; omega))
          have D2 := D0.below hb2 D0.lt
          have BY2 := BY1.below hb2 BY1.lt
          have f0 := BY2.frozen (m * 2)
          have f1 := BY2.frozen (m * 2 + 1)
          have g0' := BY2.cell (m * 2)
          have g1' := BY2.cell (m * 2 + 1)
          have dd0 := D2.cell 0
          have dd1 := D2.cell 1
          simp only [List.getElem?_toArray, List.getElem?_cons_zero, List.getElem?_cons_succ, hu0, hu1] at g0' g1' dd0 dd1
          have BY3 := (BY2.set_ (m * 2) (.int .i64 s.loc)).set_ (m * 2 + 1) (.int .i64 s.len)
          simp only [List.setIfInBounds_toArray] at BY3
          have HBY3 := Lib.hid BY3
          have hw2 := hb2.size
          clear hu0 hu1 BY3 k0 k1 d0 d1
          go_wp2
          go_roundw
          case rel =>
            exact ⟨m + 1, j + 1, _, by omega, hj1, by go_num, by go_num, hln2, HBY3.out, hlY2, hst, hsd, (hbz.setCell (p := ⟨g, m * 2, none⟩) (by dsimp only; omega) _).setCell (p := ⟨g, m * 2 + 1, none⟩) (by dsimp only; omega) _⟩
          case measure => simp [intOf]; omega
        · rw [hps] at HQ hKs
          rw [if_pos rfl] at hKs
          have hln2 : Hid ((keptF p (ps.take (j + 1))).length = m) := by show _ = _; rw [hKs]; exact HLn.out
          have hst : Hid (Y.take (m * 2) = runsC (keptF p (ps.take (j + 1)))) := by show _ = _; rw [hKs]; exact HYt.out
          clear hs e0 e1 hT y0 y1 hKs hps hYl HYt HYd
          go_wp2_with fail
          refine HQ.out.mono ?_
          rintro e w2 ⟨rfl, hb2⟩
          have hbz := hbx.trans (hb2.mono (by have := hbx.size; omega))
          have BY2 := BY1.below hb2 BY1.lt
          go_wp2
          go_roundw
          case rel => exact ⟨m, j + 1, Y, by omega, hj1, rfl, by go_num, hln2, BY2, HYl, hst, hD, hbz⟩
          case measure => simp [intOf]; omega
      · have hjn : j = n := by omega
        rw [hjn, List.take_of_length_le (l := ps) (by rw [HPL.out]; exact Nat.le_refl _)] at HLn HYt
        have g0 : decide (j < n) = false := decide_eq_false hlt
        have hYl := HYl.out
        have hzl : (Builtin.zeroCells (Value.agg #[.int .i64 0, .int .i64 0]).cells (n - m)).toList.length = (n - m) * 2 := by
          rw [Array.length_toList, size_zeroCells]; rfl
        obtain ⟨W1, hW1⟩ : ∃ W1, W1 = wr.setRow g (splice Y (m * 2) (Builtin.zeroCells (Value.agg #[.int .i64 0, .int .i64 0]).cells (n - m)).toList).toArray := ⟨_, rfl⟩
        have hcl2 : ∀ ty dc, (Builtin.clear_ #[40] ty #[.slice (some ⟨g, m * 2, none⟩) (n - m) dc]).run Try.prog wr = .ok (.tuple #[]) W1 := fun ty dc => by
          rw [hW1]
          exact run_clearK (P := Try.prog) wr 40 ty 44 2 g (m * 2) (n - m) dc Y 44 _ _ Try.underlying40 k_zero_faint rfl hBY (by omega) (by rw [hzl]; omega) (zero_one2 _)
        have hg2 : W1.heap[g]? = some (.cells (splice Y (m * 2) (Builtin.zeroCells (Value.agg #[.int .i64 0, .int .i64 0]).cells (n - m)).toList).toArray 44 (0, 0)) := by rw [hW1]; exact setRow_heap wr g _ _ _ _ hBY
        have hb2 : Below base w W1 := by rw [hW1]; exact below_setRow hb hbg _
        have hlen : (splice Y (m * 2) (Builtin.zeroCells (Value.agg #[.int .i64 0, .int .i64 0]).cells (n - m)).toList).length = c * 2 := by unfold splice; simp only [List.length_append, List.length_take, List.length_drop, hzl]; omega
        have hown2 : W1.ownsRow base 44 2 (.slice (some ⟨g, 0, none⟩) m c) m (runsC (keptF p ps)) := by
          have h5 := own_close (size := 2) (n := m) (c := c) _ hbg hg2 (by omega) hcm hlen
          have h6 : (splice Y (m * 2) (Builtin.zeroCells (Value.agg #[.int .i64 0, .int .i64 0]).cells (n - m)).toList).take (m * 2) = Y.take (m * 2) := by
            unfold splice
            rw [List.take_append_of_le_length (by simp; omega), List.take_take, Nat.min_self]
          rw [h6, HYt.out] at h5
          exact h5
        have HO2 := Lib.hid hown2
        have HB2 := Lib.hid hb2
        have HC2 := Lib.hid hcl2
        have q1 : ¬ c = m := by omega
        have q2 : m ≤ n := by omega
        have q3 : m ≤ c := by omega
        have q4 : (c == m) = false := by simp; omega
        clear hjn hYl hzl hW1 hcl2 hg2 hb2 hlen hown2 HYd HYt
        go_wp2_with (refine wpList_clear_run _ rfl (.tmp 38) 40 rfl (.slice (some ⟨g, m * 2, none⟩) (n - m) (c - m)) rfl (HC2.out _ _) ?_)
        go_ret
        exact ⟨HB2.out, m, HLn.out.symm, q2, rfl, HO2.out⟩
end Go.Proofs.Ythfjopnomkfegab
