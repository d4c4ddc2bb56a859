/-
  package plan: To, Gaps.
-/
import Derived.Test.YtammailnbgojgaaPlan
import Derived.Test.YtammailnbgojgaaGapFirst
import Derived.Test.YtammailnbgojgaaWalksTrue
namespace Go.Proofs.Ytammailnbgojgaa
open Go.RowKit

set_option maxHeartbeats 400000 in
theorem planTo_any (A A2 A3 : Option Addr) (n c n2 c2 m c3 : Nat) (a keep pinned : List Int) (w : World) (hr : Reads w w.heap.size 1 A n (a.map (.int .u64))) (hnc : n ≤ c) (ha : ∀ x ∈ a, (Lit.int .u64 x).wf = true)
    (hr2 : Reads w w.heap.size 1 A2 n2 (keep.map (.int .i64))) (hr3 : Reads w w.heap.size 1 A3 m (pinned.map (.int .i64))) (hn2 : n2 * 8 ≤ 140737488351232) (hm : m ≤ 1000000000000000000) (hE : longsE a keep pinned = 0) :
    Calls Try.prog 46 #[.slice A n c, .slice A2 n2 c2, .slice A3 m c3] w fun e w' => Below w.heap.size w w' ∧ ∃ A' c', e = .returned (.tuple #[.slice A' n2 c', .int .i64 0]) ∧
      w'.ownsRow w.heap.size 3 1 (.slice A' n2 c') n2 ((slidGo pinned 0 keep (longsV a keep pinned)).map (.int .i64)) := by
  have H1 := fun w hr hr2 hr3 => longs_any A A2 A3 n c n2 c2 m c3 a keep pinned w hr hnc ha hr2 hr3 hn2 hm
  obtain ⟨hK, hN⟩ := kept_of hE
  have hk2 : keep.length = n2 := by have := hr2.1; simpa using this
  have hl2 : (longsV a keep pinned).length = n2 := by rw [hK.same, hk2]
  have H2 := Lib.hid (fun w A' c' hr hr2 hr3 => slid_any A2 A' A3 n2 c2 c' m c3 0 a.length keep (longsV a keep pinned) pinned w hr hr2 hr3 hn2 hm hK ⟨by omega, hN⟩)
  rw [hE, hl2] at H1
  generalize longsV a keep pinned = L at *
  have H1 := Lib.hid H1
  clear hK hE hk2 hl2
  go_enter Try.func46, Try.ntmps46
  go_wp2_with fail
  refine (H1.out _ hr hr2 hr3).mono ?_
  rintro e w1 ⟨hb1, A', c', rfl, hown⟩
  have hrl := Reads.of_own hown
  clear hown
  go_wp2_with fail
  refine (H2.out _ _ _ ((hr2.below hb1).more hb1.size) hrl ((hr3.below hb1).more hb1.size)).mono ?_
  rintro e w2 ⟨hb2, A2', c2', rfl, hown2⟩
  go_wp2
  go_ret2
  exact ⟨below_step hb1 hb2, A2', c2', rfl, own_mono hown2 hb1.size⟩

set_option maxHeartbeats 400000 in
theorem planTo_bad (A A2 A3 : Option Addr) (n c n2 c2 m c3 : Nat) (a keep pinned : List Int) (w : World) (hr : Reads w w.heap.size 1 A n (a.map (.int .u64))) (hnc : n ≤ c) (ha : ∀ x ∈ a, (Lit.int .u64 x).wf = true)
    (hr2 : Reads w w.heap.size 1 A2 n2 (keep.map (.int .i64))) (hr3 : Reads w w.heap.size 1 A3 m (pinned.map (.int .i64))) (hn2 : n2 * 8 ≤ 140737488351232) (hm : m ≤ 1000000000000000000) (hE : longsE a keep pinned ≠ 0) :
    Calls Try.prog 46 #[.slice A n c, .slice A2 n2 c2, .slice A3 m c3] w fun e w' => e = .returned (.tuple #[.slice none 0 0, .int .i64 (longsE a keep pinned)]) ∧ Below w.heap.size w w' := by
  have H1 := fun w hr hr2 hr3 => longs_any A A2 A3 n c n2 c2 m c3 a keep pinned w hr hnc ha hr2 hr3 hn2 hm
  generalize longsV a keep pinned = L at *
  generalize longsE a keep pinned = E at *
  have hE1 : (E != 0) = true := by simpa using hE
  have H1 := Lib.hid H1
  clear hE
  go_enter Try.func46, Try.ntmps46
  go_wp2_with fail
  refine (H1.out _ hr hr2 hr3).mono ?_
  rintro e w1 ⟨hb1, A', c', rfl, hown⟩
  clear hown
  go_wp2
  go_ret2
  exact ⟨rfl, hb1⟩

/-- What a write to one block and the growing of one row leave. -/
def Else (w w' : World) (g : Nat) (row : Option Nat) : Prop := w.heap.size ≤ w'.heap.size ∧ ∀ k, k < w.heap.size → k ≠ g → row ≠ some k → w'.heap[k]? = w.heap[k]?
theorem own_else {w w' : World} {g : Nat} {row : Option Nat} {base : Nat} {e : TypeId} {size n : Nat} {v : Value} {xs : List Value} (h : w.ownsRow base e size v n xs) (hE : Else w w' g row) (h1 : ∀ k, v.ownBlock = some k → k ≠ g ∧ row ≠ some k) : w'.ownsRow base e size v n xs := by
  refine ⟨h.1, ?_⟩
  rcases h.2 with h2 | ⟨g', cap, cur, hv, hb, hh, rest⟩
  · exact .inl h2
  · refine .inr ⟨g', cap, cur, hv, hb, ?_, rest⟩
    obtain ⟨a1, a2⟩ := h1 g' (by subst hv; rfl)
    rw [hE.2 g' (Array.getElem?_eq_some_iff.1 hh).1 a1 a2]
    exact hh

def addG (acc : List Rn) (e x : Int) : List Rn := if e < x then acc ++ [⟨e, x - e⟩] else acc

set_option maxRecDepth 100000 in
set_option maxHeartbeats 1000000 in
theorem addG_any (g1 g2 base : Nat) (x e : Int) (A : Option Addr) (k c : Nat) (acc : List Rn) (w : World) (h1 : Blk w g1 3 #[.int .i64 e]) (h2 : Blk w g2 34 #[.slice A k c])
    (hown : w.ownsRow base 38 2 (.slice A k c) k (runsC acc)) (hb1 : base ≤ g1) (hb2 : base ≤ g2) (hk : k ≤ 1000000) (hk2 : k = acc.length) (hx : 0 ≤ x ∧ x ≤ 256) (he : 0 ≤ e ∧ e ≤ 256) :
    Calls Try.prog 64 #[.int .i64 x, .pointer (some ⟨g1, 0, none⟩), .pointer (some ⟨g2, 0, none⟩)] w fun ex w' => ex = .returned (.tuple #[]) ∧ Below base w w' ∧ Else w w' g2 (Value.slice A k c).ownBlock ∧ Blk w' g1 3 #[.int .i64 e] ∧
      ∃ A' c', Blk w' g2 34 #[.slice A' (addG acc e x).length c'] ∧ w'.ownsRow base 38 2 (.slice A' (addG acc e x).length c') (addG acc e x).length (runsC (addG acc e x)) := by
  have c1 := h1.cell 0
  have c2 := h2.cell 0
  have f2 := h2.frozen 0
  simp only [List.getElem?_toArray, List.getElem?_cons_zero] at c1 c2
  have hlt1 := h1.lt
  have hlt2 := h2.lt
  obtain ⟨i0, hi, hz0, hz1, hz2⟩ := info_parts info_run
  by_cases hlt : e < x
  · have hL : addG acc e x = acc ++ [⟨e, x - e⟩] := by unfold addG; rw [if_pos hlt]
    rw [hL, List.length_append, ← hk2, List.length_singleton]
    have hw : IntKind.i64.wrap (x - e) = x - e := IntWalk.i64_in _ (by omega)
    have hownA := hown.alloc (.cells #[.int .i64 e, .int .i64 (x - e)] 38)
    have hnew := reads_new w (runC ⟨e, x - e⟩) 38 1 2 rfl
    have hbsz : base ≤ w.heap.size := by omega
    have HO := Lib.hid hown
    have H1 := Lib.hid h1
    have H2 := Lib.hid h2
    have HK2 := Lib.hid hk2
    clear hL hown h1 h2 hk2
    go_enter Try.func64, Try.ntmps64
    go_wp2_with (at_builtin; refine wpList_append_any _ rfl (.tmp 7) (.tmp 13) 34 rfl base 38 i0 _ 2 16 Try.underlying34 hi hz0 hz1 hz2 rfl (by decide) (.slice A k c) k _ rfl hownA (w.heap.size + 1) (some ⟨w.heap.size, 0, none⟩) 1 1 (runC ⟨e, x - e⟩) rfl hnew (by simp [runC, Value.oneCell']) (by simp [maxLen]; omega) (by omega) (by simp; omega) ?_; rintro v' w3 hown3 hgr hbl -; obtain ⟨A'', c'', rfl⟩ := own_slice hown3; have D2 := (H2.out.alloc (.cells #[.int .i64 e, .int .i64 (x - e)] 38)).grown hgr (fun e => own_blk_ne hownA (H2.out.alloc _) (by decide) e.symm); have f3 := D2.frozen 0; have c3 := D2.cell 0; simp only [List.getElem?_toArray, List.getElem?_cons_zero] at c3)
    have hne : g1 ≠ g2 := Blk.ne_ H1.out H2.out (by decide)
    have D1 := (H1.out.alloc (.cells #[.int .i64 e, .int .i64 (x - e)] 38)).grown hgr (fun e => own_blk_ne hownA (H1.out.alloc _) (by decide) e.symm)
    have hbA := (Below.refl base w).alloc hbsz (.cells #[.int .i64 e, .int .i64 (x - e)] 38)
    have hbB : Below base w w3 := hbA.grown hgr (by have := hbA.size; omega) (fun g hg => (hownA.lt g hg).1)
    have hbC := hbB.setCell (p := ⟨g2, 0, none⟩) hb2 (.slice A'' (k + 1) c'')
    go_end0
    refine ⟨rfl, hbC, ⟨?_, fun k' hk' h1 h2 => ?_⟩, D1.far (p := ⟨g2, 0, none⟩) hne _, A'', c'', ?_, ?_⟩
    · have := hgr.size
      simp only [World.size_alloc] at this
      rw [World.size_setCell]
      omega
    · rw [Below.heap_setCell w3 ⟨g2, 0, none⟩ _ k' h1, hgr.block k' (by simp; omega) (fun e => h2 e.symm), Below.heap_alloc w _ k' hk']
    · have := D2.set_ 0 (.slice A'' (k + 1) c'')
      simpa using this
    · rw [runsC_snoc]
      exact own_apart hown3 (own_blk_ne hown3 D2 (by decide)) _
  · have hL : addG acc e x = acc := by unfold addG; rw [if_neg hlt]
    rw [hL, ← hk2]
    clear hL
    have HO := Lib.hid hown
    have HK2 := Lib.hid hk2
    have H1 := Lib.hid h1
    have H2 := Lib.hid h2
    clear hown hk2 h1 h2
    go_enter Try.func64, Try.ntmps64
    go_wp2
    go_end0
    exact ⟨rfl, Below.refl _ _, ⟨Nat.le_refl _, fun _ _ _ _ => rfl⟩, H1.out, A, c, H2.out, HO.out⟩

theorem own_types2 {w : World} {base base' size size' n n' : Nat} {e e' : TypeId} {v v' : Value} {xs xs' : List Value} (h : w.ownsRow base e size v n xs) (h' : w.ownsRow base' e' size' v' n' xs') (hne : e ≠ e') {g : Nat} (hg : v.ownBlock = some g) : v'.ownBlock ≠ some g := by
  intro hg'
  rcases h.2 with ⟨rfl, _⟩ | ⟨g1, cap, cur, rfl, _, hh, _⟩
  · cases hg
  · rcases h'.2 with ⟨rfl, _⟩ | ⟨g2, cap2, cur2, rfl, _, hh2, _⟩
    · cases hg'
    · simp only [Value.ownBlock, Option.some.injEq] at hg hg'
      subst hg hg'
      rw [hh] at hh2
      injection hh2 with hh2
      injection hh2 with _ ht
      exact hne ht
theorem addL_eq (acc : List Rn) (e x : Int) : addG acc e x = acc ++ (if e < x then [⟨e, x - e⟩] else []) := by
  unfold addG
  split <;> simp
theorem addL_length (acc : List Rn) (e x : Int) : (addG acc e x).length ≤ acc.length + 1 := by
  unfold addG
  split <;> simp

set_option maxRecDepth 100000 in
set_option maxHeartbeats 1000000 in
theorem planGapsFn_any (A A2 A3 : Option Addr) (n c n2 c2 m c3 : Nat) (a keep pinned : List Int) (w : World) (hr : Reads w w.heap.size 1 A n (a.map (.int .u64))) (hnc : n ≤ c) (ha : ∀ x ∈ a, (Lit.int .u64 x).wf = true)
    (hr2 : Reads w w.heap.size 1 A2 n2 (keep.map (.int .i64))) (hr3 : Reads w w.heap.size 1 A3 m (pinned.map (.int .i64))) (hn2 : n2 * 8 ≤ 140737488351232) (hm : m ≤ 1000000000000000000) (hE : longsE a keep pinned = 0)
    (hY : ∀ (j : Nat) (y k : Int), (slidGo pinned 0 keep (longsV a keep pinned))[j]? = some y → (longsV a keep pinned)[j]? = some k → 0 ≤ y ∧ 1 ≤ k ∧ y + k ≤ 256) (hYl : (slidGo pinned 0 keep (longsV a keep pinned)).length = n2) (hn256 : n2 ≤ 256) :
    Calls Try.prog 47 #[.slice A n c, .slice A2 n2 c2, .slice A3 m c3] w fun e w' => Below w.heap.size w w' ∧ ∃ A' c', e = .returned (.tuple #[.slice A' (pgaps n 0 (slidGo pinned 0 keep (longsV a keep pinned)) (longsV a keep pinned)).length c', .int .i64 0]) ∧
      w'.ownsRow w.heap.size 38 2 (.slice A' (pgaps n 0 (slidGo pinned 0 keep (longsV a keep pinned)) (longsV a keep pinned)).length c') (pgaps n 0 (slidGo pinned 0 keep (longsV a keep pinned)) (longsV a keep pinned)).length (runsC (pgaps n 0 (slidGo pinned 0 keep (longsV a keep pinned)) (longsV a keep pinned))) := by
  have H1 := fun w hr hr2 hr3 => longs_any A A2 A3 n c n2 c2 m c3 a keep pinned w hr hnc ha hr2 hr3 hn2 hm
  obtain ⟨hK, hN⟩ := kept_of hE
  have hal : a.length = n := by have := hr.1; simpa using this
  have hk2 : keep.length = n2 := by have := hr2.1; simpa using this
  have hl2 : (longsV a keep pinned).length = n2 := by rw [hK.same, hk2]
  have H2 := Lib.hid (fun w A' c' hr hr2 hr3 => slid_any A2 A' A3 n2 c2 c' m c3 0 a.length keep (longsV a keep pinned) pinned w hr hr2 hr3 hn2 hm hK ⟨by omega, hN⟩)
  rw [hE, hl2] at H1
  rw [hal] at hN
  generalize hLL : longsV a keep pinned = L at *
  generalize hYY : slidGo pinned 0 keep L = Y at *
  have H1 := Lib.hid H1
  have HY := Lib.hid hY
  have HYL := Lib.hid hYl
  have HL2 := Lib.hid hl2
  have HAD := Lib.hid (fun g1 g2 base x e A k c acc w h1 h2 hown hb1 hb2 hk hk2 hx he => addG_any g1 g2 base x e A k c acc w h1 h2 hown hb1 hb2 hk hk2 hx he)
  clear hK hE hk2 hl2 hal hY hYl hLL hYY
  go_enter Try.func47, Try.ntmps47
  go_wp2_with fail
  refine (H1.out _ hr hr2 hr3).mono ?_
  rintro e w1 ⟨hb1, A', c', rfl, hownL⟩
  have hrl := Reads.of_own hownL
  have hr2a := (hr2.below hb1).more hb1.size
  have hr3a := (hr3.below hb1).more hb1.size
  have hbo1 := hb1.alloc hb1.size (.cells #[.slice none 0 0] 34)
  have hbo2 := hbo1.alloc hbo1.size (.cells #[.int .i64 0] 3)
  have hbn := ((Below.refl w1.heap.size w1).alloc (Nat.le_refl _) (.cells #[.slice none 0 0] 34)).alloc (by simp) (.cells #[.int .i64 0] 3)
  have BG := (Blk.new w1 34 #[.slice none 0 0]).alloc (.cells #[.int .i64 0] 3)
  have BE := Blk.new (w1.alloc (.cells #[.slice none 0 0] 34)) 3 #[.int .i64 0]
  clear hownL
  go_wp2_with fail
  refine (H2.out _ _ _ ((hr2a.below hbn).more hbn.size) ((hrl.below hbn).more hbn.size) ((hr3a.below hbn).more hbn.size)).mono ?_
  rintro e w2 ⟨hb2, AY, cY, rfl, hownY⟩
  have BG2 := BG.below hb2 BG.lt
  have BE2 := BE.below hb2 BE.lt
  have hb02 := hbo2.trans (hb2.mono hbo2.size)
  have hb12 := hbn.trans (hb2.mono hbn.size)
  have hgs : w.heap.size ≤ w1.heap.size := hb1.size
  have hrL := hrl.below hb12
  simp only [World.size_alloc] at BG2 BE2 hownY
  clear BG BE hbn hb2 hrl hr2a hr3a hbo1 hbo2 hb1 hb12
  go_wp2
  go_loopw [13, 14, 31] (fun _ _ i wr => ∃ (j : Nat) (e : Int) (A4 : Option Addr) (k4 c4 : Nat) (acc : List Rn), j ≤ n2 ∧ i = .int .i64 j ∧ 0 ≤ e ∧ e ≤ 256 ∧ k4 ≤ j ∧ Hid (k4 = acc.length) ∧ Hid (pgaps n 0 Y L = acc ++ pgaps n e (Y.drop j) (L.drop j)) ∧
    Hid (Blk wr (w1.heap.size + 1) 3 #[.int .i64 e]) ∧ Hid (Blk wr w1.heap.size 34 #[.slice A4 k4 c4]) ∧ Hid (wr.ownsRow w1.heap.size 38 2 (.slice A4 k4 c4) k4 (runsC acc)) ∧ Hid (wr.ownsRow (w1.heap.size + 1 + 1) 3 1 (.slice AY n2 cY) n2 (Y.map (.int .i64))) ∧ Below w1.heap.size w2 wr) (fun _ _ i _ => n2 - (intOf i).toNat)
  case atStart => exact ⟨0, 0, none, 0, 0, [], Nat.zero_le _, rfl, by omega, by omega, Nat.le_refl _, rfl, rfl, BE2, BG2, World.ownsRow_nil _ _ _ _, hownY, Below.refl _ _⟩
  case round =>
    obtain ⟨j, e, A4, k4, c4, acc, hj, rfl, he0, he1, hkj, hk, hG, hBE, hBG, hown, hoY, hb⟩ := hrel
    by_cases hlt : j < n2
    · obtain ⟨ad, y, rfl, had, hy, cy⟩ := (Reads.of_own hoY.out).num hlt
      obtain ⟨ad2, k, rfl, had2, hkk, ck⟩ := (hrL.below hb).num hlt
      obtain ⟨y0, k0, yk⟩ := HY.out j y k hy hkk
      have hw : IntKind.i64.wrap (y + k) = y + k := IntWalk.i64_in _ (by omega)
      have HA := Lib.hid (HAD.out (w1.heap.size + 1) w1.heap.size w1.heap.size y e A4 k4 c4 acc wr hBE.out hBG.out hown.out (by omega) (Nat.le_refl _) (by omega) hk.out ⟨y0, by omega⟩ ⟨he0, he1⟩)
      have HG2 : Hid (pgaps n 0 Y L = addG acc e y ++ pgaps n (y + k) (Y.drop (j + 1)) (L.drop (j + 1))) := by
        show _ = _
        rw [hG.out, drop_of_get hy, drop_of_get hkk, addL_eq]
        simp only [pgaps]
        rw [List.append_assoc]
      have hlt2 : (j : Int) < n2 := by omega
      have HLn := Lib.hid (addL_length acc e y)
      clear hy hkk
      go_wp2_with fail
      refine HA.out.mono ?_
      rintro ex w3 ⟨rfl, hb3, hElse, hBE3, A5, c5, hBG3, hown3⟩
      have hoY3 := own_else hoY.out hElse (fun g hg => ⟨fun h => own_blk_ne hoY.out hBG.out (by decide) (h ▸ hg), own_types2 hoY.out hown.out (by decide) hg⟩)
      have e0 := hBE3.cell 0
      have f0 := hBE3.frozen 0
      simp only [List.getElem?_toArray, List.getElem?_cons_zero] at e0
      have ck3 := (hb3.cell (p := ad2.add j) (by rw [block_of_add]; exact had2)).trans ck
      have hbx := (hb.trans hb3).setCell (p := ⟨w1.heap.size + 1, 0, none⟩) (by dsimp only; omega) (.int .i64 (y + k))
      have hBE4 : Blk (w3.setCell ⟨w1.heap.size + 1, 0, none⟩ (.int .i64 (y + k))) (w1.heap.size + 1) 3 #[.int .i64 (y + k)] := by simpa using hBE3.set_ 0 (.int .i64 (y + k))
      have hBG4 := hBG3.far (p := ⟨w1.heap.size + 1, 0, none⟩) (by dsimp only; omega) (.int .i64 (y + k))
      have hown4 := own_apart hown3 (p := ⟨w1.heap.size + 1, 0, none⟩) (own_blk_ne hown3 hBE3 (by decide)) (.int .i64 (y + k))
      have hoY4 := own_far hoY3 (p := ⟨w1.heap.size + 1, 0, none⟩) (by dsimp only; omega) (.int .i64 (y + k))
      obtain ⟨k5, hk5⟩ : ∃ k5, k5 = (addG acc e y).length := ⟨_, rfl⟩
      rw [← hk5] at hBG4 hown4
      have HK5 := Lib.hid hk5
      have hk55 : k5 ≤ j + 1 := by have := HLn.out; rw [← hk.out] at this; omega
      have h1 := Lib.hid hBE4
      have h2 := Lib.hid hBG4
      have h3 := Lib.hid hown4
      have h4 := Lib.hid hoY4
      clear hb3 hElse hBE3 hBG3 hown3 hoY3 hBE4 hBG4 hown4 hoY4 hk5
      go_wp2
      go_roundw
      case rel => exact ⟨j + 1, y + k, A5, k5, c5, addG acc e y, by omega, by go_num, by omega, by omega, hk55, HK5, HG2, h1, h2, h3, h4, hbx⟩
      case measure => simp [intOf]; omega
    · have hjn : j = n2 := by omega
      subst hjn
      have HA := Lib.hid (HAD.out (w1.heap.size + 1) w1.heap.size w1.heap.size n e A4 k4 c4 acc wr hBE.out hBG.out hown.out (by omega) (Nat.le_refl _) (by omega) hk.out ⟨by omega, by omega⟩ ⟨he0, he1⟩)
      have HG2 : Hid (pgaps n 0 Y L = addG acc e n) := by
        show _ = _
        rw [hG.out, List.drop_of_length_le (by rw [HYL.out]; exact Nat.le_refl _), addL_eq]
        simp only [pgaps]
      go_wp2_with fail
      refine HA.out.mono ?_
      rintro ex w3 ⟨rfl, hb3, hElse, hBE3, A5, c5, hBG3, hown3⟩
      have g0 := hBG3.cell 0
      simp only [List.getElem?_toArray, List.getElem?_cons_zero] at g0
      obtain ⟨k5, hk5⟩ : ∃ k5, k5 = (addG acc e n).length := ⟨_, rfl⟩
      rw [← hk5] at g0 hown3
      have HK5 := Lib.hid hk5
      clear hElse hBE3 hBG3 hk5
      go_wp2
      go_ret2
      rw [HG2.out, ← HK5.out]
      exact ⟨hb02.trans ((hb.trans hb3).mono hgs), A5, c5, rfl, own_mono hown3 hgs⟩

set_option maxHeartbeats 400000 in
theorem planGapsFn_bad (A A2 A3 : Option Addr) (n c n2 c2 m c3 : Nat) (a keep pinned : List Int) (w : World) (hr : Reads w w.heap.size 1 A n (a.map (.int .u64))) (hnc : n ≤ c) (ha : ∀ x ∈ a, (Lit.int .u64 x).wf = true)
    (hr2 : Reads w w.heap.size 1 A2 n2 (keep.map (.int .i64))) (hr3 : Reads w w.heap.size 1 A3 m (pinned.map (.int .i64))) (hn2 : n2 * 8 ≤ 140737488351232) (hm : m ≤ 1000000000000000000) (hE : longsE a keep pinned ≠ 0) :
    Calls Try.prog 47 #[.slice A n c, .slice A2 n2 c2, .slice A3 m c3] w fun e w' => e = .returned (.tuple #[.slice none 0 0, .int .i64 (longsE a keep pinned)]) ∧ Below w.heap.size w w' := by
  have H1 := fun w hr hr2 hr3 => longs_any A A2 A3 n c n2 c2 m c3 a keep pinned w hr hnc ha hr2 hr3 hn2 hm
  generalize longsV a keep pinned = L at *
  generalize longsE a keep pinned = E at *
  have hE1 : (E != 0) = true := by simpa using hE
  have H1 := Lib.hid H1
  clear hE
  go_enter Try.func47, Try.ntmps47
  go_wp2_with fail
  refine (H1.out _ hr hr2 hr3).mono ?_
  rintro e w1 ⟨hb1, A', c', rfl, hown⟩
  clear hown
  go_wp2
  go_ret2
  exact ⟨rfl, hb1⟩

theorem plans_facts : longsE [1, 1] [] [] = 0 ∧ longsV [1, 1] [] [] = [] ∧ (pgaps (2 : Nat) 0 [] []).length = 1 := by decide

end Go.Proofs.Ytammailnbgojgaa
