/-
  Texts joined: PlanGapsFn SlideFn ConcatInt SlideClean.
-/
import Derived.Deep.RegionHeld3
import Derived.Deep.QuietTactic
import Derived.BigQuiet
import Derived.Test.YtbmkbnalembbjaaRows
import Derived.Lib.AppendZeros
import Derived.StillTailTactics
import Derived.Test.YtbmkbnalembbjaaS0
import Derived.Test.YtbmkbnalembbjaaS2
import Derived.Test.YtbmkbnalembbjaaS3
import Derived.Test.YtbmkbnalembbjaaS6
import Derived.Test.YtbmkbnalembbjaaS8
namespace Go.Proofs.Ytbmkbnalembbjaa
open Go.RowKit
set_option maxHeartbeats 400000 in
theorem planTo_any (A A2 A3 : Option Addr) (n c n2 c2 m c3 : Nat) (a keep pinned : List Int) (w : World) (hr : Reads w w.heap.size 1 A n (a.map (.int .u64))) (hnc : n ≤ c) (ha : ∀ x ∈ a, (Lit.int .u64 x).wf = true)
    (hr2 : Reads w w.heap.size 1 A2 n2 (keep.map (.int .i64))) (hr3 : Reads w w.heap.size 1 A3 m (pinned.map (.int .i64))) (hn2 : n2 * 8 ≤ 140737488351232) (hm : m ≤ 1000000000000000000) (hE : longsE a keep pinned = 0) :
    Calls Try.prog 69 #[.slice A n c, .slice A2 n2 c2, .slice A3 m c3] w fun e w' => Below w.heap.size w w' ∧ ∃ A' c', e = .returned (.tuple #[.slice A' n2 c', .int .i64 0]) ∧
      w'.ownsRow w.heap.size 3 1 (.slice A' n2 c') n2 ((slidGo pinned 0 keep (longsV a keep pinned)).map (.int .i64)) := by
  have H1 := fun w hr hr2 hr3 => longs_any A A2 A3 n c n2 c2 m c3 a keep pinned w hr hnc ha hr2 hr3 hn2 hm
  obtain ⟨hK, hN⟩ := kept_of hE
  have hk2 : keep.length = n2 := by have := hr2.1; simpa using this
  have hl2 : (longsV a keep pinned).length = n2 := by rw [hK.same, hk2]
  have H2 := Lib.hid (fun w A' c' hr hr2 hr3 => slid_any A2 A' A3 n2 c2 c' m c3 0 a.length keep (longsV a keep pinned) pinned w hr hr2 hr3 hn2 hm hK ⟨by omega, hN⟩)
  rw [hE, hl2] at H1
  generalize longsV a keep pinned = L at *
  have H1 := Lib.hid H1
  clear hK hE hk2 hl2
  go_enter Try.func69, Try.ntmps69
  go_wp2_with fail
  refine (H1.out _ hr hr2 hr3).mono ?_
  rintro e w1 ⟨hb1, A', c', rfl, hown⟩
  have hrl := Reads.of_own hown
  clear hown
  go_wp2_with fail
  refine (H2.out _ _ _ ((hr2.below hb1).more hb1.size) hrl ((hr3.below hb1).more hb1.size)).mono ?_
  rintro e w2 ⟨hb2, A2', c2', rfl, hown2⟩
  go_wp2
  go_ret2
  exact ⟨below_step hb1 hb2, A2', c2', rfl, own_mono hown2 hb1.size⟩
set_option maxHeartbeats 400000 in
theorem planTo_bad (A A2 A3 : Option Addr) (n c n2 c2 m c3 : Nat) (a keep pinned : List Int) (w : World) (hr : Reads w w.heap.size 1 A n (a.map (.int .u64))) (hnc : n ≤ c) (ha : ∀ x ∈ a, (Lit.int .u64 x).wf = true)
    (hr2 : Reads w w.heap.size 1 A2 n2 (keep.map (.int .i64))) (hr3 : Reads w w.heap.size 1 A3 m (pinned.map (.int .i64))) (hn2 : n2 * 8 ≤ 140737488351232) (hm : m ≤ 1000000000000000000) (hE : longsE a keep pinned ≠ 0) :
    Calls Try.prog 69 #[.slice A n c, .slice A2 n2 c2, .slice A3 m c3] w fun e w' => e = .returned (.tuple #[.slice none 0 0, .int .i64 (longsE a keep pinned)]) ∧ Below w.heap.size w w' := by
  have H1 := fun w hr hr2 hr3 => longs_any A A2 A3 n c n2 c2 m c3 a keep pinned w hr hnc ha hr2 hr3 hn2 hm
  generalize longsV a keep pinned = L at *
  generalize longsE a keep pinned = E at *
  have hE1 : (E != 0) = true := by simpa using hE
  have H1 := Lib.hid H1
  clear hE
  go_enter Try.func69, Try.ntmps69
  go_wp2_with fail
  refine (H1.out _ hr hr2 hr3).mono ?_
  rintro e w1 ⟨hb1, A', c', rfl, hown⟩
  clear hown
  go_wp2
  go_ret2
  exact ⟨rfl, hb1⟩
def Else (w w' : World) (g : Nat) (row : Option Nat) : Prop := w.heap.size ≤ w'.heap.size ∧ ∀ k, k < w.heap.size → k ≠ g → row ≠ some k → w'.heap[k]? = w.heap[k]?
theorem own_else {w w' : World} {g : Nat} {row : Option Nat} {base : Nat} {e : TypeId} {size n : Nat} {v : Value} {xs : List Value} (h : w.ownsRow base e size v n xs) (hE : Else w w' g row) (h1 : ∀ k, v.ownBlock = some k → k ≠ g ∧ row ≠ some k) : w'.ownsRow base e size v n xs := by
  refine ⟨h.1, ?_⟩
  rcases h.2 with h2 | ⟨g', cap, cur, hv, hb, hh, rest⟩
  · exact .inl h2
  · refine .inr ⟨g', cap, cur, hv, hb, ?_, rest⟩
    obtain ⟨a1, a2⟩ := h1 g' (by subst hv; rfl)
    rw [hE.2 g' (Array.getElem?_eq_some_iff.1 hh).1 a1 a2]
    exact hh
def addG (acc : List Rn) (e x : Int) : List Rn := if e < x then acc ++ [⟨e, x - e⟩] else acc
set_option maxRecDepth 100000 in
set_option maxHeartbeats 1000000 in
theorem addG_any (g1 g2 base : Nat) (x e : Int) (A : Option Addr) (k c : Nat) (acc : List Rn) (w : World) (h1 : Blk w g1 3 #[.int .i64 e]) (h2 : Blk w g2 133 #[.slice A k c])
    (hown : w.ownsRow base 137 2 (.slice A k c) k (runsC acc)) (hb1 : base ≤ g1) (hb2 : base ≤ g2) (hk : k ≤ 1000000) (hk2 : k = acc.length) (hx : 0 ≤ x ∧ x ≤ 256) (he : 0 ≤ e ∧ e ≤ 256) :
    Calls Try.prog 92 #[.int .i64 x, .pointer (some ⟨g1, 0, none⟩), .pointer (some ⟨g2, 0, none⟩)] w fun ex w' => ex = .returned (.tuple #[]) ∧ Below base w w' ∧ Else w w' g2 (Value.slice A k c).ownBlock ∧ Blk w' g1 3 #[.int .i64 e] ∧
      ∃ A' c', Blk w' g2 133 #[.slice A' (addG acc e x).length c'] ∧ w'.ownsRow base 137 2 (.slice A' (addG acc e x).length c') (addG acc e x).length (runsC (addG acc e x)) := by
  have c1 := h1.cell 0
  have c2 := h2.cell 0
  have f2 := h2.frozen 0
  simp only [List.getElem?_toArray, List.getElem?_cons_zero] at c1 c2
  have hlt1 := h1.lt
  have hlt2 := h2.lt
  obtain ⟨i0, hi, hz0, hz1, hz2⟩ := info_parts info_run
  by_cases hlt : e < x
  · have hL : addG acc e x = acc ++ [⟨e, x - e⟩] := by unfold addG; rw [if_pos hlt]
    rw [hL, List.length_append, ← hk2, List.length_singleton]
    have hw : IntKind.i64.wrap (x - e) = x - e := IntWalk.i64_in _ (by omega)
    have hownA := hown.alloc (.cells #[.int .i64 e, .int .i64 (x - e)] 137)
    have hnew := reads_new w (runC ⟨e, x - e⟩) 137 1 2 rfl
    have hbsz : base ≤ w.heap.size := by omega
    have HO := Lib.hid hown
    have H1 := Lib.hid h1
    have H2 := Lib.hid h2
    have HK2 := Lib.hid hk2
    clear hL hown h1 h2 hk2
    go_enter Try.func92, Try.ntmps92
    go_wp2_with (at_builtin; refine wpList_append_any _ rfl (.tmp 7) (.tmp 13) 133 rfl base 137 i0 _ 2 16 Try.underlying133 hi hz0 hz1 hz2 rfl (by decide) (.slice A k c) k _ rfl hownA (w.heap.size + 1) (some ⟨w.heap.size, 0, none⟩) 1 1 (runC ⟨e, x - e⟩) rfl hnew (by simp [runC, Value.oneCell']) (by simp [maxLen]; omega) (by omega) (by simp; omega) ?_; rintro v' w3 hown3 hgr hbl -; obtain ⟨A'', c'', rfl⟩ := own_slice hown3; have D2 := (H2.out.alloc (.cells #[.int .i64 e, .int .i64 (x - e)] 137)).grown hgr (fun e => own_blk_ne hownA (H2.out.alloc _) (by decide) e.symm); have f3 := D2.frozen 0; have c3 := D2.cell 0; simp only [List.getElem?_toArray, List.getElem?_cons_zero] at c3)
    have hne : g1 ≠ g2 := Blk.ne_ H1.out H2.out (by decide)
    have D1 := (H1.out.alloc (.cells #[.int .i64 e, .int .i64 (x - e)] 137)).grown hgr (fun e => own_blk_ne hownA (H1.out.alloc _) (by decide) e.symm)
    have hbA := (Below.refl base w).alloc hbsz (.cells #[.int .i64 e, .int .i64 (x - e)] 137)
    have hbB : Below base w w3 := hbA.grown hgr (by have := hbA.size; omega) (fun g hg => (hownA.lt g hg).1)
    have hbC := hbB.setCell (p := ⟨g2, 0, none⟩) hb2 (.slice A'' (k + 1) c'')
    go_end0
    refine ⟨rfl, hbC, ⟨?_, fun k' hk' h1 h2 => ?_⟩, D1.far (p := ⟨g2, 0, none⟩) hne _, A'', c'', ?_, ?_⟩
    · have := hgr.size
      simp only [World.size_alloc] at this
      rw [World.size_setCell]
      omega
    · rw [Below.heap_setCell w3 ⟨g2, 0, none⟩ _ k' h1, hgr.block k' (by simp; omega) (fun e => h2 e.symm), Below.heap_alloc w _ k' hk']
    · have := D2.set_ 0 (.slice A'' (k + 1) c'')
      simpa using this
    · rw [runsC_snoc]
      exact own_apart hown3 (own_blk_ne hown3 D2 (by decide)) _
  · have hL : addG acc e x = acc := by unfold addG; rw [if_neg hlt]
    rw [hL, ← hk2]
    clear hL
    have HO := Lib.hid hown
    have HK2 := Lib.hid hk2
    have H1 := Lib.hid h1
    have H2 := Lib.hid h2
    clear hown hk2 h1 h2
    go_enter Try.func92, Try.ntmps92
    go_wp2
    go_end0
    exact ⟨rfl, Below.refl _ _, ⟨Nat.le_refl _, fun _ _ _ _ => rfl⟩, H1.out, A, c, H2.out, HO.out⟩
theorem own_types2 {w : World} {base base' size size' n n' : Nat} {e e' : TypeId} {v v' : Value} {xs xs' : List Value} (h : w.ownsRow base e size v n xs) (h' : w.ownsRow base' e' size' v' n' xs') (hne : e ≠ e') {g : Nat} (hg : v.ownBlock = some g) : v'.ownBlock ≠ some g := by
  intro hg'
  rcases h.2 with ⟨rfl, _⟩ | ⟨g1, cap, cur, rfl, _, hh, _⟩
  · cases hg
  · rcases h'.2 with ⟨rfl, _⟩ | ⟨g2, cap2, cur2, rfl, _, hh2, _⟩
    · cases hg'
    · simp only [Value.ownBlock, Option.some.injEq] at hg hg'
      subst hg hg'
      rw [hh] at hh2
      injection hh2 with hh2
      injection hh2 with _ ht
      exact hne ht
theorem addL_eq (acc : List Rn) (e x : Int) : addG acc e x = acc ++ (if e < x then [⟨e, x - e⟩] else []) := by
  unfold addG
  split <;> simp
theorem addL_length (acc : List Rn) (e x : Int) : (addG acc e x).length ≤ acc.length + 1 := by
  unfold addG
  split <;> simp
set_option maxRecDepth 100000 in
set_option maxHeartbeats 1000000 in
theorem planGapsFn_any (A A2 A3 : Option Addr) (n c n2 c2 m c3 : Nat) (a keep pinned : List Int) (w : World) (hr : Reads w w.heap.size 1 A n (a.map (.int .u64))) (hnc : n ≤ c) (ha : ∀ x ∈ a, (Lit.int .u64 x).wf = true)
    (hr2 : Reads w w.heap.size 1 A2 n2 (keep.map (.int .i64))) (hr3 : Reads w w.heap.size 1 A3 m (pinned.map (.int .i64))) (hn2 : n2 * 8 ≤ 140737488351232) (hm : m ≤ 1000000000000000000) (hE : longsE a keep pinned = 0)
    (hY : ∀ (j : Nat) (y k : Int), (slidGo pinned 0 keep (longsV a keep pinned))[j]? = some y → (longsV a keep pinned)[j]? = some k → 0 ≤ y ∧ 1 ≤ k ∧ y + k ≤ 256) (hYl : (slidGo pinned 0 keep (longsV a keep pinned)).length = n2) (hn256 : n2 ≤ 256) :
    Calls Try.prog 70 #[.slice A n c, .slice A2 n2 c2, .slice A3 m c3] w fun e w' => Below w.heap.size w w' ∧ ∃ A' c', e = .returned (.tuple #[.slice A' (pgaps n 0 (slidGo pinned 0 keep (longsV a keep pinned)) (longsV a keep pinned)).length c', .int .i64 0]) ∧
      w'.ownsRow w.heap.size 137 2 (.slice A' (pgaps n 0 (slidGo pinned 0 keep (longsV a keep pinned)) (longsV a keep pinned)).length c') (pgaps n 0 (slidGo pinned 0 keep (longsV a keep pinned)) (longsV a keep pinned)).length (runsC (pgaps n 0 (slidGo pinned 0 keep (longsV a keep pinned)) (longsV a keep pinned))) := by
  have H1 := fun w hr hr2 hr3 => longs_any A A2 A3 n c n2 c2 m c3 a keep pinned w hr hnc ha hr2 hr3 hn2 hm
  obtain ⟨hK, hN⟩ := kept_of hE
  have hal : a.length = n := by have := hr.1; simpa using this
  have hk2 : keep.length = n2 := by have := hr2.1; simpa using this
  have hl2 : (longsV a keep pinned).length = n2 := by rw [hK.same, hk2]
  have H2 := Lib.hid (fun w A' c' hr hr2 hr3 => slid_any A2 A' A3 n2 c2 c' m c3 0 a.length keep (longsV a keep pinned) pinned w hr hr2 hr3 hn2 hm hK ⟨by omega, hN⟩)
  rw [hE, hl2] at H1
  rw [hal] at hN
  generalize hLL : longsV a keep pinned = L at *
  generalize hYY : slidGo pinned 0 keep L = Y at *
  have H1 := Lib.hid H1
  have HY := Lib.hid hY
  have HYL := Lib.hid hYl
  have HL2 := Lib.hid hl2
  have HAD := Lib.hid (fun g1 g2 base x e A k c acc w h1 h2 hown hb1 hb2 hk hk2 hx he => addG_any g1 g2 base x e A k c acc w h1 h2 hown hb1 hb2 hk hk2 hx he)
  clear hK hE hk2 hl2 hal hY hYl hLL hYY
  go_enter Try.func70, Try.ntmps70
  go_wp2_with fail
  refine (H1.out _ hr hr2 hr3).mono ?_
  rintro e w1 ⟨hb1, A', c', rfl, hownL⟩
  have hrl := Reads.of_own hownL
  have hr2a := (hr2.below hb1).more hb1.size
  have hr3a := (hr3.below hb1).more hb1.size
  have hbo1 := hb1.alloc hb1.size (.cells #[.slice none 0 0] 133)
  have hbo2 := hbo1.alloc hbo1.size (.cells #[.int .i64 0] 3)
  have hbn := ((Below.refl w1.heap.size w1).alloc (Nat.le_refl _) (.cells #[.slice none 0 0] 133)).alloc (by simp) (.cells #[.int .i64 0] 3)
  have BG := (Blk.new w1 133 #[.slice none 0 0]).alloc (.cells #[.int .i64 0] 3)
  have BE := Blk.new (w1.alloc (.cells #[.slice none 0 0] 133)) 3 #[.int .i64 0]
  clear hownL
  go_wp2_with fail
  refine (H2.out _ _ _ ((hr2a.below hbn).more hbn.size) ((hrl.below hbn).more hbn.size) ((hr3a.below hbn).more hbn.size)).mono ?_
  rintro e w2 ⟨hb2, AY, cY, rfl, hownY⟩
  have BG2 := BG.below hb2 BG.lt
  have BE2 := BE.below hb2 BE.lt
  have hb02 := hbo2.trans (hb2.mono hbo2.size)
  have hb12 := hbn.trans (hb2.mono hbn.size)
  have hgs : w.heap.size ≤ w1.heap.size := hb1.size
  have hrL := hrl.below hb12
  simp only [World.size_alloc] at BG2 BE2 hownY
  clear BG BE hbn hb2 hrl hr2a hr3a hbo1 hbo2 hb1 hb12
  go_wp2
  go_loopw [13, 14, 31] (fun _ _ i wr => ∃ (j : Nat) (e : Int) (A4 : Option Addr) (k4 c4 : Nat) (acc : List Rn), j ≤ n2 ∧ i = .int .i64 j ∧ 0 ≤ e ∧ e ≤ 256 ∧ k4 ≤ j ∧ Hid (k4 = acc.length) ∧ Hid (pgaps n 0 Y L = acc ++ pgaps n e (Y.drop j) (L.drop j)) ∧
    Hid (Blk wr (w1.heap.size + 1) 3 #[.int .i64 e]) ∧ Hid (Blk wr w1.heap.size 133 #[.slice A4 k4 c4]) ∧ Hid (wr.ownsRow w1.heap.size 137 2 (.slice A4 k4 c4) k4 (runsC acc)) ∧ Hid (wr.ownsRow (w1.heap.size + 1 + 1) 3 1 (.slice AY n2 cY) n2 (Y.map (.int .i64))) ∧ Below w1.heap.size w2 wr) (fun _ _ i _ => n2 - (intOf i).toNat)
  case atStart => exact ⟨0, 0, none, 0, 0, [], Nat.zero_le _, rfl, by omega, by omega, Nat.le_refl _, rfl, rfl, BE2, BG2, World.ownsRow_nil _ _ _ _, hownY, Below.refl _ _⟩
  case round =>
    obtain ⟨j, e, A4, k4, c4, acc, hj, rfl, he0, he1, hkj, hk, hG, hBE, hBG, hown, hoY, hb⟩ := hrel
    by_cases hlt : j < n2
    · obtain ⟨ad, y, rfl, had, hy, cy⟩ := (Reads.of_own hoY.out).num hlt
      obtain ⟨ad2, k, rfl, had2, hkk, ck⟩ := (hrL.below hb).num hlt
      obtain ⟨y0, k0, yk⟩ := HY.out j y k hy hkk
      have hw : IntKind.i64.wrap (y + k) = y + k := IntWalk.i64_in _ (by omega)
      have HA := Lib.hid (HAD.out (w1.heap.size + 1) w1.heap.size w1.heap.size y e A4 k4 c4 acc wr hBE.out hBG.out hown.out (by omega) (Nat.le_refl _) (by omega) hk.out ⟨y0, by omega⟩ ⟨he0, he1⟩)
      have HG2 : Hid (pgaps n 0 Y L = addG acc e y ++ pgaps n (y + k) (Y.drop (j + 1)) (L.drop (j + 1))) := by
        show _ = _
        rw [hG.out, drop_of_get hy, drop_of_get hkk, addL_eq]
        simp only [pgaps]
        rw [List.append_assoc]
      have hlt2 : (j : Int) < n2 := by omega
      have HLn := Lib.hid (addL_length acc e y)
      clear hy hkk
      go_wp2_with fail
      refine HA.out.mono ?_
      rintro ex w3 ⟨rfl, hb3, hElse, hBE3, A5, c5, hBG3, hown3⟩
      have hoY3 := own_else hoY.out hElse (fun g hg => ⟨fun h => own_blk_ne hoY.out hBG.out (by decide) (h ▸ hg), own_types2 hoY.out hown.out (by decide) hg⟩)
      have e0 := hBE3.cell 0
      have f0 := hBE3.frozen 0
      simp only [List.getElem?_toArray, List.getElem?_cons_zero] at e0
      have ck3 := (hb3.cell (p := ad2.add j) (by rw [block_of_add]; exact had2)).trans ck
      have hbx := (hb.trans hb3).setCell (p := ⟨w1.heap.size + 1, 0, none⟩) (by dsimp only; omega) (.int .i64 (y + k))
      have hBE4 : Blk (w3.setCell ⟨w1.heap.size + 1, 0, none⟩ (.int .i64 (y + k))) (w1.heap.size + 1) 3 #[.int .i64 (y + k)] := by simpa using hBE3.set_ 0 (.int .i64 (y + k))
      have hBG4 := hBG3.far (p := ⟨w1.heap.size + 1, 0, none⟩) (by dsimp only; omega) (.int .i64 (y + k))
      have hown4 := own_apart hown3 (p := ⟨w1.heap.size + 1, 0, none⟩) (own_blk_ne hown3 hBE3 (by decide)) (.int .i64 (y + k))
      have hoY4 := own_far hoY3 (p := ⟨w1.heap.size + 1, 0, none⟩) (by dsimp only; omega) (.int .i64 (y + k))
      obtain ⟨k5, hk5⟩ : ∃ k5, k5 = (addG acc e y).length := ⟨_, rfl⟩
      rw [← hk5] at hBG4 hown4
      have HK5 := Lib.hid hk5
      have hk55 : k5 ≤ j + 1 := by have := HLn.out; rw [← hk.out] at this; omega
      have h1 := Lib.hid hBE4
      have h2 := Lib.hid hBG4
      have h3 := Lib.hid hown4
      have h4 := Lib.hid hoY4
      clear hb3 hElse hBE3 hBG3 hown3 hoY3 hBE4 hBG4 hown4 hoY4 hk5
      go_wp2
      go_roundw
      case rel => exact ⟨j + 1, y + k, A5, k5, c5, addG acc e y, by omega, by go_num, by omega, by omega, hk55, HK5, HG2, h1, h2, h3, h4, hbx⟩
      case measure => simp [intOf]; omega
    · have hjn : j = n2 := by omega
      subst hjn
      have HA := Lib.hid (HAD.out (w1.heap.size + 1) w1.heap.size w1.heap.size n e A4 k4 c4 acc wr hBE.out hBG.out hown.out (by omega) (Nat.le_refl _) (by omega) hk.out ⟨by omega, by omega⟩ ⟨he0, he1⟩)
      have HG2 : Hid (pgaps n 0 Y L = addG acc e n) := by
        show _ = _
        rw [hG.out, List.drop_of_length_le (by rw [HYL.out]; exact Nat.le_refl _), addL_eq]
        simp only [pgaps]
      go_wp2_with fail
      refine HA.out.mono ?_
      rintro ex w3 ⟨rfl, hb3, hElse, hBE3, A5, c5, hBG3, hown3⟩
      have g0 := hBG3.cell 0
      simp only [List.getElem?_toArray, List.getElem?_cons_zero] at g0
      obtain ⟨k5, hk5⟩ : ∃ k5, k5 = (addG acc e n).length := ⟨_, rfl⟩
      rw [← hk5] at g0 hown3
      have HK5 := Lib.hid hk5
      clear hElse hBE3 hBG3 hk5
      go_wp2
      go_ret2
      rw [HG2.out, ← HK5.out]
      exact ⟨hb02.trans ((hb.trans hb3).mono hgs), A5, c5, rfl, own_mono hown3 hgs⟩
end Go.Proofs.Ytbmkbnalembbjaa

namespace Go.Proofs.Ytbmkbnalembbjaa
open Go.RowKit
def slidW (a keep pinned : List Int) : List Int := chunksW (laidC a.length 0 (rowsOf a keep (slidGo pinned 0 keep (longsV a keep pinned))))
set_option maxRecDepth 100000 in
set_option maxHeartbeats 4000000 in
theorem slide_ok (A A2 A3 : Option Addr) (n c n2 c2 m c3 : Nat) (a keep pinned : List Int) (w : World) (hr : Reads w w.heap.size 1 A n (a.map (.int .u64))) (hnc : n ≤ c) (_ : c ≤ maxLen) (ha : ∀ x ∈ a, (Lit.int .u64 x).wf = true)
    (hr2 : Reads w w.heap.size 1 A2 n2 (keep.map (.int .i64))) (hr3 : Reads w w.heap.size 1 A3 m (pinned.map (.int .i64))) (hn2 : n2 * 8 ≤ 140737488351232) (hm : m ≤ 1000000000000000000) (hE : longsE a keep pinned = 0) (hC : ClosedL a keep) :
    Calls Try.prog 47 #[.slice A n c, .slice A2 n2 c2, .slice A3 m c3] w fun e w' => Below w.heap.size w w' ∧ ∃ A1 c1 AY cY, e = .returned (.tuple #[.slice A1 n c1, .slice AY n2 cY, .int .i64 0]) ∧
      w'.ownsRow w.heap.size 37 1 (.slice A1 n c1) n ((slidW a keep pinned).map (.int .u64)) ∧ w'.ownsRow w.heap.size 3 1 (.slice AY n2 cY) n2 ((slidGo pinned 0 keep (longsV a keep pinned)).map (.int .i64)) := by
  have hal : a.length = n := by have := hr.1; simpa using this
  have hk2 : keep.length = n2 := by have := hr2.1; simpa using this
  obtain ⟨hK, hN⟩ := kept_of hE
  have hN2 : n ≤ 256 := by omega
  have hkl := kept_len2 hK (by omega)
  have hP := planned_of hE
  have hC1 := (longsE_ok.1 hE).1
  have hTo := fun w hr hr2 hr3 => planTo_any A A2 A3 n c n2 c2 m c3 a keep pinned w hr hnc ha hr2 hr3 hn2 hm hE
  have hGp := fun w hr hr2 hr3 => planGapsFn_any A A2 A3 n c n2 c2 m c3 a keep pinned w hr hnc ha hr2 hr3 hn2 hm hE (fun j y k hy hk => by
    have hj := (List.getElem?_eq_some_iff.1 hy).1
    rw [hP.len] at hj
    obtain ⟨s, i, -, -, -, e4, e5, e6, e7, -⟩ := hP.at_ j _ y (List.getElem?_eq_getElem hj) hy
    rw [hk] at e6
    obtain rfl := Option.some.inj e6
    have := e4.r0
    have := e4.b0
    unfold Spot.long at *
    omega) (by rw [hP.len, hk2]) (by omega)
  have HAt := Lib.hid (fun x i s w hr hix his => at_ok A n c a x i s w hr hnc ha hC1 hix his)
  have HW := Lib.hid (fun (k : Nat) (h1 : 1 ≤ k) (h2 : k ≤ 256) w => hword_ok 0 ((k : Int) - 1) 0 true w (headE_ok.2 ⟨by omega, by omega, by omega, by omega, by omega, by omega, by omega, fun _ => ⟨rfl, rfl⟩⟩))
  have hfold := fold_gaps n (rowsOf a keep (slidGo pinned 0 keep (longsV a keep pinned))) 0 [] (by rw [← hal]; exact hP.rows) rfl
  rw [hP.ys, hP.lens, List.nil_append, List.nil_append] at hfold
  have hgl := gapsP_laid n (rowsOf a keep (slidGo pinned 0 keep (longsV a keep pinned))) 0 (by rw [← hal]; exact hP.rows)
  rw [hP.ys, hP.lens] at hgl
  have hgm := gapsP_mem (laidC n 0 (rowsOf a keep (slidGo pinned 0 keep (longsV a keep pinned)))) 0 0 (Nat.le_refl _)
  rw [hgl, laidC_length (by rw [← hal]; exact hP.rows)] at hgm
  have hRl : ∀ j, (rawL n 0 ((rowsOf a keep (slidGo pinned 0 keep (longsV a keep pinned))).take j)).length = n := fun j => by
    have h := hP.rows
    rw [hal, ← List.take_append_drop j (rowsOf a keep _)] at h
    rw [rawL_length h.left, Nat.sub_zero]
  have hstep : ∀ (j : Nat) (x y : Int) (s : Spot), keep[j]? = some x → (slidGo pinned 0 keep (longsV a keep pinned))[j]? = some y → spotAt (spotsL a) x = some s →
      rawL n 0 ((rowsOf a keep (slidGo pinned 0 keep (longsV a keep pinned))).take (j + 1)) = splice (rawL n 0 ((rowsOf a keep (slidGo pinned 0 keep (longsV a keep pinned))).take j)) y.toNat
        (wordOf s.r s.b s.t s.f :: ((refsOf a s).map (refT (posL keep (slidGo pinned 0 keep (longsV a keep pinned)))) ++ bodyOf a s)) := by
    intro j x y s hx hy hs
    have h1 := rowsOf_at (a := a) hx hy
    rw [rowAt_some hs] at h1
    obtain ⟨q1, q2⟩ := List.getElem?_eq_some_iff.1 h1
    have h := hP.rows
    rw [hal, ← List.take_append_drop (j + 1) (rowsOf a keep _), List.take_succ_eq_append_getElem q1, q2] at h
    have h3 := rawL_snoc n y.toNat (kC a (posL keep (slidGo pinned 0 keep (longsV a keep pinned))) s) ((rowsOf a keep (slidGo pinned 0 keep (longsV a keep pinned))).take j) 0 [] rfl h.left
    rw [List.nil_append, List.nil_append] at h3
    rw [List.take_succ_eq_append_getElem q1, q2, h3, (spotAt_some hs).2.1]
    rfl
  have hnow := fun v h => nowM_at (keep := keep) (Y := slidGo pinned 0 keep (longsV a keep pinned)) (v := v) h
  have hnows := fun j x y hx hy h => nowM_succ (keep := keep) (Y := slidGo pinned 0 keep (longsV a keep pinned)) hP.nodup (j := j) (x := x) (y := y) hx hy h
  have hlk := fun x (hx : x ∈ keep) s (hs : spotAt (spotsL a) x = some s) => Iso.link_of hC hx hs
  unfold slidW
  rw [hal]
  obtain ⟨hnd, hYl, hLl, hYn, hRows, -, -, -, hkn, hat⟩ := hP
  rw [hal] at hRows hat
  have hraw0 : rawL n 0 ((rowsOf a keep (slidGo pinned 0 keep (longsV a keep pinned))).take 0) = List.replicate n 0 := rfl
  have hrawA : rawL n 0 ((rowsOf a keep (slidGo pinned 0 keep (longsV a keep pinned))).take n2) = rawL n 0 (rowsOf a keep (slidGo pinned 0 keep (longsV a keep pinned))) := by
    rw [List.take_of_length_le (by rw [rowsOf_length hYl, hk2]; exact Nat.le_refl _)]
  have hx256 : ∀ (j : Nat) (x : Nat), keep[j]? = some (x : Int) → x ≤ 256 := fun j x hx => by
    obtain ⟨s, hs⟩ := begsL_iff.1 (hC.begs _ (List.mem_of_getElem? hx))
    have := begsL_bounds (checkE_ok.1 hC1).1 _ (hC.begs _ (List.mem_of_getElem? hx))
    omega
  have hGl : (pgaps n 0 (slidGo pinned 0 keep (longsV a keep pinned)) (longsV a keep pinned)).length ≤ n2 + 1 := by
    have h1 := pgaps_count n pinned keep (longsV a keep pinned) 0
    have h2 := List.length_filter_le (fun x => decide (x ∈ pinned)) keep
    omega
  have hnow0 := nowM_zero keep (slidGo pinned 0 keep (longsV a keep pinned))
  clear hgl hK hE hC
  generalize longsV a keep pinned = L at *
  generalize slidGo pinned 0 keep L = Y at *
  generalize pgaps n 0 Y L = G at *
  generalize rowsOf a keep Y = R at *
  generalize posL keep Y = φ at *
  have hyl : Y.length = n2 := by rw [hYl, hk2]
  have HTo := Lib.hid hTo
  have HGp := Lib.hid hGp
  have HF := Lib.hid hfold
  have HGM := Lib.hid hgm
  have HRL := Lib.hid hRl
  have HStep := Lib.hid hstep
  have HNow := Lib.hid hnow
  have HNowS := Lib.hid hnows
  have HNow0 := Lib.hid hnow0
  have HLk := Lib.hid hlk
  have HRaw0 := Lib.hid hraw0
  have HRawA := Lib.hid hrawA
  have HAtt := Lib.hid hat
  have HKN := Lib.hid hkn
  have HX256 := Lib.hid hx256
  clear hx256
  have HK2 := Lib.hid hk2
  have HAL := Lib.hid hal
  have HYL := Lib.hid hyl
  obtain ⟨i0, hi, hz0, hz1, hz2⟩ := info_parts info_u64
  have hmm := @run_makeMap Try.prog
  have hmk := fun W => run_make_rowN (P := Try.prog) 23 37 i0 (.int .u64 0) Try.underlying23 hi hz0 .i64 .i64 n n (Nat.le_refl _) (by rw [hz2]; omega) (by omega) W
  have hn2' : n2 ≤ 256 := by omega
  clear hal hk2 hN hkl hTo hGp hfold hgm hRl hstep hnow hnows hnow0 hlk hraw0 hrawA hat hkn hyl hYl hLl hYn hnd hRows hn2 hm
  go_enter Try.func47, Try.ntmps47
  go_wp2_with fail
  refine (HTo.out _ hr hr2 hr3).mono ?_
  rintro e w1 ⟨hb1, AY, cY, rfl, hownY⟩
  obtain ⟨w2, hins, hM, hg1⟩ := (MapIs.made w1 Try.prog 37 .u64).store (k := 37) (t := 102) Try.underlying37 Try.underlying102 (by decide) (x := 0) (by decide) (.int .u64 0)
  rw [← HNow0.out] at hM
  have HM := Lib.hid hM
  have hb12 : Below w1.heap.size w1 w2 := (below_new w1 _).grown hg1 (by simp) (by simp)
  have HOY := Lib.hid hownY
  have hrY := Reads.of_own hownY
  have hsz1 := hb1.size
  clear hM hg1 hownY
  go_wp2
  clear hins
  go_loopw [41] (fun i wr => ∃ j : Nat, j ≤ n2 ∧ i = .int .i64 j ∧ Hid (MapIs wr Try.prog 37 .u64 w1.heap.size (j + 1) (nowM keep Y j)) ∧ Below w1.heap.size w1 wr) (fun i _ => n2 - (intOf i).toNat)
  case atStart => exact ⟨0, Nat.zero_le _, rfl, HM.out, hb12⟩
  case round =>
    obtain ⟨j, hj, rfl, HMj, hb⟩ := hrel
    by_cases hlt : j < n2
    · have hbw := below_step hb1 hb
      obtain ⟨ad, x, rfl, had, hx, cx⟩ := (hr2.below hbw).num hlt
      obtain ⟨adY, y, rfl, hadY, hy, cy⟩ := (hrY.below hb).num hlt
      obtain ⟨s, i, -, -, -, g4, g5, -, g7, g8⟩ := HAtt.out j x y hx hy
      have x0 := HKN.out x (List.mem_of_getElem? hx)
      have gr := g4.r0
      have gb := g4.b0
      unfold Spot.long at g5
      obtain ⟨X, rfl⟩ := Int.eq_ofNat_of_zero_le x0
      obtain ⟨Yn, rfl⟩ := Int.eq_ofNat_of_zero_le g7
      have hX : X ≤ 256 := HX256.out _ _ hx
      have hYn : Yn ≤ 256 := by omega
      have wx : IntKind.u64.wrap (X : Int) = X := wrap_u64_of (by omega) (by omega)
      have wy : IntKind.u64.wrap (Yn : Int) = Yn := wrap_u64_of (by omega) (by omega)
      obtain ⟨p, hp⟩ : ∃ p, p = X + 1 := ⟨_, rfl⟩
      obtain ⟨q, hq⟩ : ∃ q, q = Yn + 1 := ⟨_, rfl⟩
      have wp : IntKind.u64.wrap ((X : Int) + 1) = p := by rw [wrap_u64_of (by omega) (by omega)]; omega
      have wq : IntKind.u64.wrap ((Yn : Int) + 1) = q := by rw [wrap_u64_of (by omega) (by omega)]; omega
      obtain ⟨w3, hupd, hM3, hg3⟩ := HMj.out.store (k := 37) (t := 102) Try.underlying37 Try.underlying102 (by unfold maxLen; omega) (x := (p : Int)) (by simp [Lit.wf, IntKind.min, IntKind.max, IntKind.signed, IntKind.bits]; omega) (.int .u64 q)
      have HM3 : Hid (MapIs w3 Try.prog 37 .u64 w1.heap.size (j + 1 + 1) (nowM keep Y (j + 1))) := by
        show MapIs _ _ _ _ _ _ _
        rw [HNowS.out j _ _ hx hy x0, show ((X : Int) + 1) = p by omega, show ((Yn : Int) + 1) = q by omega]
        exact hM3
      have hb3 := hb.grown hg3 hb.size (by simp)
      clear hM3 hg3 hp hq hx hy g4 g5 gr gb x0 g7 g8 hX hYn
      go_wp2
      go_roundw
      case rel => exact ⟨j + 1, hlt, by go_num, HM3, hb3⟩
      case measure => simp [intOf]; omega
    · obtain rfl : n2 = j := by omega
      obtain ⟨wo, hwo⟩ : ∃ x, x = wr := ⟨wr, rfl⟩
      subst hwo
      have hB0 : Blk (wo.alloc (.cells (madeCells #[Value.int .u64 0] n) 37)) wo.heap.size 37 ((rawL n 0 (R.take 0)).map (Value.int .u64)).toArray := by
        rw [HRaw0.out, List.map_replicate, ← madeCells_one]; exact heap_alloc_new wo _
      have HB0 := Lib.hid hB0
      have hb0 := below_new wo (.cells (madeCells #[Value.int .u64 0] n) 37)
      have hb1o := below_step hb1 hb
      have hwsz := hb.size
      have hbow1 : w1.heap.size < wo.heap.size := HMj.out.lt
      clear hB0
      go_wp2
      clear hmk
      go_loopw [62] (fun i wr => ∃ j : Nat, j ≤ n2 ∧ i = .int .i64 j ∧ Hid (Blk wr wo.heap.size 37 ((rawL n 0 (R.take j)).map (Value.int .u64)).toArray) ∧ Below wo.heap.size wo wr) (fun i _ => n2 - (intOf i).toNat)
      case atStart => exact ⟨0, Nat.zero_le _, rfl, HB0, hb0⟩
      case round =>
        obtain ⟨j, hj, rfl, HBj, hbr⟩ := hrel
        by_cases hlt : j < n2
        · have hbw := below_step hb1o hbr
          have hbow : Below w1.heap.size w1 wr := hb.trans (hbr.mono hwsz)
          obtain ⟨ad, x, rfl, had, hx, cx⟩ := (hr2.below hbw).num hlt
          obtain ⟨adY, y, rfl, hadY, hy, cy⟩ := (hrY.below hbow).num hlt
          obtain ⟨s, i, g1, g2, g3, g4, g5, -, g7, -⟩ := HAtt.out j x y hx hy
          have HAx := HAt.out x i s wr ((hr.below hbw).more hbw.size) g2 g3
          have hst := HStep.out j x y s hx hy g1
          have hlk := HLk.out x (List.mem_of_getElem? hx) s g1
          have how := obj_words g4
          have hrl := refsOf_length g4
          have hbl := bodyOf_length g4
          obtain ⟨-, hsf, hsl⟩ := spotAt_some g1
          have r0 := g4.r0
          have b0 := g4.b0
          have hcl : ((wordOf s.r s.b s.t s.f :: (refsOf a s ++ bodyOf a s)).length : Int) = s.long := by
            rw [List.length_cons, List.length_append, hrl, hbl]; unfold Spot.long; omega
          have hrin : ∀ v ∈ refsOf a s, (Lit.int .u64 v).wf = true := fun v hv => ha v (by
            unfold refsOf at hv
            exact List.mem_of_mem_drop (List.mem_of_mem_take hv))
          have l0 := g4.loc0
          generalize refsOf a s = rs at *
          generalize bodyOf a s = bs at *
          generalize wordOf s.r s.b s.t s.f = Wd at *
          generalize refIx (spotsL a) a s = ri at *
          clear g1 g2 g3 g4 hx hy
          obtain ⟨loc, r, bb, t, fr⟩ := s
          simp only [Spot.long] at g5 hcl how hsf hsl HAx hrl hbl r0 b0 l0
          subst hsf
          subst hsl
          obtain ⟨I, rfl⟩ := Int.eq_ofNat_of_zero_le l0
          obtain ⟨mr, rfl⟩ := Int.eq_ofNat_of_zero_le r0
          obtain ⟨mb, rfl⟩ := Int.eq_ofNat_of_zero_le b0
          obtain ⟨Yn, rfl⟩ := Int.eq_ofNat_of_zero_le g7
          simp only [Int.toNat_natCast] at hrl hbl how HAx hst
          obtain ⟨LN, hLN⟩ : ∃ LN, LN = 1 + mr + mb := ⟨_, rfl⟩
          rw [show (1 + (mr : Int) + mb).toNat = LN by omega] at how
          have hcln : (Wd :: (rs ++ bs)).length = LN := by omega
          have hIL : I + LN ≤ n := by
            have h1 := congrArg List.length how
            rw [hcln, List.length_take, List.length_drop, HAL.out] at h1
            omega
          have hYL : Yn + LN ≤ n := by omega
          have hmr256 : mr ≤ 256 := by omega
          obtain ⟨ada, rfl, hada, hcella⟩ := hr.2 (by omega)
          have hsrc : ∀ (W : World), Below w.heap.size w W → ∀ (j : Nat) (v : Value), ((Wd :: (rs ++ bs)).map (Value.int .u64))[j]? = some v → W.cell? ((ada.add I).add j) = some v := by
            intro W hW j v hv
            rw [← how, List.getElem?_map, List.getElem?_take] at hv
            by_cases hj : j < LN
            · rw [if_pos hj, List.getElem?_drop] at hv
              rw [add_of_add, hW.cell (by rw [block_of_add]; exact hada)]
              exact hcella _ _ (by rw [List.getElem?_map]; exact hv)
            · rw [if_neg hj] at hv; cases hv
          have HSrc := Lib.hid hsrc
          have HAx := Lib.hid HAx
          have HCl := Lib.hid hcln
          have HSt := Lib.hid hst
          have HLk2 := Lib.hid hlk
          have HRin := Lib.hid hrin
          have HRl := Lib.hid hrl
          have HLN := Lib.hid hLN
          obtain ⟨y1, hy1⟩ : ∃ y1, y1 = Yn + 1 := ⟨_, rfl⟩
          obtain ⟨y2, hy2⟩ : ∃ y2, y2 = y1 + mr := ⟨_, rfl⟩
          have e1 : IntKind.i64.wrap ((Yn : Int) + 1) = y1 := by rw [IntWalk.i64_in _ (by omega)]; omega
          have e2 : IntKind.i64.wrap ((y1 : Int) + mr) = y2 := by rw [IntWalk.i64_in _ (by omega)]; omega
          have e3 : IntKind.i64.wrap ((y2 : Int) + mb) = (Yn : Int) + LN := by rw [IntWalk.i64_in _ (by omega)]; omega
          have e4 : ((Yn : Int) + LN).toNat = Yn + LN := by omega
          have e5 : 0 ≤ (Yn : Int) + LN := by omega
          have e6 : (Yn : Int) + LN ≤ n := by omega
          have hne1 : ¬ n = Yn := by omega
          have hne2 : ¬ c = I := by omega
          have hIn : (I : Int) ≤ n := by omega
          have hlt2 := hlt
          clear how hcella hsrc hcln hst hlk hrin hrl hbl hcl hLN hy1 hy2 g5 hbow
          go_wp2_with fail
          refine HAx.out.mono ?_
          rintro e w5 ⟨hb5, A6, c6, A7, c7, rfl, -, -⟩
          have D5 := Blk.new w5 104 #[.int .i64 t, .slice A6 mr c6, .slice A7 mb c7, .bool false]
          have hbn5 := below_new w5 (.cells #[.int .i64 t, .slice A6 mr c6, .slice A7 mb c7, .bool false] 104)
          have hbx := below_step hb5 hbn5
          have B5 := HBj.out.below hbx HBj.out.lt
          have HB5 := Lib.hid B5
          have HD5 := Lib.hid D5
          have hbwx := below_step hbw hbx
          have hbox := below_step hbr hbx
          have d1 := D5.cell 1
          have d2 := D5.cell 2
          simp only [List.getElem?_toArray, List.getElem?_cons_zero, List.getElem?_cons_succ] at d1 d2
          have cyx := cy
          have hsz1o : w1.heap.size ≤ wo.heap.size := hwsz
          have cy5 : (w5.alloc (.cells #[.int .i64 t, .slice A6 mr c6, .slice A7 mb c7, .bool false] 104)).cell? (adY.add j) = some (.int .i64 Yn) := by
            rw [hbx.cell (by rw [block_of_add]; have := hbr.size; omega)]
            exact cy
          have HC : Hid (∀ q, ∃ W1, (Builtin.copy_ #[23, 23] 3 #[.slice (some ⟨wo.heap.size, Yn, none⟩) LN (n - Yn), .slice (some (ada.add I)) (n - I) (c - I)]).run Try.prog ((w5.alloc (.cells #[.int .i64 t, .slice A6 mr c6, .slice A7 mb c7, .bool false] 104)).drewN q) = .ok (goInt LN) W1 ∧
              Blk W1 wo.heap.size 37 ((splice (rawL n 0 (R.take j)) Yn (Wd :: (((rs.take 0).map (refT φ)) ++ (rs.drop 0 ++ bs)))).map (Value.int .u64)).toArray ∧ Blk W1 w5.heap.size 104 #[.int .i64 t, .slice A6 mr c6, .slice A7 mb c7, .bool false] ∧ Below wo.heap.size wo W1) := by
            intro q
            have hne : w5.heap.size ≠ wo.heap.size := by have := hb5.size; have := hbr.size; have := HBj.out.lt; omega
            have hg : ((w5.alloc (.cells #[.int .i64 t, .slice A6 mr c6, .slice A7 mb c7, .bool false] 104)).drewN q).heap[wo.heap.size]? = some (.cells ((rawL n 0 (R.take j)).map (Value.int .u64)).toArray 37 (0, 0)) := B5.drewN q
            refine ⟨_, run_copyK _ _ _ _ 37 1 wo.heap.size Yn LN (n - Yn) (ada.add I) (n - I) (c - I) LN ((rawL n 0 (R.take j)).map (Value.int .u64)) 37 ((Wd :: (rs ++ bs)).map (Value.int .u64)) Try.underlying23 size_u64 hg (Nat.min_eq_right (by omega)) (by rw [List.length_map, HCl.out]; simp) (fun j v hv => HSrc.out _ (below_drewN hbwx q) j v hv) (by rw [List.length_map, List.length_map, HCl.out, HRL.out]; exact hYL) (u64s_one _), ?_, ?_, ?_⟩
            · unfold Blk
              rw [setRow_heap _ _ _ _ _ _ hg, splice_map]
              simp
            · unfold Blk
              rw [setRow_other _ _ _ _ hne]
              exact D5
            · exact below_setRow (below_drewN hbox q) (Nat.le_refl _) _
          clear B5 D5 hbn5 hb5 cyx
          go_wp2
          go_quiet (fail)
          obtain ⟨W1, hrun, HB1, HD1, hbo1⟩ := HC.out nq
          have dd1 := HD1.cell 1
          simp only [List.getElem?_toArray, List.getElem?_cons_zero, List.getElem?_cons_succ] at dd1
          have HB1 := Lib.hid HB1
          clear HD1 HC
          go_wp2
          clear hrun dd1
          go_loopw [20, 100] (fun _ i wr => ∃ q : Nat, q ≤ mr ∧ i = .int .i64 q ∧ Hid (Blk wr wo.heap.size 37 ((splice (rawL n 0 (R.take j)) Yn (Wd :: (((rs.take q).map (refT φ)) ++ (rs.drop q ++ bs)))).map (Value.int .u64)).toArray) ∧ Below wo.heap.size wo wr) (fun _ i _ => mr - (intOf i).toNat)
          case atStart => exact ⟨0, Nat.zero_le _, rfl, HB1, hbo1⟩
          case round =>
            obtain ⟨q, hq, rfl, HBq, hbq⟩ := hrel
            by_cases hltq : q < mr
            · have hjr : q < rs.length := by rw [HRl.out]; exact hltq
              obtain ⟨v, hv⟩ : ∃ v, rs[q]? = some v := ⟨_, List.getElem?_eq_getElem hjr⟩
              have hvw := HRin.out v (List.mem_of_getElem? hv)
              have hnow := HNow.out v (fun h0 => HLk2.out v (List.mem_of_getElem? hv) h0)
              rw [HK2.out] at hnow
              obtain ⟨z, hz⟩ : ∃ z, z = refT φ v := ⟨_, rfl⟩
              rw [← hz] at hnow
              have hM2 := HMj.out.below hbq (by have := HBj.out.lt; have := hbow1; omega)
              have hlook := hM2.look_ok (k := 37) (t := 102) Try.underlying37 Try.underlying102 (zero_u64 _) hvw
              rw [hnow] at hlook
              simp only [Option.getD_some, Option.isSome_some] at hlook
              obtain ⟨q1, hq1⟩ : ∃ q1, q1 = 1 + q := ⟨_, rfl⟩
              have wq1 : IntKind.i64.wrap (1 + (q : Int)) = q1 := by rw [IntWalk.i64_in _ (by omega)]; omega
              have hq1L : q1 < LN := by have := HLN.out; omega
              have hAl : ((rs.take q).map (refT φ)).length = q := by rw [List.length_map, List.length_take]; omega
              have hcsl : (Wd :: (((rs.take q).map (refT φ)) ++ (rs.drop q ++ bs))).length = LN := by
                have := HCl.out
                simp only [List.length_cons, List.length_append, List.length_drop, hAl] at this ⊢
                omega
              have hO : Yn ≤ (rawL n 0 (R.take j)).length := by rw [HRL.out]; omega
              have hlist : (splice (rawL n 0 (R.take j)) Yn (Wd :: (((rs.take q).map (refT φ)) ++ (rs.drop q ++ bs))))[Yn + q1]? = some v := by
                rw [splice_at hO (by rw [hcsl]; exact hq1L), hq1, Nat.add_comm 1 q, List.getElem?_cons_succ, List.getElem?_append_right (by omega), hAl, Nat.sub_self, List.drop_eq_getElem_cons hjr]
                obtain ⟨z1, z2⟩ := List.getElem?_eq_some_iff.1 hv
                rw [← z2]; rfl
              have c1 := HBq.out.cell (Yn + q1)
              rw [List.getElem?_toArray, List.getElem?_map, hlist, Option.map_some] at c1
              have f1 := HBq.out.frozen (Yn + q1)
              have HB2 : Hid (Blk (wr.setCell ⟨wo.heap.size, Yn + q1, none⟩ (.int .u64 z)) wo.heap.size 37 ((splice (rawL n 0 (R.take j)) Yn (Wd :: (((rs.take (q + 1)).map (refT φ)) ++ (rs.drop (q + 1) ++ bs)))).map (Value.int .u64)).toArray) := by
                have h2 := HBq.out.set_ (Yn + q1) (.int .u64 z)
                rw [List.setIfInBounds_toArray, ← List.map_set, splice_set _ hO (by rw [hcsl]; exact hq1L), hq1, mid_set hAl hjr] at h2
                show Blk _ _ _ _
                obtain ⟨z1, z2⟩ := List.getElem?_eq_some_iff.1 hv
                rw [List.take_succ_eq_append_getElem z1, z2, List.map_append, hq1]
                rw [hz] at h2 ⊢
                exact h2
              have hbq2 := hbq.setCell (p := ⟨wo.heap.size, Yn + q1, none⟩) (Nat.le_refl _) (.int .u64 z)
              have hq1' : q + 1 ≤ mr := hltq
              clear hnow hM2 hq1 hAl hcsl hO hlist hz hv hvw hjr hbq
              go_wp2
              go_roundw
              case rel => exact ⟨q + 1, hq1', by go_num, HB2, hbq2⟩
              case measure => simp [intOf]; omega
            · obtain rfl : q = mr := by omega
              have HBn : Hid (Blk wr wo.heap.size 37 ((rawL n 0 (R.take (j + 1))).map (Value.int .u64)).toArray) := by
                show Blk _ _ _ _
                have h2 := HBq.out
                rw [List.take_of_length_le (l := rs) (by rw [HRl.out]; exact Nat.le_refl _), List.drop_of_length_le (l := rs) (by rw [HRl.out]; exact Nat.le_refl _), List.nil_append] at h2
                rw [HSt.out]
                exact h2
              go_wp2
              go_roundw
              case rel => exact ⟨j + 1, hlt2, by go_num, HBn, hbq⟩
              case measure => simp [intOf]; omega
        · obtain rfl : n2 = j := by omega
          rw [HRawA.out] at HBj
          have hbw := below_step hb1o hbr
          have hbow : Below w1.heap.size w1 wr := hb.trans (hbr.mono hwsz)
          have HOY2 := Lib.hid (own_below HOY.out hbow)
          have HBo : Hid (Blk wr wo.heap.size 37 (((G.take 0).foldl setG (rawL n 0 R)).map (Value.int .u64)).toArray) := HBj.out
          clear HMj hbow
          go_wp2_with fail
          refine (HGp.out _ ((hr.below hbw).more hbw.size) ((hr2.below hbw).more hbw.size) ((hr3.below hbw).more hbw.size)).mono ?_
          rintro e w5 ⟨hb5, AG, cG, rfl, hownG⟩
          obtain ⟨kG, hkG⟩ : ∃ kG, kG = G.length := ⟨_, rfl⟩
          rw [← hkG] at hownG hGl ⊢
          have hkG2 : kG ≤ 257 := by omega
          have HKG := Lib.hid hkG
          have HOG := Lib.hid hownG
          have HB5 : Hid (Blk w5 wo.heap.size 37 (((G.take 0).foldl setG (rawL n 0 R)).map (Value.int .u64)).toArray) := HBo.out.below hb5 HBo.out.lt
          have HOY5 := Lib.hid (own_below HOY2.out hb5)
          have hgr : wo.heap.size < wr.heap.size := HBo.out.lt
          have hb5o := below_step hbr hb5
          obtain ⟨wp, hwp⟩ : ∃ x, x = wr := ⟨wr, rfl⟩
          subst hwp
          clear hkG hownG hbr hbw hb5
          go_wp2
          go_loopw [131] (fun i wx => ∃ q : Nat, q ≤ kG ∧ i = .int .i64 q ∧ Hid (Blk wx wo.heap.size 37 (((G.take q).foldl setG (rawL n 0 R)).map (Value.int .u64)).toArray) ∧ Hid (wx.ownsRow wp.heap.size 137 2 (.slice AG kG cG) kG (runsC G)) ∧
            Hid (wx.ownsRow w.heap.size 3 1 (.slice AY n2 cY) n2 (Y.map (.int .i64))) ∧ Below wo.heap.size wo wx) (fun i _ => kG - (intOf i).toNat)
          case atStart => exact ⟨0, Nat.zero_le _, rfl, HB5, HOG, HOY5, hb5o⟩
          case round =>
            obtain ⟨q, hq, rfl, HBq, HOGq, HOYq, hbq⟩ := hrel
            by_cases hltq : q < kG
            · obtain ⟨adG, r, rfl, hadG, hrq, cr0, cr1⟩ := (Reads.of_own HOGq.out).run hltq
              obtain ⟨gi, gk, hre, hg1, -, hg2⟩ := HGM.out r (List.mem_of_getElem? hrq)
              subst hre
              dsimp only at cr0 cr1
              rw [Nat.sub_zero, Nat.zero_add] at hg2
              have HWk := HW.out gk hg1 (by omega)
              have HTk : Hid ((G.take (q + 1)).foldl setG (rawL n 0 R) = ((G.take q).foldl setG (rawL n 0 R)).set gi (wordOf 0 ((gk : Int) - 1) 0 true)) := by
                show _ = _
                obtain ⟨z1, z2⟩ := List.getElem?_eq_some_iff.1 hrq
                rw [List.take_succ_eq_append_getElem z1, z2, List.foldl_append]
                simp [setG]
              obtain ⟨wd, hwd⟩ : ∃ wd, wd = wordOf 0 ((gk : Int) - 1) 0 true := ⟨_, rfl⟩
              rw [← hwd] at HWk HTk
              have HWk := Lib.hid HWk
              have wk : IntKind.i64.wrap ((gk : Int) - 1) = (gk : Int) - 1 := IntWalk.i64_in _ (by omega)
              have hFl : ((G.take q).foldl setG (rawL n 0 R)).length = n := by
                have : ∀ (l : List Rn) (o : List Int), (l.foldl setG o).length = o.length := by
                  intro l
                  induction l with
                  | nil => intro o; rfl
                  | cons r l ih => intro o; rw [List.foldl_cons, ih]; unfold setG; rw [List.length_set]
                exact (this _ _).trans (by rw [← HRawA.out]; exact HRL.out _)
              have hbn := below_new wr (.cells #[.int .i64 gi, .int .i64 gk] 137)
              have DB := Blk.new wr 137 #[.int .i64 gi, .int .i64 gk]
              have BB := HBq.out.alloc (.cells #[.int .i64 gi, .int .i64 gk] 137)
              have OG := HOGq.out.alloc (.cells #[.int .i64 gi, .int .i64 gk] 137)
              have OY := HOYq.out.alloc (.cells #[.int .i64 gi, .int .i64 gk] 137)
              have hbq' := hbq.alloc hbq.size (.cells #[.int .i64 gi, .int .i64 gk] 137)
              have d0 := DB.cell 0
              have d1 := DB.cell 1
              simp only [List.getElem?_toArray, List.getElem?_cons_zero, List.getElem?_cons_succ] at d0 d1
              have DB := DB.drew
              have BB := BB.drew
              have OG := OG.drew
              have OY := OY.drew
              have hbq' := hbq'.drew
              have hgin : (gi : Int) < n := by omega
              have hgi0 : (0 : Int) ≤ gi := by omega
              have hg4 : (((G.take q).foldl setG (rawL n 0 R)).map (Value.int .u64))[gi]? = some (.int .u64 (((G.take q).foldl setG (rawL n 0 R))[gi]'(by omega))) := by
                rw [List.getElem?_map, List.getElem?_eq_getElem (by omega)]; rfl
              obtain ⟨old, hold⟩ : ∃ old, old = ((G.take q).foldl setG (rawL n 0 R))[gi]'(by omega) := ⟨_, rfl⟩
              rw [← hold] at hg4
              obtain ⟨cur, hcur⟩ : ∃ cur, cur = (G.take q).foldl setG (rawL n 0 R) := ⟨_, rfl⟩
              rw [← hcur] at hg4 BB HTk
              have HG4 := Lib.hid hg4
              have hq1 : q + 1 ≤ kG := hltq
              have hblt : wo.heap.size < wr.heap.size := HBq.out.lt
              have hbne : ¬ wr.heap.size = wo.heap.size := by omega
              have hbne2 : ¬ wo.heap.size = wr.heap.size := by omega
              clear hrq hwd hFl hold hcur hg4 HBq HOGq HOYq hbq hbn
              go_wp2
              go_region_held3 (fun w' => w'.cell? ⟨wr.heap.size, 0, none⟩ = some (.int .i64 gi) ∧ w'.cell? ⟨wr.heap.size, 1, none⟩ = some (.int .i64 gk)) (go_keep)
                (first
                  | (go_at_call 53; with_reducible refine (HWk.out _).mono ?_; rintro e w4 ⟨rfl, hb4⟩; have DB := DB.below hb4 DB.lt; have BB := BB.below hb4 BB.lt; have OG := own_below OG hb4; have OY := own_below OY hb4; have hbq' := hbq'.trans (hb4.mono hbq'.size); have d0 := DB.cell 0; have d1 := DB.cell 1; simp only [List.getElem?_toArray, List.getElem?_cons_zero, List.getElem?_cons_succ] at d0 d1; have g4 := BB.cell gi; rw [List.getElem?_toArray, HG4.out] at g4; have f4 := BB.frozen gi))
              have HBn : Hid (Blk (w4.setCell ⟨wo.heap.size, gi, none⟩ (.int .u64 wd)) wo.heap.size 37 (((G.take (q + 1)).foldl setG (rawL n 0 R)).map (Value.int .u64)).toArray) := by
                have h2 := BB.set_ gi (.int .u64 wd)
                rw [List.setIfInBounds_toArray, ← List.map_set, ← HTk.out] at h2
                exact h2
              have HOGn := Lib.hid (own_far OG (p := ⟨wo.heap.size, gi, none⟩) hgr (.int .u64 wd))
              have HOYn := Lib.hid (own_apart OY (p := ⟨wo.heap.size, gi, none⟩) (own_blk_ne OY BB (by decide)) (.int .u64 wd))
              have hbn := hbq'.setCell (p := ⟨wo.heap.size, gi, none⟩) (Nat.le_refl _) (.int .u64 wd)
              clear BB OG OY hbq' DB d0 d1 f4 g4
              go_wp2
              go_roundw
              case rel => exact ⟨q + 1, hq1, by go_num, HBn, HOGn, HOYn, hbn⟩
              case measure => simp [intOf]; omega
            · obtain rfl : kG = q := by omega
              have HBn : Hid (Blk wr wo.heap.size 37 ((chunksW (laidC n 0 R)).map (Value.int .u64)).toArray) := by
                have h2 := HBq.out
                rw [List.take_of_length_le (by rw [← HKG.out]; exact Nat.le_refl _), HF.out] at h2
                exact h2
              have hln : (chunksW (laidC n 0 R)).length = n := by
                rw [← HF.out]
                have : ∀ (l : List Rn) (o : List Int), (l.foldl setG o).length = o.length := by
                  intro l
                  induction l with
                  | nil => intro o; rfl
                  | cons r l ih => intro o; rw [List.foldl_cons, ih]; unfold setG; rw [List.length_set]
                exact (this _ _).trans (by rw [← HRawA.out]; exact HRL.out _)
              have HLn := Lib.hid hln
              clear hln
              go_wp2
              go_ret3
              refine ⟨below_step hb1o hbq, some ⟨wo.heap.size, 0, none⟩, n, AY, cY, rfl, ?_, HOYq.out⟩
              have hcl := own_close (w := wr) (base := w.heap.size) (e := 37) (size := 1) (n := n) (c := n) (g := wo.heap.size) ((chunksW (laidC n 0 R)).map (Value.int .u64)) hb1o.size HBn.out (Nat.le_refl _) (by unfold maxLen; omega) (by rw [List.length_map, HLn.out, Nat.mul_one])
              rw [Nat.mul_one, List.take_of_length_le (by rw [List.length_map, HLn.out]; exact Nat.le_refl _)] at hcl
              exact hcl
end Go.Proofs.Ytbmkbnalembbjaa

namespace Go.Proofs.Ytbmkbnalembbjaa
open Go.RowKit
set_option maxRecDepth 100000 in
set_option maxHeartbeats 400000 in
theorem growInt_nil (n : Nat) (w : World) (hn : n ≤ 35184372088832) :
    Calls Try.prog 68 #[.slice none 0 0, .int .i64 n] w fun e w' => ∃ A' c', e = .returned (.slice A' 0 c') ∧ w'.ownsRow w.heap.size 3 1 (.slice A' 0 c') 0 [] ∧ n ≤ c' ∧ Below w.heap.size w w' := by
  obtain ⟨i0, hi, hz0, hz1, hz2⟩ := info_parts info_int
  by_cases h0 : n = 0
  · subst h0
    go_enter Try.func68, Try.ntmps68
    go_wp2
    go_ret
    exact ⟨none, 0, rfl, World.ownsRow_nil _ _ _ _, Nat.le_refl _, Below.refl _ _⟩
  · have hw : IntKind.i64.wrap (n : Int) = n := IntWalk.i64_in _ (by omega)
    have g1 : decide (0 < n) = true := decide_eq_true (by omega)
    have hrun := fun ty => Lib.run_append_nil_zeros (P := Try.prog) w 24 3 ty 3 i0 _ .i64 .i64 Try.underlying24 Try.underlying3 hi hz0 n (by omega) (by rw [hz1]; decide) (by omega) (by rw [hz2]; omega)
    obtain ⟨cap, hcap, hc1, hc2⟩ : ∃ cap, cap = grownCap w n 0 3 ∧ n ≤ cap ∧ cap ≤ maxLen := ⟨_, rfl, grownCap_ge .., grownCap_le_maxLen _ _ _ _ (by unfold maxLen; omega)⟩
    rw [← hcap] at hrun
    have hsz : (Builtin.zeroCells (Value.int .i64 0).cells n ++ Builtin.zeroCells (Value.int .i64 0).cells (cap - n)).size = cap * 1 := by
      rw [Array.size_append, size_zeroCells, size_zeroCells]
      have : (Value.int .i64 0).cells.size = 1 := rfl
      rw [this]; omega
    generalize hcs : Builtin.zeroCells (Value.int .i64 0).cells n ++ Builtin.zeroCells (Value.int .i64 0).cells (cap - n) = cs at *
    have hfin : (w.drew.alloc (.cells cs 3)).ownsRow w.heap.size 3 1 (.slice (some ⟨w.heap.size, 0, none⟩) 0 cap) 0 [] := by
      have := own_close (w := w.drew.alloc (.cells cs 3)) (base := w.heap.size) (e := 3) (size := 1) (n := 0) (c := cap) (g := w.heap.size) cs.toList (Nat.le_refl _) (by simpa using heap_alloc_new w.drew _) (Nat.zero_le _) hc2 (by simpa using hsz)
      simpa using this
    have HF := Lib.hid hfin
    clear hfin hsz hcs hcap
    go_enter Try.func68, Try.ntmps68
    go_wp2_with (at_builtin; refine Lib.wpList_append_run _ rfl _ _ _ _ rfl _ _ rfl rfl _ _ (hrun _) ?_)
    go_ret
    exact ⟨_, _, rfl, HF.out, hc1, (Below.refl _ _).drew.alloc (Nat.le_refl _) _⟩
theorem Reads.pair {w : World} {B : Nat} {A : Option Addr} {x y : Value} (h : Reads w B 1 A 2 [x, y]) : ∃ ad, A = some ad ∧ ad.block < B ∧ w.cell? ad = some x ∧ w.cell? ⟨ad.block, ad.off + 1, none⟩ = some y := by
  obtain ⟨ad, u, e, hb, hu, hc⟩ := h.at_ (k := 0) (by decide)
  obtain ⟨ad', u', e', hb', hu', hc'⟩ := h.at_ (k := 1) (by decide)
  obtain rfl : ad' = ad := by rw [e] at e'; injection e' with e'; exact e'.symm
  simp at hu hu'
  subst hu
  subst hu'
  exact ⟨ad', e, hb, by simpa [Addr.add] using hc, by rw [addr_add_pos _ _ (by decide)] at hc'; exact hc'⟩
set_option maxRecDepth 100000 in
set_option maxHeartbeats 1000000 in
theorem concat2_int (A1 : Option Addr) (q1 c1 : Nat) (xs1 : List Value) (A2 : Option Addr) (q2 c2 : Nat) (xs2 : List Value) (Av : Option Addr) (cv : Nat) (w : World)
    (hv : Reads w w.heap.size 1 Av 2 [.slice A1 q1 c1, .slice A2 q2 c2]) (h1 : Reads w w.heap.size 1 A1 q1 xs1) (h2 : Reads w w.heap.size 1 A2 q2 xs2)
    (o1 : ∀ u ∈ xs1, u.oneCell' = true) (o2 : ∀ u ∈ xs2, u.oneCell' = true) (hq : q1 + q2 ≤ 35184372088832) :
    Calls Try.prog 46 #[.slice Av 2 cv] w fun e w' => ∃ A' c', e = .returned (.slice A' (q1 + q2) c') ∧ w'.ownsRow w.heap.size 3 1 (.slice A' (q1 + q2) c') (q1 + q2) (xs1 ++ xs2) ∧ Below w.heap.size w w' := by
  obtain ⟨i0, hi, hz0, hz1, hz2⟩ := info_parts info_int
  obtain ⟨ad, rfl, hbl, k0, k1⟩ := hv.pair
  obtain ⟨S, hS⟩ : ∃ S, S = q1 + q2 := ⟨_, rfl⟩
  have wS : IntKind.i64.wrap ((q1 : Int) + q2) = (S : Int) := by rw [IntWalk.i64_in _ (by omega)]; omega
  have wQ : IntKind.i64.wrap (q1 : Int) = (q1 : Int) := IntWalk.i64_in _ (by omega)
  have HG := Lib.hid (fun w => growInt_nil S w (by omega))
  have HS := Lib.hid hS
  rw [← hS]
  clear hS hv
  go_enter Try.func46, Try.ntmps46
  go_wp2_with fail
  go_loop [3, 5, 11] (fun sz _ i => (i = .int .i64 0 ∧ sz = .int .i64 0) ∨ (i = .int .i64 1 ∧ sz = .int .i64 q1) ∨ (i = .int .i64 2 ∧ sz = .int .i64 S)) (fun _ _ i => 2 - (intOf i).toNat)
  case atStart => exact .inl ⟨rfl, rfl⟩
  case round =>
    rcases hrel with ⟨rfl, rfl⟩ | ⟨rfl, rfl⟩ | ⟨rfl, rfl⟩
    · go_wp2_with fail
      go_round
      case rel => exact .inr (.inl ⟨rfl, rfl⟩)
      case measure => simp [intOf]
    · go_wp2_with fail
      go_round
      case rel => exact .inr (.inr ⟨rfl, rfl⟩)
      case measure => simp [intOf]
    · go_wp2_with fail
      refine (HG.out _).mono ?_
      rintro e w1 ⟨A', c', rfl, hown, hcap, hb⟩
      rw [HS.out] at hcap
      go_wp2
      go_loopw [6, 8, 27] (fun ns _ i wr => Below w.heap.size w wr ∧ ((∃ A' c', i = .int .i64 0 ∧ ns = .slice A' 0 c' ∧ wr.ownsRow w.heap.size 3 1 (.slice A' 0 c') 0 [] ∧ q1 + q2 ≤ c') ∨
        (∃ A' c', i = .int .i64 1 ∧ ns = .slice A' q1 c' ∧ wr.ownsRow w.heap.size 3 1 (.slice A' q1 c') q1 xs1 ∧ q1 + q2 ≤ c') ∨
        (∃ A' c', i = .int .i64 2 ∧ ns = .slice A' S c' ∧ wr.ownsRow w.heap.size 3 1 (.slice A' S c') S (xs1 ++ xs2)))) (fun _ _ i _ => 2 - (intOf i).toNat)
      case atStart => exact ⟨hb, .inl ⟨_, _, rfl, rfl, hown, hcap⟩⟩
      case round =>
        obtain ⟨hb, ⟨A', c', rfl, rfl, hown, hcap⟩ | ⟨A', c', rfl, rfl, hown, hcap⟩ | ⟨A', c', rfl, rfl, hown⟩⟩ := hrel
        · have m0 := (hb.cell (p := ad) hbl).trans k0
          obtain ⟨w2, hrun, hown2, hgr⟩ := run_append_fit (P := Try.prog) wr w.heap.size 24 24 3 i0 1 Try.underlying24 hi hz1 A' 0 c' [] hown w.heap.size A1 q1 c1 xs1 (h1.below hb) o1 (by decide) (by omega)
          go_wp2_with (at_builtin; refine Lib.wpList_append_run _ rfl _ _ _ _ rfl _ _ rfl rfl _ _ hrun ?_)
          have hb2 : Below w.heap.size w w2 := hb.grown hgr hb.size (fun g hg => (hown.lt g hg).1)
          rw [Nat.zero_add, List.nil_append] at hown2
          go_roundw
          case rel => exact ⟨hb2, .inr (.inl ⟨_, _, rfl, by simp, hown2, hcap⟩)⟩
          case measure => simp [intOf]
        · have m0 := (hb.cell (p := ⟨ad.block, ad.off + 1, none⟩) hbl).trans k1
          obtain ⟨w2, hrun, hown2, hgr⟩ := run_append_fit (P := Try.prog) wr w.heap.size 24 24 3 i0 1 Try.underlying24 hi hz1 A' q1 c' xs1 hown w.heap.size A2 q2 c2 xs2 (h2.below hb) o2 (by decide) hcap
          go_wp2_with (at_builtin; refine Lib.wpList_append_run _ rfl _ _ _ _ rfl _ _ rfl rfl _ _ hrun ?_)
          have hb2 : Below w.heap.size w w2 := hb.grown hgr hb.size (fun g hg => (hown.lt g hg).1)
          rw [← HS.out] at hown2
          go_roundw
          case rel => exact ⟨hb2, .inr (.inr ⟨_, _, rfl, by rw [HS.out], hown2⟩)⟩
          case measure => simp [intOf]
        · go_wp2
          go_ret
          exact ⟨A', c', rfl, hown, hb⟩
end Go.Proofs.Ytbmkbnalembbjaa

namespace Go.Proofs.Ytbmkbnalembbjaa
open Go.RowKit
set_option maxHeartbeats 400000 in
theorem slide_bad (A A2 A3 : Option Addr) (n c n2 c2 m c3 : Nat) (a keep pinned : List Int) (w : World) (hr : Reads w w.heap.size 1 A n (a.map (.int .u64))) (hnc : n ≤ c) (ha : ∀ x ∈ a, (Lit.int .u64 x).wf = true)
    (hr2 : Reads w w.heap.size 1 A2 n2 (keep.map (.int .i64))) (hr3 : Reads w w.heap.size 1 A3 m (pinned.map (.int .i64))) (hn2 : n2 * 8 ≤ 140737488351232) (hm : m ≤ 1000000000000000000) (hE : longsE a keep pinned ≠ 0) :
    Calls Try.prog 47 #[.slice A n c, .slice A2 n2 c2, .slice A3 m c3] w fun e w' => e = .returned (.tuple #[.slice none 0 0, .slice none 0 0, .int .i64 (longsE a keep pinned)]) ∧ Below w.heap.size w w' := by
  have H1 := Lib.hid (fun w hr hr2 hr3 => planTo_bad A A2 A3 n c n2 c2 m c3 a keep pinned w hr hnc ha hr2 hr3 hn2 hm hE)
  have hE1 : (longsE a keep pinned != 0) = true := by simpa using hE
  generalize longsE a keep pinned = E at *
  clear hE
  go_enter Try.func47, Try.ntmps47
  go_wp2_with fail
  refine (H1.out _ hr hr2 hr3).mono ?_
  rintro e w1 ⟨rfl, hb1⟩
  go_wp2
  go_ret3
  exact ⟨rfl, hb1⟩
def CleanOk (a f p : List Int) : Prop := checkE a = 0 ∧ (∀ x ∈ f ++ p, x ∈ begsL (spotsL a)) ∧ risesP p = true
theorem pairwise_rises : ∀ {l : List Int}, l.Pairwise (· < ·) → risesP l = true
  | [], _ => rfl
  | [_], _ => rfl
  | x :: y :: t, h => by
    obtain ⟨h1, h2⟩ := List.pairwise_cons.1 h
    simp only [risesP, Bool.and_eq_true, decide_eq_true_eq]
    exact ⟨h1 y List.mem_cons_self, pairwise_rises h2⟩
theorem reached_rises {a f L : List Int} {S : List Spot} (h : Reached a S f L) : risesP L = true := by
  refine pairwise_rises ?_
  have h1 := h.sorted
  have h2 := List.nodup_iff_pairwise_ne.1 h.once
  exact (List.Pairwise.and h1 h2).imp (fun ⟨h, h'⟩ => by omega)
theorem begs_ix {S : List Spot} {x : Int} (h : x ∈ begsL S) : 0 ≤ ixOf (pL x) S := by
  obtain ⟨s, hs⟩ := begsL_iff.1 h
  obtain ⟨h1, h2, h3⟩ := spotAt_some hs
  rcases ixOf_cases (pL x) S with ⟨-, e2⟩ | ⟨i, s', e1, -⟩
  · have := e2 s h1
    simp [pL, h2, h3] at this
  · omega
theorem clean_longs {a f p L : List Int} (h0 : checkE a = 0) (h : Reached a (spotsL a) (f ++ p) L) : (risesP p = true → longsE a L p = 0) ∧ (risesP p = false → longsE a L p = 3) := by
  constructor
  · intro hp
    exact longsE_ok.2 ⟨h0, reached_rises h, hp, fun x hx => begs_ix (h.begs x hx), fun x hx => h.roots x (List.mem_append_right _ hx)⟩
  · intro hp
    unfold longsE
    rw [if_neg (by simp [h0]), if_pos (by simp [hp])]
theorem reached_closed {a f L : List Int} (h0 : checkE a = 0) (h : Reached a (spotsL a) f L) : ClosedL a L :=
  ⟨h.begs, h.closed, fun x hx => (begsL_bounds (checkE_ok.1 h0).1 x (h.begs x hx)).1⟩
structure CleanIs (a f p L Y b now : List Int) : Prop where
  check : checkE a = 0
  rises : risesP p = true
  reached : Reached a (spotsL a) (f ++ p) L
  longs : longsE a L p = 0
  y : Y = slidGo p 0 L (longsV a L p)
  b : b = slidW a L p
  now : now = f.map (posL L Y)
set_option maxRecDepth 100000 in
set_option maxHeartbeats 2000000 in
theorem clean_any (A : Option Addr) (n c : Nat) (a : List Int) (A2 : Option Addr) (n2 c2 : Nat) (f : List Int) (A3 : Option Addr) (m c3 : Nat) (p : List Int) (w : World) (hr : Reads w w.heap.size 1 A n (a.map (.int .u64))) (hnc : n ≤ c) (hc : c ≤ maxLen) (ha : ∀ x ∈ a, (Lit.int .u64 x).wf = true)
    (hr2 : Reads w w.heap.size 1 A2 n2 (f.map (.int .i64))) (hn2 : n2 * 8 ≤ 140737488351232) (hx2 : ∀ x ∈ f, (Lit.int .i64 x).wf = true) (hr3 : Reads w w.heap.size 1 A3 m (p.map (.int .i64))) (hm : m * 8 ≤ 140737488351232) (hx3 : ∀ x ∈ p, (Lit.int .i64 x).wf = true) :
    Calls Try.prog 29 #[.slice A n c, .slice A2 n2 c2, .slice A3 m c3] w fun e w' => Below w.heap.size w w' ∧
      ((CleanOk a f p ∧ ∃ (L Y b now : List Int) (A1 : Option Addr) (c1 : Nat) (A4 : Option Addr) (c4 : Nat), CleanIs a f p L Y b now ∧ e = .returned (.tuple #[.slice A1 n c1, .slice A4 n2 c4, .int .i64 0]) ∧
          w'.ownsRow w.heap.size 37 1 (.slice A1 n c1) n (b.map (.int .u64)) ∧ w'.ownsRow w.heap.size 3 1 (.slice A4 n2 c4) n2 (now.map (.int .i64))) ∨
       (¬ CleanOk a f p ∧ ∃ er : Int, (er != 0) = true ∧ e = .returned (.tuple #[.slice none 0 0, .slice none 0 0, .int .i64 er]))) := by
  have hfl : f.length = n2 := by have := hr2.1; simpa using this
  have hpl : p.length = m := by have := hr3.1; simpa using this
  have hv := reads_new w [.slice A2 n2 c2, .slice A3 m c3] 24 2 1 rfl
  have hbn := below_new w (.cells #[.slice A2 n2 c2, .slice A3 m c3] 24)
  have HCo := Lib.hid (concat2_int A2 n2 c2 (f.map (.int .i64)) A3 m c3 (p.map (.int .i64)) (some ⟨w.heap.size, 0, none⟩) 2 _ (hv.more (by simp)) ((hr2.below hbn).more hbn.size) ((hr3.below hbn).more hbn.size) (ints_one f) (ints_one p) (by omega))
  have hxx : ∀ x ∈ f ++ p, (Lit.int .i64 x).wf = true := fun x hx => by
    rcases List.mem_append.1 hx with h | h
    · exact hx2 x h
    · exact hx3 x h
  by_cases hE : checkE a = 0
  · have HR := Lib.hid (fun A4 c4 w hr hr4 => reach_ok A n c a A4 (n2 + m) c4 (f ++ p) w hr hnc ha hr4 (by omega) hxx hE)
    have HSO := Lib.hid (fun A4 c4 L k w hr hr4 hr3 (hk : k = L.length) hkl (h1 : Reached a (spotsL a) (f ++ p) L) (h2 : risesP p = true) => slide_ok A A4 A3 n c k c4 m c3 a L p w hr hnc hc ha hr4 hr3 hkl (by omega) ((clean_longs hE h1).1 h2) (reached_closed hE h1))
    have HSB := Lib.hid (fun A4 c4 L k w hr hr4 hr3 (hk : k = L.length) hkl (h1 : Reached a (spotsL a) (f ++ p) L) (h2 : risesP p = false) => by
      have := slide_bad A A4 A3 n c k c4 m c3 a L p w hr hnc ha hr4 hr3 hkl (by omega) (by rw [(clean_longs hE h1).2 h2]; decide)
      rw [(clean_longs hE h1).2 h2] at this
      exact this)
    have HPl := Lib.hid (fun L (h1 : Reached a (spotsL a) (f ++ p) L) (h2 : risesP p = true) => planned_of ((clean_longs hE h1).1 h2))
    have HIs := Lib.hid (fun L (h1 : Reached a (spotsL a) (f ++ p) L) (h2 : risesP p = true) => (⟨hE, h2, h1, (clean_longs hE h1).1 h2, rfl, rfl, rfl⟩ : CleanIs a f p L (slidGo p 0 L (longsV a L p)) (slidW a L p) (f.map (posL L (slidGo p 0 L (longsV a L p))))))
    have HNo : Hid (∀ z ∈ f ++ p, z ∉ begsL (spotsL a) → ¬ CleanOk a f p) := fun z hz hz2 h => hz2 (h.2.1 z hz)
    have HNo2 : Hid (risesP p = false → ¬ CleanOk a f p) := fun h1 h => by rw [h.2.2] at h1; cases h1
    have HYes : Hid (∀ L, Reached a (spotsL a) (f ++ p) L → risesP p = true → CleanOk a f p) := fun L h1 h2 => ⟨hE, fun x hx => h1.begs x (h1.roots x hx), h2⟩
    have HBB := Lib.hid (begsL_bounds (checkE_ok.1 hE).1)
    generalize spotsL a = S at *
    have HFL := Lib.hid hfl
    obtain ⟨i0, hi, hz0, hz1, hz2⟩ := info_parts info_int
    have hn2b : n2 ≤ 100000000000000 := by omega
    clear hfl hpl hv hxx hE
    go_enter Try.func29, Try.ntmps29
    go_wp2_with fail
    refine HCo.out.mono ?_
    rintro e w1 ⟨A4, c4, rfl, hown4, hb1⟩
    rw [← List.map_append] at hown4
    have hb01 := below_step hbn hb1
    have hr4 := Reads.of_own hown4
    clear hown4 hbn hb1
    go_wp2_with fail
    refine (HR.out _ _ _ ((hr.below hb01).more hb01.size) hr4).mono ?_
    rintro e w2 ⟨hb2, ⟨L, A5, c5, hL, rfl, hown5⟩ | ⟨⟨z, hz, hz2⟩, rfl⟩⟩
    · have hb02 := below_step hb01 hb2
      have hL256 : L.length ≤ 256 := nodup_bound 256 L hL.once (fun x hx => HBB.out x (hL.begs x hx))
      have hr5 := Reads.of_own hown5
      obtain ⟨k, hk⟩ : ∃ k, k = L.length := ⟨_, rfl⟩
      rw [← hk] at hr5 hL256 ⊢
      cases hp : risesP p
      · have HS := Lib.hid (HSB.out A5 c5 L k w2 ((hr.below hb02).more hb02.size) hr5 ((hr3.below hb02).more hb02.size) hk (by omega) hL hp)
        have HN := Lib.hid (HNo2.out hp)
        clear hp hown5 hL hr5 hk
        go_wp2_with fail
        refine HS.out.mono ?_
        rintro e w3 ⟨rfl, hb3⟩
        go_wp2
        go_ret3
        exact ⟨below_step hb02 hb3, .inr ⟨HN.out, 3, by decide, rfl⟩⟩
      · have HS := Lib.hid (HSO.out A5 c5 L k w2 ((hr.below hb02).more hb02.size) hr5 ((hr3.below hb02).more hb02.size) hk (by omega) hL hp)
        have HI := HIs.out L hL hp
        have HP := HPl.out L hL hp
        have HY := Lib.hid (HYes.out L hL hp)
        have hLf : ∀ x ∈ f, x ∈ L := fun x hx => hL.roots x (List.mem_append_left _ hx)
        have hYl := HP.len
        have hnd := HP.nodup
        rw [← hk] at hYl
        generalize slidGo p 0 L (longsV a L p) = Y at *
        generalize slidW a L p = b at *
        obtain ⟨φ, hφ⟩ : ∃ φ, φ = posL L Y := ⟨_, rfl⟩
        rw [← hφ] at HI
        have hix : ∀ x ∈ L, ∃ (q : Nat) (y : Int), q < k ∧ ixOf (fun z => x == z) L = q ∧ Y[q]? = some y ∧ φ x = y := fun x hx => by
          obtain ⟨q, y, h1, h2, h3⟩ := posL_ex (keep := L) (Y := Y) hnd (by rw [hYl, hk]) hx
          exact ⟨q, y, by rw [hk]; exact (List.getElem?_eq_some_iff.1 h1).1, idxL_at hnd h1, h2, by rw [hφ]; exact h3⟩
        have HIX := Lib.hid hix
        have HI := Lib.hid HI
        have HLf := Lib.hid hLf
        clear hp hL hk HP hLf hYl hnd hφ hix hown5
        go_wp2_with fail
        refine HS.out.mono ?_
        rintro e w3 ⟨hb3, A1, c1, AY, cY, rfl, hown1, hownY⟩
        have hb03 := below_step hb02 hb3
        have HO1 := Lib.hid (own_mono hown1 hb02.size)
        have hrY := Reads.of_own hownY
        have hr53 := (hr5.below hb3).more hb3.size
        clear hown1 hownY hb02 hb2 hb01 hb3 hr5
        go_wp2
        go_loopw [13, 41] (fun v i wr => ∃ (j : Nat) (A6 : Option Addr) (c6 : Nat), j ≤ n2 ∧ v = .slice A6 j c6 ∧ i = .int .i64 j ∧ wr.ownsRow w3.heap.size 3 1 (.slice A6 j c6) j (((f.take j).map φ).map (.int .i64)) ∧ Below w3.heap.size w3 wr) (fun _ i _ => n2 - (intOf i).toNat)
        case atStart => exact ⟨0, none, 0, Nat.zero_le _, rfl, rfl, World.ownsRow_nil _ _ _ _, Below.refl _ _⟩
        case round =>
          obtain ⟨j, A6, c6, hj, rfl, rfl, hown, hb⟩ := hrel
          have hbw := below_step hb03 hb
          by_cases hlt : j < n2
          · obtain ⟨ad, x, rfl, had, hx, cx⟩ := (hr2.below hbw).num hlt
            obtain ⟨q, y, q1, q2, q3, q4⟩ := HIX.out x (HLf.out x (List.mem_of_getElem? hx))
            obtain ⟨adY, y', rfl, hadY, hy', cy⟩ := (hrY.below hb).num q1
            obtain rfl : y = y' := Option.some.inj (q3.symm.trans hy')
            have HX := index_int A5 k c5 w3.heap.size L x wr (hr53.below hb) (by omega)
            rw [q2] at HX
            have HX := Lib.hid HX
            have hown2 := hown.alloc (.cells #[.int .i64 y] 3)
            have hb2 := hb.alloc hb.size (.cells #[.int .i64 y] 3)
            have hnew := reads_new wr [.int .i64 y] 3 1 1 rfl
            have HT : Hid ((f.take (j + 1)).map φ = (f.take j).map φ ++ [y]) := by
              show _ = _
              obtain ⟨z1, z2⟩ := List.getElem?_eq_some_iff.1 hx
              rw [List.take_succ_eq_append_getElem z1, z2, List.map_append, ← q4]
              rfl
            have hj1 : j + 1 ≤ n2 := hlt
            have hsz := hb.size
            clear q2 q3 q4 hx hy' hown hb
            go_wp2_with fail
            refine HX.out.mono ?_
            rintro e w5 ⟨rfl, rfl⟩
            go_wp2_with (at_builtin; refine wpList_append_any _ rfl (.tmp 45) (.tmp 52) 24 rfl w3.heap.size 3 i0 (.int .i64 0) 1 8 Try.underlying24 hi hz0 hz1 hz2 rfl (by decide) (.slice A6 j c6) j _ rfl hown2 (wr.heap.size + 1) (some ⟨wr.heap.size, 0, none⟩) 1 1 [.int .i64 y] rfl hnew (by simp [Value.oneCell']) (by unfold maxLen; omega) (by omega) (by simp; omega) ?_; rintro v' w5 hown5 hgr - -; obtain ⟨A7, c7, rfl⟩ := own_slice hown5)
            have hb5 := hb2.grown hgr hb2.size (fun g hg => (hown2.lt g hg).1)
            go_roundw
            case rel => exact ⟨j + 1, A7, c7, hj1, rfl, by go_num, by rw [HT.out, List.map_append]; exact hown5, hb5⟩
            case measure => simp [intOf]; omega
          · obtain rfl : n2 = j := by omega
            rw [List.take_of_length_le (by rw [HFL.out]; exact Nat.le_refl _)] at hown
            have HO1' := own_below HO1.out hb
            go_wp2
            go_ret3
            exact ⟨hbw, .inl ⟨HY.out, L, Y, b, f.map φ, A1, c1, A6, c6, HI.out, rfl, HO1', own_mono hown (by have := hb03.size; omega)⟩⟩
    · have HN := Lib.hid (HNo.out z hz hz2)
      have hb02 := below_step hb01 hb2
      clear hz hz2
      go_wp2
      go_ret3
      exact ⟨hb02, .inr ⟨HN.out, 5, by decide, rfl⟩⟩
  · have HR := Lib.hid (fun A4 c4 w hr => reach_bad A n c a A4 (n2 + m) c4 w hr hnc ha hE)
    have HN : Hid (¬ CleanOk a f p) := fun h => hE h.1
    have hE1 : (checkE a != 0) = true := by simpa using hE
    generalize checkE a = E at *
    clear hE hfl hpl hv hxx
    go_enter Try.func29, Try.ntmps29
    go_wp2_with fail
    refine HCo.out.mono ?_
    rintro e w1 ⟨A4, c4, rfl, hown4, hb1⟩
    have hb01 := below_step hbn hb1
    clear hown4
    go_wp2_with fail
    refine (HR.out _ _ _ ((hr.below hb01).more hb01.size)).mono ?_
    rintro e w2 ⟨rfl, hb2⟩
    go_wp2
    go_ret3
    exact ⟨below_step hb01 hb2, .inr ⟨HN.out, E, hE1, rfl⟩⟩
end Go.Proofs.Ytbmkbnalembbjaa
