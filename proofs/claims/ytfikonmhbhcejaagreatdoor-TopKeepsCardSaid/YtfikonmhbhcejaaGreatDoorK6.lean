/-
  Texts joined: CarryOrd Objects Form.
-/
import Derived.Deep.RegionHeld3
import Derived.Test.YtfikonmhbhcejaaGreatDoorK0
import Derived.Test.YtfikonmhbhcejaaGreatDoorK4
import Derived.Test.YtfikonmhbhcejaaGreatDoorK5
namespace Go.Proofs.YtfikonmhbhcejaaGreatDoor
open Go.RowKit
def Named (a : List Int) (S : List Spot) (f out : List Int) : Prop := ∀ (i : Nat) (x : Int), out[i]? = some x → x ∈ f ∨ ∃ (j : Nat) (y : Int), j < i ∧ out[j]? = some y ∧ x ∈ linksAt a S y
theorem Named.add {a : List Int} {S : List Spot} {f out : List Int} {x : Int} (h : Named a S f out) (hx : x ∈ f ∨ ∃ (j : Nat) (y : Int), j < out.length ∧ out[j]? = some y ∧ x ∈ linksAt a S y) : Named a S f (addL out x) := by
  unfold addL
  split
  · exact h
  · intro i z hz
    by_cases hi : i < out.length
    · rw [List.getElem?_append_left hi] at hz
      rcases h i z hz with h1 | ⟨j, y, h1, h2, h3⟩
      · exact .inl h1
      · exact .inr ⟨j, y, h1, by rw [List.getElem?_append_left (by omega)]; exact h2, h3⟩
    · rw [List.getElem?_append_right (by omega)] at hz
      obtain ⟨q1, q2⟩ := List.getElem?_eq_some_iff.1 hz
      simp only [List.length_singleton] at q1
      have q3 : i - out.length = 0 := by omega
      simp only [q3, List.getElem_cons_zero] at q2
      subst q2
      rcases hx with h1 | ⟨j, y, h1, h2, h3⟩
      · exact .inl h1
      · exact .inr ⟨j, y, by omega, by rw [List.getElem?_append_left h1]; exact h2, h3⟩
theorem Named.adds {a : List Int} {S : List Spot} {f : List Int} {i : Nat} {x : Int} : ∀ {out : List Int} (l : List Int), Named a S f out → out[i]? = some x → (∀ y ∈ l, y ∈ linksAt a S x) → Named a S f (l.foldl addL out)
  | _, [], h, _, _ => h
  | out, y :: l, h, hx, hl => by
    have hi := (List.getElem?_eq_some_iff.1 hx).1
    have h1 := h.add (x := y) (.inr ⟨i, x, hi, hx, hl y List.mem_cons_self⟩)
    have hx1 : (addL out y)[i]? = some x := by
      unfold addL
      split
      · exact hx
      · rw [List.getElem?_append_left hi]; exact hx
    exact Named.adds l h1 hx1 (fun z hz => hl z (List.mem_cons_of_mem _ hz))
def ComeSt (w0 : World) (out : List Int) (w : World) : Prop :=
  ∃ Ao co, Blk w w0.heap.size 36 #[.slice Ao out.length co] ∧ w.ownsRow (w0.heap.size + 1) 3 1 (.slice Ao out.length co) out.length (out.map (.int .i64)) ∧ Below w0.heap.size w0 w
theorem ComeSt.below {w0 w w' : World} {out : List Int} (h : ComeSt w0 out w) (hb : Below w.heap.size w w') : ComeSt w0 out w' := by
  obtain ⟨Ao, co, h1, h2, h3⟩ := h
  exact ⟨Ao, co, h1.below hb h1.lt, own_below h2 hb, h3.trans (hb.mono h3.size)⟩
set_option maxRecDepth 100000 in
set_option maxHeartbeats 1000000 in
theorem come_any (w0 : World) (out : List Int) (x : Int) (w : World) (h : ComeSt w0 out w) (hl : out.length ≤ 100000) :
    Calls Tryz.prog 128 #[.int .i64 x, .pointer (some ⟨w0.heap.size, 0, none⟩)] w fun e w' => e = .returned (.tuple #[]) ∧ ComeSt w0 (addL out x) w' := by
  obtain ⟨Ao, co, h2, h4, h5⟩ := h
  have d0 := h2.cell 0
  simp only [List.getElem?_toArray, List.getElem?_cons_zero] at d0
  by_cases hm : x ∈ out
  · have e2 : addL out x = out := by unfold addL; rw [if_pos hm]
    rw [e2]
    have HC := Lib.hid (contains_int Ao out.length co _ out x true w (Reads.of_own h4) (by omega) (decide_eq_true hm))
    have HS : Hid (ComeSt w0 out w) := ⟨Ao, co, h2, h4, h5⟩
    clear e2 hm h2 h4 h5
    go_enter Tryz.func128, Tryz.ntmps128
    go_wp2_with fail
    refine HC.out.mono ?_
    rintro e w' ⟨rfl, rfl⟩
    go_wp2
    go_end0
    exact ⟨rfl, HS.out⟩
  · have e2 : addL out x = out ++ [x] := by unfold addL; rw [if_neg hm]
    rw [e2]
    have HC := Lib.hid (contains_int Ao out.length co _ out x false w (Reads.of_own h4) (by omega) (decide_eq_false hm))
    have hwl := h2.lt
    have hD2 := h2.alloc (.cells #[.int .i64 x] 3)
    have hO2 := h4.alloc (.cells #[.int .i64 x] 3)
    have hb2 := h5.alloc h5.size (.cells #[.int .i64 x] 3)
    obtain ⟨i0, hi, hz0, hz1, hz2⟩ := info_parts info_int
    obtain ⟨k, hk⟩ : ∃ k, k = out.length := ⟨_, rfl⟩
    rw [← hk] at hO2 hD2 d0 hl HC
    have HK := Lib.hid hk
    have HD2 := Lib.hid hD2
    clear e2 hm h2 h4 h5 hD2 hk
    go_enter Tryz.func128, Tryz.ntmps128
    go_wp2_with fail
    refine HC.out.mono ?_
    rintro e w' ⟨rfl, rfl⟩
    go_wp2_with (at_builtin; refine wpList_append_any _ rfl (.tmp 7) (.tmp 9) 36 rfl (w0.heap.size + 1) 3 i0 (.int .i64 0) 1 8 Tryz.underlying36 hi hz0 hz1 hz2 rfl (by decide) (.slice Ao k co) k _ rfl hO2 (w.heap.size + 1) (some ⟨w.heap.size, 0, none⟩) 1 1 [.int .i64 x] rfl (reads_new w [.int .i64 x] 3 1 1 rfl) (by simp [Value.oneCell']) (by unfold maxLen; omega) (by omega) (by simp; omega) ?_; rintro v' w3 hown3 hgr - -; obtain ⟨A5, c5, rfl⟩ := own_slice hown3; have hD3 := HD2.out.grown hgr (fun h => by have := (hO2.lt _ h.symm).1; omega); have p0 := hD3.cell 0; have pf := hD3.frozen 0; simp only [List.getElem?_toArray, List.getElem?_cons_zero] at p0)
    go_end0
    have hb3 := hb2.grown hgr hb2.size (fun g hg => by have := (hO2.lt g hg).1; omega)
    have hD4 : Blk (w3.setCell ⟨w0.heap.size, 0, none⟩ (.slice A5 (k + 1) c5)) w0.heap.size 36 #[.slice A5 (k + 1) c5] := by simpa using hD3.set_ 0 (.slice A5 (k + 1) c5)
    refine ⟨rfl, A5, c5, ?_, ?_, hb3.setCell (p := ⟨w0.heap.size, 0, none⟩) (by dsimp only; omega) _⟩
    · rw [List.length_append, List.length_singleton, ← HK.out]
      exact hD4
    · rw [List.length_append, List.length_singleton, ← HK.out, List.map_append]
      exact own_apart hown3 (fun hg => by have := (hown3.lt _ hg).1; dsimp only at this; omega) _
set_option maxHeartbeats 400000 in
theorem order_bad (A : Option Addr) (n c : Nat) (a : List Int) (A2 : Option Addr) (n2 c2 : Nat) (w : World) (hr : Reads w w.heap.size 1 A n (a.map (.int .u64))) (hnc : n ≤ c) (ha : ∀ x ∈ a, (Lit.int .u64 x).wf = true) (hE : checkE a ≠ 0) :
    Calls Tryz.prog 81 #[.slice A n c, .slice A2 n2 c2] w fun e w' => e = .returned (.tuple #[.slice none 0 0, .int .i64 (checkE a)]) ∧ Below w.heap.size w w' := by
  have H := Lib.hid (fun w hr => reach_bad A n c a A2 n2 c2 w hr hnc ha hE)
  have hE1 : (checkE a != 0) = true := by simpa using hE
  generalize checkE a = E at *
  clear hE
  go_enter Tryz.func81, Tryz.ntmps81
  go_wp2_with fail
  refine (H.out _ hr).mono ?_
  rintro e w1 ⟨rfl, hb1⟩
  go_wp2
  go_ret2
  exact ⟨rfl, hb1⟩
def bfsL (a : List Int) (S : List Spot) (f : List Int) : Nat → List Int
  | 0 => f.foldl addL []
  | i + 1 => match (bfsL a S f i)[i]? with | some x => (linksAt a S x).foldl addL (bfsL a S f i) | none => bfsL a S f i
theorem bfsL_still {a : List Int} {S : List Spot} {f : List Int} {n : Nat} (h : (bfsL a S f n).length ≤ n) : ∀ m, n ≤ m → bfsL a S f m = bfsL a S f n := by
  intro m hm
  induction m with
  | zero => have : n = 0 := by omega
            subst this; rfl
  | succ m ih =>
    by_cases he : n = m + 1
    · subst he; rfl
    · have h1 := ih (by omega)
      show (match (bfsL a S f m)[m]? with | some x => (linksAt a S x).foldl addL (bfsL a S f m) | none => bfsL a S f m) = _
      rw [h1, List.getElem?_eq_none (by omega)]
theorem bfsL_unique {a : List Int} {S : List Spot} {f L L' : List Int} (h : L = bfsL a S f L.length) (h' : L' = bfsL a S f L'.length) : L = L' := by
  rcases Nat.le_total L.length L'.length with hl | hl
  · have h1 := bfsL_still (a := a) (S := S) (f := f) (n := L.length) (by rw [← h]; exact Nat.le_refl _) _ hl
    rw [h', h1]; exact h
  · have h1 := bfsL_still (a := a) (S := S) (f := f) (n := L'.length) (by rw [← h']; exact Nat.le_refl _) _ hl
    rw [h, h1]; exact h'.symm
structure Ordered (a : List Int) (S : List Spot) (f out : List Int) : Prop where
  search : Search a S f out out.length
  roots : ∀ x ∈ f, x ∈ out
  named : Named a S f out
  fn : out = bfsL a S f out.length
set_option maxRecDepth 100000 in
set_option maxHeartbeats 2000000 in
theorem order_ok (A : Option Addr) (n c : Nat) (a : List Int) (A2 : Option Addr) (n2 c2 : Nat) (f : List Int) (w : World) (hr : Reads w w.heap.size 1 A n (a.map (.int .u64))) (hnc : n ≤ c) (ha : ∀ x ∈ a, (Lit.int .u64 x).wf = true)
    (hr2 : Reads w w.heap.size 1 A2 n2 (f.map (.int .i64))) (hn2 : n2 ≤ 1000000000000000000) (hx2 : ∀ x ∈ f, (Lit.int .i64 x).wf = true) (hE : checkE a = 0) :
    Calls Tryz.prog 81 #[.slice A n c, .slice A2 n2 c2] w fun e w' => Below w.heap.size w w' ∧
      ((∃ L A' c', Ordered a (spotsL a) f L ∧ e = .returned (.tuple #[.slice A' L.length c', .int .i64 0]) ∧ w'.ownsRow w.heap.size 3 1 (.slice A' L.length c') L.length (L.map (.int .i64))) ∨
       ((∃ x ∈ f, x ∉ begsL (spotsL a)) ∧ e = .returned (.tuple #[.slice none 0 0, .int .i64 5]))) := by
  have hal : a.length = n := by have := hr.1; simpa using this
  have hfl : f.length = n2 := by have := hr2.1; simpa using this
  have h0 := (checkE_ok.1 hE).1
  have hn : n ≤ 256 := by have := (parse_ok h0).1; omega
  have H := Lib.hid (fun w hr hr2 => reach_ok A n c a A2 n2 c2 f w hr hnc ha hr2 hn2 hx2 hE)
  have HAt := Lib.hid (fun x i s w hr hix his => at_ok A n c a x i s w hr hnc ha hE hix his)
  have HIx := Lib.hid (fun x s (h : spotAt (spotsL a) x = some s) => spotAt_ix h0 h)
  have HSl : Hid (∀ out i, Search a (spotsL a) f out i → out.length ≤ 256) := fun out i h => h.len h0
  have HLB := Lib.hid (fun x => linksAt_begs hE x)
  have HMEM := Lib.hid (parse_mem (parse_ok h0).2)
  have HBB := Lib.hid (begsL_bounds h0)
  have HLk := Lib.hid (fun (s : Spot) (hs : s ∈ spotsL a) => links_begs hE hs)
  generalize spotsL a = S at *
  have HFL := Lib.hid hfl
  have HAL := Lib.hid hal
  clear hE h0 hfl hal ha hx2
  go_enter Tryz.func81, Tryz.ntmps81
  go_wp2_with fail
  refine (H.out _ hr hr2).mono ?_
  rintro e w1 ⟨hb1, ⟨L0, A0, c0, hL0, rfl, -⟩ | ⟨hex, rfl⟩⟩
  · have HALL : Hid (∀ x ∈ f, x ∈ begsL S) := fun x hx => hL0.begs x (hL0.roots x hx)
    clear hL0
    have hC0 : ComeSt w1 [] (w1.alloc (.cells #[.slice none 0 0] 36)) := ⟨none, 0, Blk.new w1 36 #[.slice none 0 0], World.ownsRow_nil _ _ _ _, below_new _ _⟩
    have HC0 := Lib.hid hC0
    have hcf := fun (x : Value) (w : World) => (plain_of (fn := Tryz.f128) Tryz.func128 (by kernel_rfl) (by kernel_rfl)) #[x, .pointer (some ⟨w1.heap.size, 0, none⟩)] w
    clear hC0
    go_wp2
    go_loopw [29] (fun i wr => ∃ (j : Nat) (out : List Int), j ≤ n2 ∧ i = .int .i64 j ∧ Hid (ComeSt w1 out wr) ∧ Hid (Search a S f out 0 ∧ (∀ x ∈ f.take j, x ∈ out) ∧ Named a S f out ∧ out = (f.take j).foldl addL [])) (fun i _ => n2 - (intOf i).toNat)
    case atStart => exact ⟨0, [], Nat.zero_le _, rfl, HC0, ⟨Search.nil a S f, by intro x hx; simp at hx, by intro i x hx; simp at hx, by simp⟩⟩
    case round =>
      obtain ⟨j, out, hj, rfl, HA, HS⟩ := hrel
      have hbr : Below w1.heap.size w1 wr := by obtain ⟨_, _, _, _, h⟩ := HA.out; exact h
      by_cases hlt : j < n2
      · obtain ⟨ad, x, rfl, had, hx, cx⟩ := ((hr2.below hb1).below (hbr.mono hb1.size)).num hlt
        have hxf := List.mem_of_getElem? hx
        have hS2 : Search a S f (addL out x) 0 := HS.out.1.add (Nat.zero_le _) (HALL.out x hxf) (fun X hX hc => hX x hxf)
        have HS2 : Hid (Search a S f (addL out x) 0 ∧ (∀ y ∈ f.take (j + 1), y ∈ addL out x) ∧ Named a S f (addL out x) ∧ addL out x = (f.take (j + 1)).foldl addL []) := by
          obtain ⟨q1, q2⟩ := List.getElem?_eq_some_iff.1 hx
          refine ⟨hS2, fun y hy => ?_, HS.out.2.2.1.add (.inl hxf), by rw [List.take_succ_eq_append_getElem q1, List.foldl_append, ← HS.out.2.2.2, q2]; rfl⟩
          rw [List.take_succ_eq_append_getElem q1, List.mem_append] at hy
          have hs := addL_sub out x
          rcases hy with hy | hy
          · exact hs.1 y (HS.out.2.1 y hy)
          · simp only [List.mem_cons, List.not_mem_nil, or_false] at hy
            rw [hy, q2]; exact hs.2
        have HAd := Lib.hid (come_any w1 out x wr HA.out (by have := HSl.out _ _ HS.out.1; omega))
        have hj1 : j + 1 ≤ n2 := hlt
        clear hx hxf hS2 HS hbr
        go_wp2_with fail
        refine HAd.out.mono ?_
        rintro e w3 ⟨rfl, hA3⟩
        have HA3 := Lib.hid hA3
        go_wp2
        go_roundw
        case rel => exact ⟨j + 1, _, hj1, by go_num, HA3, HS2⟩
        case measure => simp [intOf]; omega
      · have HS0 : Hid (Search a S f out 0 ∧ (∀ x ∈ f, x ∈ out) ∧ Named a S f out ∧ out = bfsL a S f 0) := by
          have := HS.out
          rw [List.take_of_length_le (by rw [HFL.out]; omega)] at this
          exact this
        have g0 : decide (j < n2) = false := decide_eq_false hlt
        obtain ⟨wo, hwo⟩ : ∃ x, x = wr := ⟨wr, rfl⟩
        subst hwo
        clear HS hbr
        go_wp2
        go_loopw [12] (fun i wr => ∃ (j : Nat) (out : List Int), j ≤ out.length ∧ i = .int .i64 j ∧ Hid (ComeSt w1 out wr) ∧ Hid (Search a S f out j ∧ (∀ x ∈ f, x ∈ out) ∧ Named a S f out ∧ out = bfsL a S f j)) (fun i _ => 256 - (intOf i).toNat)
        case atStart => exact ⟨0, out, Nat.zero_le _, rfl, HA, HS0⟩
        case round =>
          obtain ⟨j, out, hj, rfl, HA, HS⟩ := hrel
          obtain ⟨Ao, co, e2, e4, e5⟩ := HA.out
          have hlen := HSl.out _ _ HS.out.1
          obtain ⟨k, hk⟩ : ∃ k, k = out.length := ⟨_, rfl⟩
          have d0 := e2.cell 0
          simp only [List.getElem?_toArray, List.getElem?_cons_zero] at d0
          rw [← hk] at d0 e2 e4 hlen hj
          have HK := Lib.hid hk
          by_cases hlt : j < k
          · obtain ⟨ad, x, rfl, had, hx, cx⟩ := (Reads.of_own e4).num hlt
            have hxb := HS.out.1.begs x (List.mem_of_getElem? hx)
            obtain ⟨s, hs⟩ := begsL_iff.1 hxb
            obtain ⟨hsS, -, hsl⟩ := spotAt_some hs
            have hlk : linksAt a S x = linksL a s := by unfold linksAt; rw [hs]
            have hok := (HMEM.out s hsS).1
            obtain ⟨ix, hix, his⟩ := HIx.out x s hs
            have hAds := HS.out.1.adds (by omega) hx (HLB.out x)
            rw [hlk] at hAds
            have HAds := Lib.hid hAds
            have hrw := (hr.below hb1).below (e5.mono hb1.size)
            have hsw : w.heap.size ≤ wr.heap.size := Nat.le_trans hb1.size e5.size
            have HAx := Lib.hid (HAt.out x ix s wr (hrw.more hsw) hix his)
            have HG : Hid (∀ (q : Nat) (v : Int), (refsOf a s)[q]? = some v → a[s.loc.toNat + 1 + q]? = some v) := by
              intro q v hv
              unfold refsOf at hv
              obtain ⟨q1, q2⟩ := List.getElem?_eq_some_iff.1 hv
              have : ((a.drop (s.loc.toNat + 1)).take s.r.toNat)[q]? = some v := hv
              rw [List.length_take] at q1
              rw [List.getElem?_take, if_pos (by omega), List.getElem?_drop] at this
              exact this
            have hrl := refsOf_length hok
            have l0 := hok.loc0
            have r0 := hok.r0
            have b0 := hok.b0
            have ft := hok.fits
            have hlk2 : ∀ v ∈ refsOf a s, v = 0 ∨ 1 ≤ v ∧ v ≤ 256 := fun v hv => by
              by_cases hv0 : v = 0
              · exact .inl hv0
              · have h1 : v - 1 ∈ linksL a s := List.mem_map.2 ⟨v, List.mem_filter.2 ⟨hv, by simpa using hv0⟩, rfl⟩
                have := HBB.out _ (HLk.out s hsS _ h1)
                exact .inr (by omega)
            have HL2 := Lib.hid hlk2
            have HLd : Hid (linksL a s = linksP (refsOf a s)) := rfl
            obtain ⟨t1, t2, t3, t4, t5⟩ := hAds (linksL a s) (fun y hy => hy)
            have HS2 : Hid (Search a S f ((linksL a s).foldl addL out) (j + 1) ∧ (∀ y ∈ f, y ∈ (linksL a s).foldl addL out) ∧ Named a S f ((linksL a s).foldl addL out) ∧ (linksL a s).foldl addL out = bfsL a S f (j + 1)) :=
              ⟨t1.next t5 (by rw [hlk]; exact t4), fun y hy => t3 y (HS.out.2.1 y hy), HS.out.2.2.1.adds (linksL a s) hx (fun y hy => by rw [hlk]; exact hy), by
                show _ = (match (bfsL a S f j)[j]? with | some x => (linksAt a S x).foldl addL (bfsL a S f j) | none => bfsL a S f j)
                rw [← HS.out.2.2.2, hx, ← hlk]⟩
            have HJ1 : Hid (j + 1 ≤ ((linksL a s).foldl addL out).length) := by show _ ≤ _; omega
            have HPre : Hid (∀ l : List Int, (∀ y ∈ l, y ∈ linksL a s) → (l.foldl addL out).length ≤ 256 ∧ (l.foldl addL out)[j]? = some x) := fun l hl => ⟨HSl.out _ _ (hAds l hl).1, (hAds l hl).2.2.2.2⟩
            rw [HLd.out] at HS2 HJ1 HPre
            clear hx hxb hs hlk hok hix his hAds t1 t2 t3 t4 t5 HS hsS hlk2 HAds
            generalize refsOf a s = rs at *
            obtain ⟨loc, r, bb, t, fr⟩ := s
            simp only [Spot.long] at ft l0 r0 b0 hsl HAx
            subst hsl
            obtain ⟨I, rfl⟩ := Int.eq_ofNat_of_zero_le l0
            obtain ⟨m, rfl⟩ := Int.eq_ofNat_of_zero_le r0
            simp only [Int.toNat_natCast] at hrl HG HAx
            rw [HAL.out] at ft
            have HRL := Lib.hid hrl
            obtain ⟨p1, hp1⟩ : ∃ p1, p1 = I + 1 := ⟨_, rfl⟩
            have w1' : IntKind.i64.wrap ((I : Int) + 1) = p1 := by rw [IntWalk.i64_in _ (by omega)]; omega
            have hp1n : p1 + m ≤ n := by omega
            have HP1 := Lib.hid hp1
            have HE2 := Lib.hid e2
            have HE4 := Lib.hid e4
            clear hrl hp1 e2 e4
            go_wp2_with fail
            refine HAx.out.mono ?_
            rintro e w5 ⟨hb5, A6, c6, A7, c7, rfl, -, -⟩
            have hA5 := (HA.out.below hb5).below (below_new w5 (.cells #[.int .i64 t, .slice A6 m c6, .slice A7 bb.toNat c7, .bool fr] 52))
            have k1 := (Blk.new w5 52 #[.int .i64 t, .slice A6 m c6, .slice A7 bb.toNat c7, .bool fr]).cell 1
            simp only [List.getElem?_toArray, List.getElem?_cons_zero, List.getElem?_cons_succ] at k1
            have HA5 := Lib.hid hA5
            clear hA5
            go_wp2
            clear k1
            go_loopw [15, 16, 55] (fun _ _ i wr => ∃ q : Nat, q ≤ m ∧ i = .int .i64 q ∧ Hid (ComeSt w1 ((linksP (rs.take q)).foldl addL out) wr)) (fun _ _ i _ => m - (intOf i).toNat)
            case atStart => exact ⟨0, Nat.zero_le _, rfl, HA5⟩
            case round =>
              obtain ⟨q, hq, rfl, HQ⟩ := hrel
              have hsub : ∀ y ∈ linksP (rs.take q), y ∈ linksP rs := by
                intro y hy
                obtain ⟨v, hv, rfl⟩ := List.mem_map.1 hy
                obtain ⟨v1, v2⟩ := List.mem_filter.1 hv
                exact List.mem_map.2 ⟨v, List.mem_filter.2 ⟨List.mem_of_mem_take v1, v2⟩, rfl⟩
              obtain ⟨o1, o2⟩ := HPre.out _ hsub
              obtain ⟨Aq, cq, f2, f4, f5⟩ := HQ.out
              have x0 := f2.cell 0
              simp only [List.getElem?_toArray, List.getElem?_cons_zero] at x0
              by_cases hltq : q < m
              · have hcome := fun y => come_any w1 ((linksP (rs.take q)).foldl addL out) y wr HQ.out (by omega)
                obtain ⟨O, hO⟩ : ∃ O, O = (linksP (rs.take q)).foldl addL out := ⟨_, rfl⟩
                have HOO := Lib.hid hO
                rw [← hO] at o1 o2 f2 f4 x0 hcome
                obtain ⟨ko, hko⟩ : ∃ ko, ko = O.length := ⟨_, rfl⟩
                rw [← hko] at o1 f2 f4 x0
                have hjo : j < ko := by rw [hko]; exact (List.getElem?_eq_some_iff.1 o2).1
                obtain ⟨ad9, y9, rfl, had9, hy9, cy9⟩ := (Reads.of_own f4).num hjo
                obtain rfl : ((I : Nat) : Int) = y9 := Option.some.inj (o2.symm.trans hy9)
                have hbw : Below w.heap.size w wr := below_step hb1 f5
                obtain ⟨pj, hpj⟩ : ∃ pj, pj = p1 + q := ⟨_, rfl⟩
                have hjr : q < rs.length := by rw [HRL.out]; exact hltq
                have hv : rs[q]? = some (rs[q]'hjr) := List.getElem?_eq_getElem hjr
                generalize rs[q]'hjr = v at hv
                have hav := HG.out q v hv
                rw [← HP1.out, ← hpj] at hav
                obtain ⟨ada, y, rfl, hada, hy, cy⟩ := (hr.below hbw).num (k := pj) (by omega)
                obtain rfl : v = y := Option.some.inj (hav.symm.trans hy)
                have hv2 := HL2.out v (List.mem_of_getElem? hv)
                have hpn : pj < n := by omega
                have w3 : IntKind.i64.wrap ((p1 : Int) + q) = pj := by rw [IntWalk.i64_in _ (by omega)]; omega
                have hq1 : q + 1 ≤ m := hltq
                by_cases h0 : v = 0
                · subst h0
                  have HQ2 : Hid (ComeSt w1 ((linksP (rs.take (q + 1))).foldl addL out) wr) := by
                    show ComeSt _ _ _
                    rw [linksP_zero hv]
                    exact HQ.out
                  clear hv hav hy hpj hv2 HQ hcome hO hko o1 o2 hy9 f2 f4
                  go_wp2
                  go_roundw
                  case rel => exact ⟨q + 1, hq1, by go_num, HQ2⟩
                  case measure => simp [intOf]; omega
                · obtain ⟨V, rfl⟩ : ∃ V : Nat, v = V := ⟨v.toNat, by omega⟩
                  obtain ⟨z, hz⟩ : ∃ z : Nat, V = z + 1 := ⟨V - 1, by omega⟩
                  have hst := linksP_succ hv h0
                  rw [show ((V : Int) - 1) = (z : Int) by omega] at hst
                  have HCm := Lib.hid (hcome z)
                  have HST := Lib.hid hst
                  have z1 : ((V : Int) != 0) = true := by simp; omega
                  have z2 : (V != 0) = true := by simp; omega
                  have z3 : ¬ V = 0 := by omega
                  have w4 : IntKind.i64.wrap (V : Int) = V := IntWalk.i64_in _ (by omega)
                  have w5' : (V : Int) - 1 = z := by omega
                  have w6 : IntKind.i64.wrap (z : Int) = z := IntWalk.i64_in _ (by omega)
                  clear hv hav hy hpj hz hv2 HQ hcome hO hko o1 o2 hy9 f2 f4 hst
                  go_wp2_with fail
                  refine HCm.out.mono ?_
                  rintro e w9 ⟨rfl, hA9⟩
                  have HA9 : Hid (ComeSt w1 ((linksP (rs.take (q + 1))).foldl addL out) w9) := by
                    show ComeSt _ _ _
                    rw [HST.out, List.foldl_append, ← HOO.out]
                    exact hA9
                  clear hA9
                  go_wp2
                  go_roundw
                  case rel => exact ⟨q + 1, hq1, by go_num, HA9⟩
                  case measure => simp [intOf]; omega
              · have hqm : q = m := by omega
                have HQ2 : Hid (ComeSt w1 ((linksP rs).foldl addL out) wr) := by
                  have := HQ.out
                  rw [hqm, List.take_of_length_le (by rw [HRL.out]; exact Nat.le_refl _)] at this
                  exact this
                have g2 : decide (q < m) = false := decide_eq_false hltq
                clear hqm HQ hsub o1 o2 f2 f4 x0
                go_wp2
                go_roundw
                case rel => exact ⟨j + 1, _, HJ1.out, by go_num, HQ2, HS2⟩
                case measure => simp [intOf]; omega
          · have hjk : j = k := by omega
            have HRe : Hid (Ordered a S f out) := by
              have h1 := HS.out
              rw [hjk, hk] at h1
              exact ⟨h1.1, h1.2.1, h1.2.2.1, h1.2.2.2⟩
            have g2 : decide (j < k) = false := decide_eq_false hlt
            have HB5 := Lib.hid e5
            have HO5 := Lib.hid (own_mono (base := w.heap.size) e4 (by have := hb1.size; omega))
            clear hjk HS HA hk e5 e4 e2
            go_wp2
            go_ret2
            refine ⟨below_step hb1 HB5.out, .inl ⟨out, Ao, co, HRe.out, ?_, ?_⟩⟩
            · rw [← HK.out]; rfl
            · rw [← HK.out]; exact HO5.out
  · have HEX := Lib.hid hex
    clear hex
    go_wp2
    go_ret2
    exact ⟨hb1, .inr ⟨HEX.out, rfl⟩⟩
end Go.Proofs.YtfikonmhbhcejaaGreatDoor

namespace Go.Proofs.YtfikonmhbhcejaaGreatDoor
open Go.RowKit
structure ObV where
  t : Int
  A1 : Option Addr
  n1 : Nat
  c1 : Nat
  A2 : Option Addr
  n2 : Nat
  c2 : Nat
  f : Bool
def obvC (v : ObV) : List Value := [.int .i64 v.t, .slice v.A1 v.n1 v.c1, .slice v.A2 v.n2 v.c2, .bool v.f]
def ObR (w : World) (B : Nat) (o : Ob) (v : ObV) : Prop :=
  v.t = o.t ∧ v.f = o.f ∧ v.n1 ≤ v.c1 ∧ v.n2 ≤ v.c2 ∧ v.n1 = o.refs.length ∧ v.n2 = o.body.length ∧ Reads w B 1 v.A1 v.n1 (o.refs.map (.int .i64)) ∧ Reads w B 1 v.A2 v.n2 (o.body.map (.int .u64))
def ObO (w : World) (base : Nat) (o : Ob) (v : ObV) : Prop :=
  v.t = o.t ∧ v.f = o.f ∧ v.n1 = o.refs.length ∧ v.n2 = o.body.length ∧ w.ownsRow base 3 1 (.slice v.A1 v.n1 v.c1) v.n1 (o.refs.map (.int .i64)) ∧ w.ownsRow base 44 1 (.slice v.A2 v.n2 v.c2) v.n2 (o.body.map (.int .u64))
def ObsR (w : World) (B : Nat) (os : List Ob) (vs : List ObV) : Prop := os.length = vs.length ∧ ∀ (i : Nat) (o : Ob) (v : ObV), os[i]? = some o → vs[i]? = some v → ObR w B o v
def ObsO (w : World) (base : Nat) (os : List Ob) (vs : List ObV) : Prop := os.length = vs.length ∧ ∀ (i : Nat) (o : Ob) (v : ObV), os[i]? = some o → vs[i]? = some v → ObO w base o v
theorem ObR.keep {w w' : World} {B B' : Nat} {o : Ob} {v : ObV} (h : ObR w B o v) (hb : Below B w w') (hB : B ≤ B') : ObR w' B' o v := by
  obtain ⟨h1, h2, h3, h4, h5, h6, h7, h8⟩ := h
  exact ⟨h1, h2, h3, h4, h5, h6, (h7.below hb).more hB, (h8.below hb).more hB⟩
theorem ObsR.keep {w w' : World} {B B' : Nat} {os : List Ob} {vs : List ObV} (h : ObsR w B os vs) (hb : Below B w w') (hB : B ≤ B') : ObsR w' B' os vs :=
  ⟨h.1, fun i o v ho hv => (h.2 i o v ho hv).keep hb hB⟩
theorem ObO.reads {w : World} {base : Nat} {o : Ob} {v : ObV} (h : ObO w base o v) : ObR w w.heap.size o v := by
  obtain ⟨h1, h2, h3, h4, h5, h6⟩ := h
  exact ⟨h1, h2, own_cap h5, own_cap h6, h3, h4, Reads.of_own h5, Reads.of_own h6⟩
theorem ObsO.reads {w : World} {base : Nat} {os : List Ob} {vs : List ObV} (h : ObsO w base os vs) : ObsR w w.heap.size os vs :=
  ⟨h.1, fun i o v ho hv => (h.2 i o v ho hv).reads⟩
theorem ObsO.below {w w' : World} {base : Nat} {os : List Ob} {vs : List ObV} (h : ObsO w base os vs) (hb : Below w.heap.size w w') : ObsO w' base os vs :=
  ⟨h.1, fun i o v ho hv => by
    obtain ⟨h1, h2, h3, h4, h5, h6⟩ := h.2 i o v ho hv
    exact ⟨h1, h2, h3, h4, own_below h5 hb, own_below h6 hb⟩⟩
theorem ObsO.mono {w : World} {base base' : Nat} {os : List Ob} {vs : List ObV} (h : ObsO w base' os vs) (hb : base ≤ base') : ObsO w base os vs :=
  ⟨h.1, fun i o v ho hv => by
    obtain ⟨h1, h2, h3, h4, h5, h6⟩ := h.2 i o v ho hv
    exact ⟨h1, h2, h3, h4, own_mono h5 hb, own_mono h6 hb⟩⟩
theorem own_types {w : World} {base base' size size' n n' : Nat} {e e' : TypeId} {v v' : Value} {xs xs' : List Value} (h : w.ownsRow base e size v n xs) (h' : w.ownsRow base' e' size' v' n' xs') (hne : e ≠ e') {g : Nat} (hg : v.ownBlock = some g) : v'.ownBlock ≠ some g := by
  intro hg'
  rcases h.2 with ⟨rfl, _⟩ | ⟨g1, cap, cur, rfl, _, hh, _⟩
  · cases hg
  · rcases h'.2 with ⟨rfl, _⟩ | ⟨g2, cap2, cur2, rfl, _, hh2, _⟩
    · cases hg'
    · simp only [Value.ownBlock, Option.some.injEq] at hg hg'
      subst hg hg'
      rw [hh] at hh2
      injection hh2 with hh2
      injection hh2 with _ ht
      exact hne ht
theorem ObsO.grown {w w' : World} {base base' size n : Nat} {e : TypeId} {v0 : Value} {xs : List Value} {os : List Ob} {vs : List ObV} (h : ObsO w base os vs) (ho : w.ownsRow base' e size v0 n xs) (hg : w.grownBy w' v0.ownBlock) (h1 : e ≠ 3) (h2 : e ≠ 44) : ObsO w' base os vs :=
  ⟨h.1, fun i o v ho' hv => by
    obtain ⟨a1, a2, a3, a4, a5, a6⟩ := h.2 i o v ho' hv
    exact ⟨a1, a2, a3, a4, own_grown a5 hg (fun g hg' => own_types a5 ho h1.symm hg'), own_grown a6 hg (fun g hg' => own_types a6 ho h2.symm hg')⟩⟩
theorem ObsO.snoc {w : World} {base : Nat} {os : List Ob} {vs : List ObV} {o : Ob} {v : ObV} (h : ObsO w base os vs) (h1 : ObO w base o v) : ObsO w base (os ++ [o]) (vs ++ [v]) := by
  refine ⟨by rw [List.length_append, List.length_append, h.1]; rfl, fun i o' v' ho hv => ?_⟩
  rcases Nat.lt_or_ge i os.length with hi | hi
  · rw [List.getElem?_append_left hi] at ho
    rw [List.getElem?_append_left (by rw [← h.1]; exact hi)] at hv
    exact h.2 i o' v' ho hv
  · rw [List.getElem?_append_right hi] at ho
    rw [List.getElem?_append_right (by rw [← h.1]; exact hi), ← h.1] at hv
    rcases Nat.eq_zero_or_pos (i - os.length) with h0 | h0
    · rw [h0] at ho hv
      cases ho
      cases hv
      exact h1
    · rw [List.getElem?_eq_none (by simp; omega)] at ho
      cases ho
theorem info_object : (Tryz.prog.info? 52).map (fun i => (i.zero, i.size, i.bytes)) = some (some (.agg #[.int .i64 0, .slice none 0 0, .slice none 0 0, .bool false]), 4, 64) := by kernel_rfl
end Go.Proofs.YtfikonmhbhcejaaGreatDoor

namespace Go.Proofs.YtfikonmhbhcejaaGreatDoor
open Go.RowKit
def idxL (L : List Int) (y : Int) : Int := ixOf (fun x => y == x) L
def formO (a : List Int) (S : List Spot) (L : List Int) (x : Int) : Ob :=
  match spotAt S x with | some s => ⟨s.t, (refsOf a s).map (fun v => idxL L (v - 1)), bodyOf a s, s.f⟩ | none => ⟨0, [], [], false⟩
def FormIs (a f : List Int) (os : List Ob) (fr : List Int) : Prop :=
  ∃ L, Ordered a (spotsL a) f L ∧ os = L.map (formO a (spotsL a) L) ∧ fr = f.map (idxL L)
theorem FormIs.unique {a f : List Int} {os os' : List Ob} {fr fr' : List Int} (h : FormIs a f os fr) (h' : FormIs a f os' fr') : os = os' ∧ fr = fr' := by
  obtain ⟨L, h1, h2, h3⟩ := h
  obtain ⟨L', h1', h2', h3'⟩ := h'
  have e : L = L' := bfsL_unique h1.fn h1'.fn
  subst e
  exact ⟨h2.trans h2'.symm, h3.trans h3'.symm⟩
theorem set_mid {α : Type} (P T : List α) (q : Nat) (v : α) (hq : P.length = q) (hT : q < T.length) : (P ++ T.drop q).set q v = (P ++ [v]) ++ T.drop (q + 1) := by
  rw [List.set_append_right _ _ (by omega), hq, Nat.sub_self, List.drop_eq_getElem_cons hT, List.set_cons_zero]
  simp
theorem own_setK {w : World} {base g n c k : Nat} {e : TypeId} {xs : List Value} (h : w.ownsRow base e k (.slice (some ⟨g, 0, none⟩) n c) n xs) (j : Nat) (u : Value) :
    (w.setCell ⟨g, j, none⟩ u).ownsRow base e k (.slice (some ⟨g, 0, none⟩) n c) n (xs.set j u) := by
  obtain ⟨cur, hb, hg, hc, hm, hl, ht⟩ := own_open h
  have hB : Blk w g e cur.toArray := hg
  have hB2 := hB.set_ j u
  simp only [List.setIfInBounds_toArray] at hB2
  have := own_close (size := k) (n := n) (c := c) (cur.set j u) hb hB2 hc hm (by rw [List.length_set]; exact hl)
  rw [List.take_set, ht] at this
  exact this
theorem ObsO.far {w : World} {base : Nat} {os : List Ob} {vs : List ObV} (h : ObsO w base os vs) {p : Addr} (hp : p.block < base) (u : Value) : ObsO (w.setCell p u) base os vs :=
  ⟨h.1, fun i o v ho hv => by
    obtain ⟨h1, h2, h3, h4, h5, h6⟩ := h.2 i o v ho hv
    exact ⟨h1, h2, h3, h4, own_far h5 hp u, own_far h6 hp u⟩⟩
theorem ObsO.top {w : World} {base : Nat} {os : List Ob} {vs : List ObV} (h : ObsO w base os vs) : ∀ v ∈ vs, ∀ g, ((Value.slice v.A1 v.n1 v.c1).ownBlock = some g ∨ (Value.slice v.A2 v.n2 v.c2).ownBlock = some g) → g < w.heap.size := by
  intro v hv g hg
  obtain ⟨i, hi⟩ := List.mem_iff_getElem?.1 hv
  have hl : i < os.length := by rw [h.1]; exact (List.getElem?_eq_some_iff.1 hi).1
  obtain ⟨-, -, -, -, h5, h6⟩ := h.2 i _ v (List.getElem?_eq_getElem hl) hi
  rcases hg with hg | hg
  · exact (h5.lt g hg).2
  · exact (h6.lt g hg).2
theorem ObsO.apart {w w' : World} {base : Nat} {os : List Ob} {vs : List ObV} {row : Option Nat} (h : ObsO w base os vs) (hg : w.grownBy w' row) (hne : ∀ v ∈ vs, ∀ g, ((Value.slice v.A1 v.n1 v.c1).ownBlock = some g ∨ (Value.slice v.A2 v.n2 v.c2).ownBlock = some g) → row ≠ some g) : ObsO w' base os vs :=
  ⟨h.1, fun i o v ho hv => by
    obtain ⟨h1, h2, h3, h4, h5, h6⟩ := h.2 i o v ho hv
    have hm := List.mem_of_getElem? hv
    exact ⟨h1, h2, h3, h4, own_grown h5 hg (fun g hg' => hne v hm g (.inl hg')), own_grown h6 hg (fun g hg' => hne v hm g (.inr hg'))⟩⟩
theorem ObsO.drew {w : World} {base : Nat} {os : List Ob} {vs : List ObV} (h : ObsO w base os vs) : ObsO w.drew base os vs :=
  ⟨h.1, fun i o v ho hv => by
    obtain ⟨h1, h2, h3, h4, h5, h6⟩ := h.2 i o v ho hv
    exact ⟨h1, h2, h3, h4, h5.drew, h6.drew⟩⟩
set_option maxRecDepth 100000 in
set_option maxHeartbeats 4000000 in
theorem form_ok (A : Option Addr) (n c : Nat) (a : List Int) (A2 : Option Addr) (n2 c2 : Nat) (f : List Int) (w : World) (hr : Reads w w.heap.size 1 A n (a.map (.int .u64))) (hnc : n ≤ c) (ha : ∀ x ∈ a, (Lit.int .u64 x).wf = true)
    (hr2 : Reads w w.heap.size 1 A2 n2 (f.map (.int .i64))) (hn2 : n2 * 8 ≤ 140737488355328) (hx2 : ∀ x ∈ f, (Lit.int .i64 x).wf = true) (hE : checkE a = 0) :
    Calls Tryz.prog 30 #[.slice A n c, .slice A2 n2 c2] w fun e w' => Below w.heap.size w w' ∧
      (((∀ x ∈ f, x ∈ begsL (spotsL a)) ∧ ∃ (os : List Ob) (fr : List Int) (vs : List ObV) (Ao : Option Addr) (co : Nat) (Af : Option Addr) (cf : Nat), FormIs a f os fr ∧ os.length ≤ 256 ∧ fr.length = n2 ∧ e = .returned (.tuple #[.agg #[.slice Ao os.length co, .slice Af n2 cf], .int .i64 0]) ∧
          w'.ownsRow w.heap.size 52 4 (.slice Ao os.length co) os.length (vs.flatMap obvC) ∧ ObsO w' w.heap.size os vs ∧ w'.ownsRow w.heap.size 3 1 (.slice Af n2 cf) n2 (fr.map (.int .i64))) ∨
       (¬ (∀ x ∈ f, x ∈ begsL (spotsL a)) ∧ ∃ er : Int, (er != 0) = true ∧ e = .returned (.tuple #[.agg #[.slice none 0 0, .slice none 0 0], .int .i64 er]))) := by
  have hal : a.length = n := by have := hr.1; simpa using this
  have hfl : f.length = n2 := by have := hr2.1; simpa using this
  have h0 := (checkE_ok.1 hE).1
  have hn : n ≤ 256 := by have := (parse_ok h0).1; omega
  have H := Lib.hid (fun w hr hr2 => order_ok A n c a A2 n2 c2 f w hr hnc ha hr2 (by omega) hx2 hE)
  have HAt := Lib.hid (fun x i s w hr hix his => at_ok A n c a x i s w hr hnc ha hE hix his)
  have HIx := Lib.hid (fun x s (h : spotAt (spotsL a) x = some s) => spotAt_ix h0 h)
  have HMEM := Lib.hid (parse_mem (parse_ok h0).2)
  have HBB := Lib.hid (begsL_bounds h0)
  have HLk := Lib.hid (fun (s : Spot) (hs : s ∈ spotsL a) => links_begs hE hs)
  have HFI : Hid (∀ L, Ordered a (spotsL a) f L → FormIs a f (L.map (formO a (spotsL a) L)) (f.map (idxL L))) := fun L h => ⟨L, h, rfl, rfl⟩
  generalize spotsL a = S at *
  obtain ⟨i0, hi, hz0, hz1, hz2⟩ := info_parts info_object
  obtain ⟨j0, ji, jz0, jz1, jz2⟩ := info_parts info_int
  have HFL := Lib.hid hfl
  have HAL := Lib.hid hal
  have R0 := Blk.new w 76 #[.slice none 0 0, .slice none 0 0]
  have hb0 := below_new w (.cells #[.slice none 0 0, .slice none 0 0] 76)
  clear hE h0 hfl hal ha hx2
  go_enter Tryz.func30, Tryz.ntmps30
  go_wp2_with fail
  refine (H.out _ ((hr.below hb0).more hb0.size) ((hr2.below hb0).more hb0.size)).mono ?_
  rintro e w1 ⟨hb1, ⟨L, A0, c0, hL, rfl, hown0⟩ | ⟨hex, rfl⟩⟩
  · have HALL : Hid (∀ x ∈ f, x ∈ begsL S) := fun x hx => hL.search.begs x (hL.roots x hx)
    have hL256 : L.length ≤ 256 := nodup_bound 256 L hL.search.once (fun x hx => HBB.out x (hL.search.begs x hx))
    have HLB : Hid (∀ x ∈ L, x ∈ begsL S) := hL.search.begs
    have HFi := Lib.hid (HFI.out L hL)
    obtain ⟨k, hk⟩ : ∃ k, k = L.length := ⟨_, rfl⟩
    rw [← hk] at hown0 hL256 ⊢
    have HK := Lib.hid hk
    have hb01 := below_step hb0 hb1
    have R1 := R0.below hb1 R0.lt
    have G1 := Blk.new w1 76 #[.slice none 0 0, .slice none 0 0]
    have hbn := below_new w1 (.cells #[.slice none 0 0, .slice none 0 0] 76)
    have hrL := (Reads.of_own hown0).below hbn
    have hb02 := below_step hb01 hbn
    have R2 := R1.below hbn R1.lt
    have hw01 := hb01.size
    have hRlt := R1.lt
    clear hown0 hL hk hbn R1 R0 hb0 hb1
    go_wp2
    go_loopw [28] (fun i wr => ∃ (j : Nat) (vs : List ObV) (Ao : Option Addr) (co : Nat), j ≤ k ∧ i = .int .i64 j ∧ Blk wr w1.heap.size 76 #[.slice Ao j co, .slice none 0 0] ∧ Hid (wr.ownsRow (w1.heap.size + 1) 52 4 (.slice Ao j co) j (vs.flatMap obvC)) ∧
      Hid (ObsO wr (w1.heap.size + 1) ((L.take j).map (formO a S L)) vs) ∧ Below w1.heap.size (w1.alloc (.cells #[.slice none 0 0, .slice none 0 0] 76)) wr ∧ w1.heap.size + 1 ≤ wr.heap.size) (fun i _ => k - (intOf i).toNat)
    case atStart => exact ⟨0, [], none, 0, Nat.zero_le _, rfl, G1, World.ownsRow_nil _ _ _ _, ⟨rfl, fun i o v h => by simp at h⟩, Below.refl _ _, by rw [World.size_alloc]; exact Nat.le_refl _⟩
    case round =>
      obtain ⟨j, vs, Ao, co, hj, rfl, GB, HOW, HOB, hb, hsz⟩ := hrel
      have hbw : Below w.heap.size w wr := hb02.trans (hb.mono hw01)
      by_cases hlt : j < k
      · obtain ⟨ad, x, rfl, had, hx, cx⟩ := (hrL.below hb).num hlt
        have hj1 : j + 1 ≤ k := hlt
        have hxb := HLB.out x (List.mem_of_getElem? hx)
        obtain ⟨s, hs⟩ := begsL_iff.1 hxb
        obtain ⟨hsS, -, hsl⟩ := spotAt_some hs
        have hok := (HMEM.out s hsS).1
        obtain ⟨ix, hix, his⟩ := HIx.out x s hs
        have HAx := Lib.hid (HAt.out x ix s wr ((hr.below hbw).more hbw.size) hix his)
        have HG : Hid (∀ (q : Nat) (v : Int), (refsOf a s)[q]? = some v → a[s.loc.toNat + 1 + q]? = some v) := by
          intro q v hv
          unfold refsOf at hv
          obtain ⟨q1, q2⟩ := List.getElem?_eq_some_iff.1 hv
          have : ((a.drop (s.loc.toNat + 1)).take s.r.toNat)[q]? = some v := hv
          rw [List.length_take] at q1
          rw [List.getElem?_take, if_pos (by omega), List.getElem?_drop] at this
          exact this
        have hrl := refsOf_length hok
        have hbl := bodyOf_length hok
        have hil := refIx_length (l := S) hok
        have l0 := hok.loc0
        have r0 := hok.r0
        have b0 := hok.b0
        have ft := hok.fits
        have hlk2 : ∀ v ∈ refsOf a s, v = 0 ∨ 1 ≤ v ∧ v ≤ 256 := fun v hv => by
          by_cases hv0 : v = 0
          · exact .inl hv0
          · have h1 : v - 1 ∈ linksL a s := List.mem_map.2 ⟨v, List.mem_filter.2 ⟨hv, by simpa using hv0⟩, rfl⟩
            have := HBB.out _ (HLk.out s hsS _ h1)
            exact .inr (by omega)
        have HL2 := Lib.hid hlk2
        have HFo : Hid (formO a S L x = ⟨s.t, (refsOf a s).map (fun v => idxL L (v - 1)), bodyOf a s, s.f⟩) := by show _ = _; unfold formO; rw [hs]
        have HT : Hid (L.take (j + 1) = L.take j ++ [x]) := by
          show _ = _
          obtain ⟨q1, q2⟩ := List.getElem?_eq_some_iff.1 hx
          rw [List.take_succ_eq_append_getElem q1, q2]
        clear hx hxb hs hsS hix his hlk2 hok
        generalize refsOf a s = rs at *
        generalize bodyOf a s = bs at *
        generalize refIx S a s = ri at *
        obtain ⟨loc, r, bb, t, fr⟩ := s
        simp only [Spot.long] at ft l0 r0 b0 hsl HAx hbl hil HFo
        subst hsl
        obtain ⟨I, rfl⟩ := Int.eq_ofNat_of_zero_le l0
        obtain ⟨m, rfl⟩ := Int.eq_ofNat_of_zero_le r0
        obtain ⟨bw, rfl⟩ := Int.eq_ofNat_of_zero_le b0
        simp only [Int.toNat_natCast] at hrl HG HAx hbl hil
        rw [HAL.out] at ft
        have HRL := Lib.hid hrl
        have HBL := Lib.hid hbl
        have HIL := Lib.hid hil
        obtain ⟨p1, hp1⟩ : ∃ p1, p1 = I + 1 := ⟨_, rfl⟩
        have w1' : IntKind.i64.wrap ((I : Int) + 1) = p1 := by rw [IntWalk.i64_in _ (by omega)]; omega
        have hp1n : p1 + m ≤ n := by omega
        have HP1 := Lib.hid hp1
        clear hrl hp1 hbl hil
        go_wp2_with fail
        refine HAx.out.mono ?_
        rintro e w5 ⟨hb5, A6, c6, A7, c7, rfl, hown6, hown7⟩
        have D5 := Blk.new w5 52 #[.int .i64 t, .slice A6 m c6, .slice A7 bw c7, .bool fr]
        have hbn5 := below_new w5 (.cells #[.int .i64 t, .slice A6 m c6, .slice A7 bw c7, .bool fr] 52)
        have hbx := below_step hb5 hbn5
        have hown6x := hown6.alloc (.cells #[.int .i64 t, .slice A6 m c6, .slice A7 bw c7, .bool fr] 52)
        have hown7x := hown7.alloc (.cells #[.int .i64 t, .slice A6 m c6, .slice A7 bw c7, .bool fr] 52)
        have d1 := D5.cell 1
        simp only [List.getElem?_toArray, List.getElem?_cons_zero, List.getElem?_cons_succ] at d1
        have hg6 := fun g hg => hown6.lt g hg
        have hg7 := fun g hg => hown7.lt g hg
        have hne67 : ∀ g, (Value.slice A7 bw c7).ownBlock = some g → (Value.slice A6 m c6).ownBlock ≠ some g := fun g hg => own_types hown7 hown6 (by decide) hg
        have HO6 : Hid ((w5.alloc (.cells #[.int .i64 t, .slice A6 m c6, .slice A7 bw c7, .bool fr] 52)).ownsRow wr.heap.size 3 1 (.slice A6 m c6) m (((rs.take 0).map (fun v => idxL L (v - 1)) ++ ri.drop 0).map (.int .i64))) := by
          show World.ownsRow _ _ _ _ _ _ _
          simpa using hown6x
        have HO7 := Lib.hid hown7x
        have hsz5 := hb5.size
        obtain ⟨wo, hwo⟩ : ∃ x, x = wr := ⟨wr, rfl⟩
        subst hwo
        clear hown6 hown7 hown6x hown7x hbn5
        go_wp2
        go_loopw [13, 41] (fun _ i wx => ∃ q : Nat, q ≤ m ∧ i = .int .i64 q ∧ Hid (wx.ownsRow wo.heap.size 3 1 (.slice A6 m c6) m (((rs.take q).map (fun v => idxL L (v - 1)) ++ ri.drop q).map (.int .i64))) ∧ Hid (wx.ownsRow wo.heap.size 44 1 (.slice A7 bw c7) bw (bs.map (.int .u64))) ∧
          Blk wx w5.heap.size 52 #[.int .i64 t, .slice A6 m c6, .slice A7 bw c7, .bool fr] ∧ Below wo.heap.size wo wx) (fun _ i _ => m - (intOf i).toNat)
        case atStart => exact ⟨0, Nat.zero_le _, rfl, HO6, HO7, D5, hbx⟩
        case round =>
          obtain ⟨q, hq, rfl, HR6, HR7, DX, hby⟩ := hrel
          have hbwx : Below w.heap.size w wr := below_step hbw hby
          have x1 := DX.cell 1
          simp only [List.getElem?_toArray, List.getElem?_cons_zero, List.getElem?_cons_succ] at x1
          by_cases hltq : q < m
          · obtain ⟨g6, rfl⟩ : ∃ g, A6 = some ⟨g, 0, none⟩ := by
              rcases HR6.out.2 with ⟨h2, h3⟩ | ⟨g, cap, cur, hv, -⟩
              · injection h2 with _ h4; omega
              · injection hv with h1 h2 h3; exact ⟨g, h1⟩
            have hg6b := hg6 g6 rfl
            have hjr : q < rs.length := by rw [HRL.out]; exact hltq
            have hv : rs[q]? = some (rs[q]'hjr) := List.getElem?_eq_getElem hjr
            generalize rs[q]'hjr = v at hv
            have hav := HG.out q v hv
            obtain ⟨pj, hpj⟩ : ∃ pj, pj = p1 + q := ⟨_, rfl⟩
            rw [← HP1.out, ← hpj] at hav
            have hpn : pj < n := by omega
            obtain ⟨ada, y, rfl, hada, hy, cy⟩ := (hr.below hbwx).num (k := pj) hpn
            obtain rfl : v = y := Option.some.inj (hav.symm.trans hy)
            have hv2 := HL2.out v (List.mem_of_getElem? hv)
            have w3 : IntKind.i64.wrap ((p1 : Int) + q) = pj := by rw [IntWalk.i64_in _ (by omega)]; omega
            have hq1 : q + 1 ≤ m := hltq
            have wv : IntKind.i64.wrap v = v := IntWalk.i64_in _ (by omega)
            obtain ⟨X1, hX1⟩ : ∃ X1, X1 = v - 1 := ⟨_, rfl⟩
            have wx : IntKind.i64.wrap (v - 1) = X1 := by rw [IntWalk.i64_in _ (by omega)]; exact hX1.symm
            obtain ⟨I2, hI2⟩ : ∃ I2, I2 = idxL L X1 := ⟨_, rfl⟩
            have HIx2 := Lib.hid (fun w' (hb' : Below wo.heap.size wo w') => index_int (some ad) k c0 _ L X1 w' (hrL.below (hb.trans (hb'.mono (by omega)))) (by omega))
            have hIeq : ixOf (fun x => X1 == x) L = I2 := hI2.symm
            rw [hIeq] at HIx2
            have hset : (((rs.take q).map (fun v => idxL L (v - 1)) ++ ri.drop q).map (Value.int .i64)).set q (.int .i64 I2) = ((rs.take (q + 1)).map (fun v => idxL L (v - 1)) ++ ri.drop (q + 1)).map (.int .i64) := by
              obtain ⟨z1, z2⟩ := List.getElem?_eq_some_iff.1 hv
              rw [List.map_append, List.map_drop, set_mid _ _ q _ (by rw [List.length_map, List.length_map, List.length_take]; omega) (by rw [List.length_map, HIL.out]; exact hltq), List.take_succ_eq_append_getElem z1, List.map_append, List.map_append, List.map_append, List.map_drop, z2, hI2, hX1]
              rfl
            have hown6 := own_setK HR6.out q (.int .i64 I2)
            rw [hset] at hown6
            obtain ⟨cur6, -, hgh6, -⟩ := own_open HR6.out
            have BG6 : Blk wr g6 3 cur6.toArray := hgh6
            have f6 := BG6.frozen q
            obtain ⟨ad6, u6, e6, hb6, hu6, cu6⟩ := (Reads.of_own HR6.out).num hltq
            injection e6 with e6
            subst e6
            rw [Addr.add_lit, Nat.zero_add] at cu6
            have hn5 : w5.heap.size ≠ g6 := by omega
            have hna : ada.block ≠ g6 := by have := hbw.size; omega
            have DX2 := DX.far (p := ⟨g6, q, none⟩) hn5 (.int .i64 I2)
            have hby2 := hby.setCell (p := ⟨g6, q, none⟩) (by dsimp only; omega) (.int .i64 I2)
            have hown7 := own_apart HR7.out (p := ⟨g6, q, none⟩) (fun h => hne67 g6 h rfl) (.int .i64 I2)
            have HO6' := Lib.hid hown6
            have HO7' := Lib.hid hown7
            have y1 := DX2.cell 1
            simp only [List.getElem?_toArray, List.getElem?_cons_zero, List.getElem?_cons_succ] at y1
            have y2 : (wr.setCell ⟨g6, q, none⟩ (.int .i64 I2)).cell? (ada.add pj) = some (.int .u64 v) := by
              rw [World.cell?_setCell_far _ _ _ _ (by unfold Addr.add; split <;> exact fun e => hna e.symm)]
              exact cy
            clear hv hav hy hpj hX1 hI2 hIeq hset hown6 hown7 hgh6 BG6 hv2 hu6
            go_wp2
            go_region_held3 (fun w' => w'.cell? ⟨w5.heap.size, 1, none⟩ = some (.slice (some ⟨g6, 0, none⟩) m c6) ∧ w'.cell? (ada.add pj) = some (.int .u64 v)) (go_keep)
              (first | (go_at_call 34; with_reducible refine (HIx2.out _ (hby.drew)).mono ?_; rintro e wB ⟨rfl, rfl⟩))
            all_goals
              go_wp2
              go_roundw
              case rel => exact ⟨q + 1, hq1, by go_num, HO6'.out.drew, HO7'.out.drew, DX2, hby2.drew⟩
              case measure => simp [intOf]; omega
          · have hqm : q = m := by omega
            have g1 : decide (q < m) = false := decide_eq_false hltq
            have hR6 : wr.ownsRow wo.heap.size 3 1 (.slice A6 m c6) m ((rs.map (fun v => idxL L (v - 1))).map (.int .i64)) := by
              have := HR6.out
              rw [hqm, List.take_of_length_le (by rw [HRL.out]; exact Nat.le_refl _), List.drop_of_length_le (by rw [HIL.out]; exact Nat.le_refl _), List.append_nil] at this
              exact this
            have hobj : ObO wr (w1.heap.size + 1) (formO a S L (I : Int)) ⟨t, A6, m, c6, A7, bw, c7, fr⟩ := by
              rw [HFo.out]
              exact ⟨rfl, rfl, by rw [List.length_map]; exact HRL.out.symm, HBL.out.symm, own_mono hR6 hsz, own_mono HR7.out hsz⟩
            have HO2 := Lib.hid ((HOB.out.below hby).snoc hobj)
            have hgl := GB.lt
            have GX := (GB.below hby hgl).alloc (.cells (obvC ⟨t, A6, m, c6, A7, bw, c7, fr⟩).toArray 52)
            have gx0 := (GB.below hby hgl).cell 0
            have e0 := DX.cell 0
            have e1 := DX.cell 1
            have e2 := DX.cell 2
            have e3 := DX.cell 3
            simp only [List.getElem?_toArray, List.getElem?_cons_zero, List.getElem?_cons_succ] at gx0 e0 e1 e2 e3
            have hownO := (own_below HOW.out hby).alloc (.cells (obvC ⟨t, A6, m, c6, A7, bw, c7, fr⟩).toArray 52)
            have HO3 := Lib.hid (HO2.out.below (below_new wr (.cells (obvC ⟨t, A6, m, c6, A7, bw, c7, fr⟩).toArray 52)))
            have hbz := (hb.trans (hby.mono (by omega))).alloc (by have := hby.size; omega) (.cells (obvC ⟨t, A6, m, c6, A7, bw, c7, fr⟩).toArray 52)
            have hnew := reads_new wr (obvC ⟨t, A6, m, c6, A7, bw, c7, fr⟩) 52 1 4 rfl
            have hszr := hby.size
            have HMP : Hid ((L.take (j + 1)).map (formO a S L) = (L.take j).map (formO a S L) ++ [formO a S L (I : Int)]) := by show _ = _; rw [HT.out, List.map_append]; rfl
            have HOWn := Lib.hid hownO
            clear hqm HR6 HR7 hR6 hobj HOB HOW x1
            go_wp2_with (at_builtin; refine wpList_append_any _ rfl (.tmp 61) (.tmp 63) 74 rfl (w1.heap.size + 1) 52 i0 _ 4 64 Tryz.underlying74 hi hz0 hz1 hz2 rfl (by decide) (.slice Ao j co) j _ rfl hownO (wr.heap.size + 1) (some ⟨wr.heap.size, 0, none⟩) 1 1 (obvC ⟨t, A6, m, c6, A7, bw, c7, fr⟩) rfl hnew (by simp [obvC, Value.oneCell']) (by simp [maxLen]; omega) (by omega) (by rw [World.size_alloc]; omega) ?_; rintro v' w9 hown9 hgr - -; obtain ⟨A9, c9, rfl⟩ := own_slice hown9; have G9 := GX.grown hgr (fun h => by have := (HOWn.out.lt _ h.symm).1; omega); have p0 := G9.cell 0; have pf := G9.frozen 0; simp only [List.getElem?_toArray, List.getElem?_cons_zero] at p0)
            have hb9 := hbz.grown hgr (by rw [World.size_alloc]; omega) (fun g hg => by have := (HOWn.out.lt g hg).1; omega)
            have HO9 := Lib.hid ((HO3.out.grown HOWn.out hgr (by decide) (by decide)).far (p := ⟨w1.heap.size, 0, none⟩) (by dsimp only; omega) (.slice A9 (j + 1) c9))
            have G10 : Blk (w9.setCell ⟨w1.heap.size, 0, none⟩ (.slice A9 (j + 1) c9)) w1.heap.size 76 #[.slice A9 (j + 1) c9, .slice none 0 0] := by simpa using G9.set_ 0 (.slice A9 (j + 1) c9)
            have HW9 := Lib.hid (own_far hown9 (p := ⟨w1.heap.size, 0, none⟩) (by dsimp only; omega) (.slice A9 (j + 1) c9))
            have hgs := hgr.size
            go_roundw
            case rel =>
              refine ⟨j + 1, vs ++ [⟨t, A6, m, c6, A7, bw, c7, fr⟩], A9, c9, hj1, by go_num, G10, ?_, ?_, hb9.setCell (p := ⟨w1.heap.size, 0, none⟩) (Nat.le_refl _) _, ?_⟩
              · show World.ownsRow _ _ _ _ _ _ _
                rw [List.flatMap_append]
                simpa using HW9.out
              · show ObsO _ _ _ _
                rw [HMP.out]
                exact HO9.out
              · rw [World.size_setCell]
                rw [World.size_alloc] at hgs
                omega
            case measure => simp [intOf]; omega
      · have hjk : j = k := by omega
        have g0 : decide (j < k) = false := decide_eq_false hlt
        have HOB2 : Hid (ObsO wr (w1.heap.size + 1) (L.map (formO a S L)) vs) := by
          have := HOB.out
          rw [hjk, List.take_of_length_le (by rw [← HK.out]; exact Nat.le_refl _)] at this
          exact this
        have HOW2 : Hid (wr.ownsRow (w1.heap.size + 1) 52 4 (.slice Ao k co) k (vs.flatMap obvC)) := by have := HOW.out; rw [hjk] at this; exact this
        have GB2 : Blk wr w1.heap.size 76 #[.slice Ao k co, .slice none 0 0] := by rw [hjk] at GB; exact GB
        obtain ⟨wo, hwo⟩ : ∃ x, x = wr := ⟨wr, rfl⟩
        subst hwo
        have HTop := Lib.hid HOB2.out.top
        clear hjk HOB HOW GB
        go_wp2
        go_loopw [15, 69] (fun _ i wx => ∃ (q : Nat) (Af : Option Addr) (cf : Nat), q ≤ n2 ∧ i = .int .i64 q ∧ Blk wx w1.heap.size 76 #[.slice Ao k co, .slice Af q cf] ∧ Hid (wx.ownsRow wo.heap.size 3 1 (.slice Af q cf) q (((f.take q).map (idxL L)).map (.int .i64))) ∧
          Hid (wx.ownsRow (w1.heap.size + 1) 52 4 (.slice Ao k co) k (vs.flatMap obvC)) ∧ Hid (ObsO wx (w1.heap.size + 1) (L.map (formO a S L)) vs) ∧ Below w1.heap.size (w1.alloc (.cells #[.slice none 0 0, .slice none 0 0] 76)) wx ∧ wo.heap.size ≤ wx.heap.size) (fun _ i _ => n2 - (intOf i).toNat)
        case atStart => exact ⟨0, none, 0, Nat.zero_le _, rfl, GB2, World.ownsRow_nil _ _ _ _, HOW2, HOB2, hb, Nat.le_refl _⟩
        case round =>
          obtain ⟨q, Af, cf, hq, rfl, GX, HRF, HOWx, HOBx, hbx, hszx⟩ := hrel
          have hbwx : Below w.heap.size w wr := hb02.trans (hbx.mono hw01)
          have x0 := GX.cell 0
          have x1 := GX.cell 1
          simp only [List.getElem?_toArray, List.getElem?_cons_zero, List.getElem?_cons_succ] at x0 x1
          by_cases hltq : q < n2
          · obtain ⟨ad, y, rfl, had, hy, cy⟩ := (hr2.below hbwx).num hltq
            have hq1 : q + 1 ≤ n2 := hltq
            obtain ⟨I2, hI2⟩ : ∃ I2, I2 = idxL L y := ⟨_, rfl⟩
            have HIx2 := Lib.hid (fun w' (hb' : Below w1.heap.size (w1.alloc (.cells #[.slice none 0 0, .slice none 0 0] 76)) w') => index_int A0 k c0 _ L y w' (hrL.below hb') (by omega))
            have hIeq : ixOf (fun x => y == x) L = I2 := hI2.symm
            rw [hIeq] at HIx2
            have HFT : Hid ((f.take (q + 1)).map (idxL L) = (f.take q).map (idxL L) ++ [I2]) := by
              show _ = _
              obtain ⟨z1, z2⟩ := List.getElem?_eq_some_iff.1 hy
              rw [List.take_succ_eq_append_getElem z1, List.map_append, z2, hI2]
              rfl
            have hszw : (wr.alloc (.cells #[.int .i64 I2] 3)).drew.heap.size = wr.heap.size + 1 := World.size_alloc _ _
            have hO4 := (HRF.out.alloc (.cells #[.int .i64 I2] 3)).drew
            obtain ⟨v9, w9, hrun, hO9, hg9, hor9, -⟩ := run_append_any (P := Tryz.prog) (wr.alloc (.cells #[.int .i64 I2] 3)).drew wo.heap.size 36 36 3 j0 (.int .i64 0) 1 8 Tryz.underlying36 ji jz0 jz1 jz2 rfl (by decide) (.slice Af q cf) q _ hO4 _ (some ⟨wr.heap.size, 0, none⟩) 1 1 [.int .i64 I2] (reads_new wr [.int .i64 I2] 3 1 1 rfl) (by simp [Value.oneCell']) (by unfold maxLen; omega) (by omega) (by rw [hszw]; omega)
            obtain ⟨A9, c9, rfl⟩ := own_slice hO9
            have hcur := fun g hg => (hO4.lt g hg).1
            have hGlt := GX.lt
            have G9 := ((GX.alloc (.cells #[.int .i64 I2] 3)).drew).grown hg9 (fun h => by have := hcur _ h.symm; have := G1.lt; omega)
            have G10 : Blk (w9.setCell ⟨w1.heap.size, 1, none⟩ (.slice A9 (q + 1) c9)) w1.heap.size 76 #[.slice Ao k co, .slice A9 (q + 1) c9] := by simpa using G9.set_ 1 (.slice A9 (q + 1) c9)
            have hOW9 := own_grown ((HOWx.out.alloc (.cells #[.int .i64 I2] 3)).drew) hg9 (fun g hg h => own_types hO4 ((HOWx.out.alloc (.cells #[.int .i64 I2] 3)).drew) (by decide) h hg)
            have hOB9 := ((HOBx.out.below (below_new wr (.cells #[.int .i64 I2] 3))).drew).apart hg9 (fun v hv g hg h => by have := hcur _ h; have := HTop.out v hv g hg; omega)
            have hb9 := ((hbx.alloc (by have := hbx.size; rw [World.size_alloc] at this; omega) (.cells #[.int .i64 I2] 3)).drew).grown hg9 (by rw [hszw]; omega) (fun g hg => by have := hcur g hg; omega)
            have HOW10 := Lib.hid (own_far hOW9 (p := ⟨w1.heap.size, 1, none⟩) (by dsimp only; omega) (.slice A9 (q + 1) c9))
            have HOB10 := Lib.hid (hOB9.far (p := ⟨w1.heap.size, 1, none⟩) (by dsimp only; omega) (.slice A9 (q + 1) c9))
            have HRF10 : Hid ((w9.setCell ⟨w1.heap.size, 1, none⟩ (.slice A9 (q + 1) c9)).ownsRow wo.heap.size 3 1 (.slice A9 (q + 1) c9) (q + 1) (((f.take (q + 1)).map (idxL L)).map (.int .i64))) := by
              show World.ownsRow _ _ _ _ _ _ _
              rw [HFT.out, List.map_append]
              exact own_far hO9 (p := ⟨w1.heap.size, 1, none⟩) (by dsimp only; have := G1.lt; omega) _
            have hb10 := hb9.setCell (p := ⟨w1.heap.size, 1, none⟩) (Nat.le_refl _) (.slice A9 (q + 1) c9)
            have hs10 : wo.heap.size ≤ (w9.setCell ⟨w1.heap.size, 1, none⟩ (.slice A9 (q + 1) c9)).heap.size := by rw [World.size_setCell]; have := hg9.size; rw [hszw] at this; omega
            have HRun := Lib.hid hrun
            have p1 := G9.cell 1
            have pf := G9.frozen 1
            have l1 := (GX.alloc (.cells #[.int .i64 I2] 3)).cell 1
            have l2 := GX.drew.cell 1
            simp only [List.getElem?_toArray, List.getElem?_cons_zero, List.getElem?_cons_succ] at p1 l1 l2
            have hbdr := hbx.drew
            clear hy hI2 hIeq hrun hO4 hO9 hg9 hor9 hOW9 hOB9 hb9 G9 hcur HRF HOWx HOBx
            go_wp2
            refine wp_region_held_drew (S := fun _ => True) (by kernel_rfl) trivial (fun hHeld => ?_)
            refine wpAnyH_take (i := 0) (v := .pointer (some ⟨w1.heap.size, 1, none⟩)) (List.getElem?_toArray.trans rfl) (by kernel_rfl) (by kernel_rfl) (by kernel_rfl) (fun _ _ _ h => h) (Or.inl ⟨by rfl, fun w _ => by go_simp⟩) hHeld ?_
            try simp only [Act.put, List.setIfInBounds_toArray, List.set_cons_zero, List.set_cons_succ]
            refine wpAnyH_take (i := 2) (v := .slice A0 k c0) (List.getElem?_toArray.trans rfl) (by kernel_rfl) (by kernel_rfl) (by kernel_rfl) (fun _ _ _ h => h) (Or.inl ⟨by rfl, fun w _ => by go_simp⟩) hHeld ?_
            try simp only [Act.put, List.setIfInBounds_toArray, List.set_cons_zero, List.set_cons_succ]
            refine wpAnyH_take (i := 3) (v := .int .i64 y) (List.getElem?_toArray.trans rfl) (by kernel_rfl) (by kernel_rfl) (by kernel_rfl) (fun _ _ _ h => h) (Or.inl ⟨by rfl, fun w _ => by go_simp⟩) hHeld ?_
            try simp only [Act.put, List.setIfInBounds_toArray, List.set_cons_zero, List.set_cons_succ]
            refine wpAnyH_ready (rs := [1, 4]) (by kernel_rfl) (by simp) (AllReadyH.cons (List.getElem?_toArray.trans rfl) (fun K hK => ?_) (AllReadyH.cons (List.getElem?_toArray.trans rfl) (fun K hK => ?_) AllReadyH.nil))
            · go_simp
              refine hK.out _ _ trivial (fun hHeld => ?_)
              clear hK K
              try simp only [Act.put, List.setIfInBounds_toArray, List.set_cons_zero, List.set_cons_succ]
              refine wpAnyH_ready (rs := [4]) (by kernel_rfl) (by simp) (AllReadyH.cons (List.getElem?_toArray.trans rfl) (fun K hK => ?_) AllReadyH.nil)
              go_simp
              go_at_call 34
              with_reducible refine (HIx2.out _ hbdr).mono ?_; rintro e wB ⟨rfl, rfl⟩
              refine hK.out _ _ trivial (fun hHeld => ?_)
              clear hK K
              try simp only [Act.put, List.setIfInBounds_toArray, List.set_cons_zero, List.set_cons_succ]
              refine wpAnyH_ready (rs := [5]) (by kernel_rfl) (by simp) (AllReadyH.cons (List.getElem?_toArray.trans rfl) (fun K hK => ?_) AllReadyH.nil)
              go_simp
              refine hK.out _ _ trivial (fun hHeld => ?_)
              clear hK K
              try simp only [Act.put, List.setIfInBounds_toArray, List.set_cons_zero, List.set_cons_succ]
              refine wpAnyH_ready (rs := [6]) (by kernel_rfl) (by simp) (AllReadyH.cons (List.getElem?_toArray.trans rfl) (fun K hK => ?_) AllReadyH.nil)
              refine step_append_run rfl (.tmp 74) (.tmp 78) 36 36 rfl (.slice Af q cf) (.slice (some ⟨wr.heap.size, 0, none⟩) 1 1) (by simp [Act.eval]) (by simp [Act.eval]) HRun.out ?_
              refine hK.out _ _ trivial (fun hHeld => ?_)
              clear hK K
              try simp only [Act.put, List.setIfInBounds_toArray, List.set_cons_zero, List.set_cons_succ]
              refine wpAnyH_take (i := 7) (v := .pointer (some ⟨w1.heap.size, 1, none⟩)) (List.getElem?_toArray.trans rfl) (by kernel_rfl) (by kernel_rfl) (by kernel_rfl) (fun _ _ _ h => h) (Or.inl ⟨by rfl, fun w _ => by go_simp⟩) hHeld ?_
              try simp only [Act.put, List.setIfInBounds_toArray, List.set_cons_zero, List.set_cons_succ]
              refine wpAnyH_ready (rs := [8]) (by kernel_rfl) (by simp) (AllReadyH.cons (List.getElem?_toArray.trans rfl) (fun K hK => ?_) AllReadyH.nil)
              go_simp
              refine hK.out _ _ trivial (fun hHeld => ?_)
              clear hK K
              try simp only [Act.put, List.setIfInBounds_toArray, List.set_cons_zero, List.set_cons_succ]
              refine wpAnyH_done (by kernel_rfl) ?_ _
              go_wp2
              go_roundw
              case rel => exact ⟨q + 1, A9, c9, hq1, by go_num, G10, HRF10, HOW10, HOB10, hb10, hs10⟩
              case measure => simp [intOf]; omega
            · go_simp
              go_at_call 34
              with_reducible refine (HIx2.out _ hbdr).mono ?_; rintro e wB ⟨rfl, rfl⟩
              refine hK.out _ _ trivial (fun hHeld => ?_)
              clear hK K
              try simp only [Act.put, List.setIfInBounds_toArray, List.set_cons_zero, List.set_cons_succ]
              refine wpAnyH_ready (rs := [1, 5]) (by kernel_rfl) (by simp) (AllReadyH.cons (List.getElem?_toArray.trans rfl) (fun K hK => ?_) (AllReadyH.cons (List.getElem?_toArray.trans rfl) (fun K hK => ?_) AllReadyH.nil))
              · go_simp
                refine hK.out _ _ trivial (fun hHeld => ?_)
                clear hK K
                try simp only [Act.put, List.setIfInBounds_toArray, List.set_cons_zero, List.set_cons_succ]
                refine wpAnyH_ready (rs := [5]) (by kernel_rfl) (by simp) (AllReadyH.cons (List.getElem?_toArray.trans rfl) (fun K hK => ?_) AllReadyH.nil)
                go_simp
                refine hK.out _ _ trivial (fun hHeld => ?_)
                clear hK K
                try simp only [Act.put, List.setIfInBounds_toArray, List.set_cons_zero, List.set_cons_succ]
                refine wpAnyH_ready (rs := [6]) (by kernel_rfl) (by simp) (AllReadyH.cons (List.getElem?_toArray.trans rfl) (fun K hK => ?_) AllReadyH.nil)
                refine step_append_run rfl (.tmp 74) (.tmp 78) 36 36 rfl (.slice Af q cf) (.slice (some ⟨wr.heap.size, 0, none⟩) 1 1) (by simp [Act.eval]) (by simp [Act.eval]) HRun.out ?_
                refine hK.out _ _ trivial (fun hHeld => ?_)
                clear hK K
                try simp only [Act.put, List.setIfInBounds_toArray, List.set_cons_zero, List.set_cons_succ]
                refine wpAnyH_take (i := 7) (v := .pointer (some ⟨w1.heap.size, 1, none⟩)) (List.getElem?_toArray.trans rfl) (by kernel_rfl) (by kernel_rfl) (by kernel_rfl) (fun _ _ _ h => h) (Or.inl ⟨by rfl, fun w _ => by go_simp⟩) hHeld ?_
                try simp only [Act.put, List.setIfInBounds_toArray, List.set_cons_zero, List.set_cons_succ]
                refine wpAnyH_ready (rs := [8]) (by kernel_rfl) (by simp) (AllReadyH.cons (List.getElem?_toArray.trans rfl) (fun K hK => ?_) AllReadyH.nil)
                go_simp
                refine hK.out _ _ trivial (fun hHeld => ?_)
                clear hK K
                try simp only [Act.put, List.setIfInBounds_toArray, List.set_cons_zero, List.set_cons_succ]
                refine wpAnyH_done (by kernel_rfl) ?_ _
                go_wp2
                go_roundw
                case rel => exact ⟨q + 1, A9, c9, hq1, by go_num, G10, HRF10, HOW10, HOB10, hb10, hs10⟩
                case measure => simp [intOf]; omega
              · go_simp
                refine hK.out _ _ trivial (fun hHeld => ?_)
                clear hK K
                try simp only [Act.put, List.setIfInBounds_toArray, List.set_cons_zero, List.set_cons_succ]
                refine wpAnyH_ready (rs := [1]) (by kernel_rfl) (by simp) (AllReadyH.cons (List.getElem?_toArray.trans rfl) (fun K hK => ?_) AllReadyH.nil)
                go_simp
                refine hK.out _ _ trivial (fun hHeld => ?_)
                clear hK K
                try simp only [Act.put, List.setIfInBounds_toArray, List.set_cons_zero, List.set_cons_succ]
                refine wpAnyH_ready (rs := [6]) (by kernel_rfl) (by simp) (AllReadyH.cons (List.getElem?_toArray.trans rfl) (fun K hK => ?_) AllReadyH.nil)
                refine step_append_run rfl (.tmp 74) (.tmp 78) 36 36 rfl (.slice Af q cf) (.slice (some ⟨wr.heap.size, 0, none⟩) 1 1) (by simp [Act.eval]) (by simp [Act.eval]) HRun.out ?_
                refine hK.out _ _ trivial (fun hHeld => ?_)
                clear hK K
                try simp only [Act.put, List.setIfInBounds_toArray, List.set_cons_zero, List.set_cons_succ]
                refine wpAnyH_take (i := 7) (v := .pointer (some ⟨w1.heap.size, 1, none⟩)) (List.getElem?_toArray.trans rfl) (by kernel_rfl) (by kernel_rfl) (by kernel_rfl) (fun _ _ _ h => h) (Or.inl ⟨by rfl, fun w _ => by go_simp⟩) hHeld ?_
                try simp only [Act.put, List.setIfInBounds_toArray, List.set_cons_zero, List.set_cons_succ]
                refine wpAnyH_ready (rs := [8]) (by kernel_rfl) (by simp) (AllReadyH.cons (List.getElem?_toArray.trans rfl) (fun K hK => ?_) AllReadyH.nil)
                go_simp
                refine hK.out _ _ trivial (fun hHeld => ?_)
                clear hK K
                try simp only [Act.put, List.setIfInBounds_toArray, List.set_cons_zero, List.set_cons_succ]
                refine wpAnyH_done (by kernel_rfl) ?_ _
                go_wp2
                go_roundw
                case rel => exact ⟨q + 1, A9, c9, hq1, by go_num, G10, HRF10, HOW10, HOB10, hb10, hs10⟩
                case measure => simp [intOf]; omega
          · have hqn : q = n2 := by omega
            have g1 : decide (q < n2) = false := decide_eq_false hltq
            have HRF2 : Hid (wr.ownsRow w.heap.size 3 1 (.slice Af n2 cf) n2 ((f.map (idxL L)).map (.int .i64))) := by
              have := HRF.out
              rw [hqn, List.take_of_length_le (by rw [HFL.out]; exact Nat.le_refl _)] at this
              exact own_mono this (by omega)
            have HQN := Lib.hid hqn
            have R4 : Blk wr w.heap.size 76 #[.slice none 0 0, .slice none 0 0] := R2.below hbx hRlt
            have f0 := R4.frozen 0
            have f1 := R4.frozen 1
            have r0 := R4.cell 0
            have r1 := R4.cell 1
            simp only [List.getElem?_toArray, List.getElem?_cons_zero, List.getElem?_cons_succ] at r0 r1
            have HBW := Lib.hid hbwx
            have HOW3 := Lib.hid (own_far (own_far HOWx.out (p := ⟨w.heap.size, 0, none⟩) (by dsimp only; omega) (.slice Ao k co)) (p := ⟨w.heap.size, 1, none⟩) (by dsimp only; omega) (.slice Af q cf))
            have HOB3 := Lib.hid ((HOBx.out.far (p := ⟨w.heap.size, 0, none⟩) (by dsimp only; omega) (.slice Ao k co)).far (p := ⟨w.heap.size, 1, none⟩) (by dsimp only; omega) (.slice Af q cf))
            have HRF3 : Hid (((wr.setCell ⟨w.heap.size, 0, none⟩ (.slice Ao k co)).setCell ⟨w.heap.size, 1, none⟩ (.slice Af q cf)).ownsRow w.heap.size 3 1 (.slice Af n2 cf) n2 ((f.map (idxL L)).map (.int .i64))) := by
              have h1 : wr.ownsRow wo.heap.size 3 1 (.slice Af n2 cf) n2 ((f.map (idxL L)).map (.int .i64)) := by
                have := HRF.out
                rw [hqn, List.take_of_length_le (by rw [HFL.out]; exact Nat.le_refl _)] at this
                exact this
              exact own_mono (own_far (own_far h1 (p := ⟨w.heap.size, 0, none⟩) (by dsimp only; omega) (.slice Ao k co)) (p := ⟨w.heap.size, 1, none⟩) (by dsimp only; omega) (.slice Af q cf)) (by omega)
            have HKL : Hid ((L.map (formO a S L)).length = k) := by show _ = _; rw [List.length_map]; exact HK.out.symm
            have HFRL : Hid ((f.map (idxL L)).length = n2) := by show _ = _; rw [List.length_map]; exact HFL.out
            clear hqn HRF HRF2
            go_wp2
            refine bodyPost_ret (v := .tuple #[.agg #[.slice Ao k co, .slice Af q cf], .int .i64 0]) ?_ rfl ⟨?_, .inl ⟨HALL.out, L.map (formO a S L), f.map (idxL L), vs, Ao, co, Af, cf, HFi.out, by rw [HKL.out]; exact hL256, HFRL.out, ?_, ?_, ?_, ?_⟩⟩
            · simp only [results, Tryz.results30]
              go_simp
            · exact (HBW.out.setCell (p := ⟨w.heap.size, 0, none⟩) (Nat.le_refl _) _).setCell (p := ⟨w.heap.size, 1, none⟩) (Nat.le_refl _) _
            · rw [HKL.out, HQN.out]
            · rw [HKL.out]
              exact own_mono HOW3.out (by omega)
            · exact HOB3.out.mono (by omega)
            · exact HRF3.out
  · have HEX : Hid (¬ ∀ x ∈ f, x ∈ begsL S) := fun h => by
      obtain ⟨x, hx, hx2⟩ := hex
      exact hx2 (h x hx)
    clear hex
    have R1 := R0.below hb1 R0.lt
    have r0 := R1.cell 0
    have r1 := R1.cell 1
    have f0 := R1.frozen 0
    have f1 := R1.frozen 1
    simp only [List.getElem?_toArray, List.getElem?_cons_zero, List.getElem?_cons_succ] at r0 r1
    have hb01 := below_step hb0 hb1
    have hw1 := R1.lt
    go_wp2
    refine bodyPost_ret (v := .tuple #[.agg #[.slice none 0 0, .slice none 0 0], .int .i64 5]) ?_ rfl ⟨?_, .inr ⟨HEX.out, 5, rfl, rfl⟩⟩
    · simp only [results, Tryz.results30]
      go_simp
    · iterate 2 refine Below.setCell ?_ (by dsimp only; omega) _
      exact hb01
end Go.Proofs.YtfikonmhbhcejaaGreatDoor
