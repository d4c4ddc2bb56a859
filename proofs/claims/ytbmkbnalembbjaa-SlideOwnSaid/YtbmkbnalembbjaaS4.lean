/-
  Texts joined: CarryOrd CarryOrdT Chunks GapDefs.
-/
import Derived.Test.YtbmkbnalembbjaaS1
import Derived.Test.YtbmkbnalembbjaaS2
import Derived.Test.YtbmkbnalembbjaaS3
namespace Go.Proofs.Ytbmkbnalembbjaa
open Go.RowKit
def Named (a : List Int) (S : List Spot) (f out : List Int) : Prop := ∀ (i : Nat) (x : Int), out[i]? = some x → x ∈ f ∨ ∃ (j : Nat) (y : Int), j < i ∧ out[j]? = some y ∧ x ∈ linksAt a S y
theorem Named.add {a : List Int} {S : List Spot} {f out : List Int} {x : Int} (h : Named a S f out) (hx : x ∈ f ∨ ∃ (j : Nat) (y : Int), j < out.length ∧ out[j]? = some y ∧ x ∈ linksAt a S y) : Named a S f (addL out x) := by
  unfold addL
  split
  · exact h
  · intro i z hz
    by_cases hi : i < out.length
    · rw [List.getElem?_append_left hi] at hz
      rcases h i z hz with h1 | ⟨j, y, h1, h2, h3⟩
      · exact .inl h1
      · exact .inr ⟨j, y, h1, by rw [List.getElem?_append_left (by omega)]; exact h2, h3⟩
    · rw [List.getElem?_append_right (by omega)] at hz
      obtain ⟨q1, q2⟩ := List.getElem?_eq_some_iff.1 hz
      simp only [List.length_singleton] at q1
      have q3 : i - out.length = 0 := by omega
      simp only [q3, List.getElem_cons_zero] at q2
      subst q2
      rcases hx with h1 | ⟨j, y, h1, h2, h3⟩
      · exact .inl h1
      · exact .inr ⟨j, y, by omega, by rw [List.getElem?_append_left h1]; exact h2, h3⟩
theorem Named.adds {a : List Int} {S : List Spot} {f : List Int} {i : Nat} {x : Int} : ∀ {out : List Int} (l : List Int), Named a S f out → out[i]? = some x → (∀ y ∈ l, y ∈ linksAt a S x) → Named a S f (l.foldl addL out)
  | _, [], h, _, _ => h
  | out, y :: l, h, hx, hl => by
    have hi := (List.getElem?_eq_some_iff.1 hx).1
    have h1 := h.add (x := y) (.inr ⟨i, x, hi, hx, hl y List.mem_cons_self⟩)
    have hx1 : (addL out y)[i]? = some x := by
      unfold addL
      split
      · exact hx
      · rw [List.getElem?_append_left hi]; exact hx
    exact Named.adds l h1 hx1 (fun z hz => hl z (List.mem_cons_of_mem _ hz))
def ComeSt (w0 : World) (out : List Int) (w : World) : Prop :=
  ∃ Ao co, Blk w w0.heap.size 24 #[.slice Ao out.length co] ∧ w.ownsRow (w0.heap.size + 1) 3 1 (.slice Ao out.length co) out.length (out.map (.int .i64)) ∧ Below w0.heap.size w0 w
theorem ComeSt.below {w0 w w' : World} {out : List Int} (h : ComeSt w0 out w) (hb : Below w.heap.size w w') : ComeSt w0 out w' := by
  obtain ⟨Ao, co, h1, h2, h3⟩ := h
  exact ⟨Ao, co, h1.below hb h1.lt, own_below h2 hb, h3.trans (hb.mono h3.size)⟩
set_option maxRecDepth 100000 in
set_option maxHeartbeats 1000000 in
theorem come_any (w0 : World) (out : List Int) (x : Int) (w : World) (h : ComeSt w0 out w) (hl : out.length ≤ 100000) :
    Calls Try.prog 71 #[.int .i64 x, .pointer (some ⟨w0.heap.size, 0, none⟩)] w fun e w' => e = .returned (.tuple #[]) ∧ ComeSt w0 (addL out x) w' := by
  obtain ⟨Ao, co, h2, h4, h5⟩ := h
  have d0 := h2.cell 0
  simp only [List.getElem?_toArray, List.getElem?_cons_zero] at d0
  by_cases hm : x ∈ out
  · have e2 : addL out x = out := by unfold addL; rw [if_pos hm]
    rw [e2]
    have HC := Lib.hid (contains_int Ao out.length co _ out x true w (Reads.of_own h4) (by omega) (decide_eq_true hm))
    have HS : Hid (ComeSt w0 out w) := ⟨Ao, co, h2, h4, h5⟩
    clear e2 hm h2 h4 h5
    go_enter Try.func71, Try.ntmps71
    go_wp2_with fail
    refine HC.out.mono ?_
    rintro e w' ⟨rfl, rfl⟩
    go_wp2
    go_end0
    exact ⟨rfl, HS.out⟩
  · have e2 : addL out x = out ++ [x] := by unfold addL; rw [if_neg hm]
    rw [e2]
    have HC := Lib.hid (contains_int Ao out.length co _ out x false w (Reads.of_own h4) (by omega) (decide_eq_false hm))
    have hwl := h2.lt
    have hD2 := h2.alloc (.cells #[.int .i64 x] 3)
    have hO2 := h4.alloc (.cells #[.int .i64 x] 3)
    have hb2 := h5.alloc h5.size (.cells #[.int .i64 x] 3)
    obtain ⟨i0, hi, hz0, hz1, hz2⟩ := info_parts info_int
    obtain ⟨k, hk⟩ : ∃ k, k = out.length := ⟨_, rfl⟩
    rw [← hk] at hO2 hD2 d0 hl HC
    have HK := Lib.hid hk
    have HD2 := Lib.hid hD2
    clear e2 hm h2 h4 h5 hD2 hk
    go_enter Try.func71, Try.ntmps71
    go_wp2_with fail
    refine HC.out.mono ?_
    rintro e w' ⟨rfl, rfl⟩
    go_wp2_with (at_builtin; refine wpList_append_any _ rfl (.tmp 7) (.tmp 9) 24 rfl (w0.heap.size + 1) 3 i0 (.int .i64 0) 1 8 Try.underlying24 hi hz0 hz1 hz2 rfl (by decide) (.slice Ao k co) k _ rfl hO2 (w.heap.size + 1) (some ⟨w.heap.size, 0, none⟩) 1 1 [.int .i64 x] rfl (reads_new w [.int .i64 x] 3 1 1 rfl) (by simp [Value.oneCell']) (by unfold maxLen; omega) (by omega) (by simp; omega) ?_; rintro v' w3 hown3 hgr - -; obtain ⟨A5, c5, rfl⟩ := own_slice hown3; have hD3 := HD2.out.grown hgr (fun h => by have := (hO2.lt _ h.symm).1; omega); have p0 := hD3.cell 0; have pf := hD3.frozen 0; simp only [List.getElem?_toArray, List.getElem?_cons_zero] at p0)
    go_end0
    have hb3 := hb2.grown hgr hb2.size (fun g hg => by have := (hO2.lt g hg).1; omega)
    have hD4 : Blk (w3.setCell ⟨w0.heap.size, 0, none⟩ (.slice A5 (k + 1) c5)) w0.heap.size 24 #[.slice A5 (k + 1) c5] := by simpa using hD3.set_ 0 (.slice A5 (k + 1) c5)
    refine ⟨rfl, A5, c5, ?_, ?_, hb3.setCell (p := ⟨w0.heap.size, 0, none⟩) (by dsimp only; omega) _⟩
    · rw [List.length_append, List.length_singleton, ← HK.out]
      exact hD4
    · rw [List.length_append, List.length_singleton, ← HK.out, List.map_append]
      exact own_apart hown3 (fun hg => by have := (hown3.lt _ hg).1; dsimp only at this; omega) _
set_option maxHeartbeats 400000 in
theorem order_bad (A : Option Addr) (n c : Nat) (a : List Int) (A2 : Option Addr) (n2 c2 : Nat) (w : World) (hr : Reads w w.heap.size 1 A n (a.map (.int .u64))) (hnc : n ≤ c) (ha : ∀ x ∈ a, (Lit.int .u64 x).wf = true) (hE : checkE a ≠ 0) :
    Calls Try.prog 49 #[.slice A n c, .slice A2 n2 c2] w fun e w' => e = .returned (.tuple #[.slice none 0 0, .int .i64 (checkE a)]) ∧ Below w.heap.size w w' := by
  have H := Lib.hid (fun w hr => reach_bad A n c a A2 n2 c2 w hr hnc ha hE)
  have hE1 : (checkE a != 0) = true := by simpa using hE
  generalize checkE a = E at *
  clear hE
  go_enter Try.func49, Try.ntmps49
  go_wp2_with fail
  refine (H.out _ hr).mono ?_
  rintro e w1 ⟨rfl, hb1⟩
  go_wp2
  go_ret2
  exact ⟨rfl, hb1⟩
def bfsL (a : List Int) (S : List Spot) (f : List Int) : Nat → List Int
  | 0 => f.foldl addL []
  | i + 1 => match (bfsL a S f i)[i]? with | some x => (linksAt a S x).foldl addL (bfsL a S f i) | none => bfsL a S f i
theorem bfsL_still {a : List Int} {S : List Spot} {f : List Int} {n : Nat} (h : (bfsL a S f n).length ≤ n) : ∀ m, n ≤ m → bfsL a S f m = bfsL a S f n := by
  intro m hm
  induction m with
  | zero => have : n = 0 := by omega
            subst this; rfl
  | succ m ih =>
    by_cases he : n = m + 1
    · subst he; rfl
    · have h1 := ih (by omega)
      show (match (bfsL a S f m)[m]? with | some x => (linksAt a S x).foldl addL (bfsL a S f m) | none => bfsL a S f m) = _
      rw [h1, List.getElem?_eq_none (by omega)]
theorem bfsL_unique {a : List Int} {S : List Spot} {f L L' : List Int} (h : L = bfsL a S f L.length) (h' : L' = bfsL a S f L'.length) : L = L' := by
  rcases Nat.le_total L.length L'.length with hl | hl
  · have h1 := bfsL_still (a := a) (S := S) (f := f) (n := L.length) (by rw [← h]; exact Nat.le_refl _) _ hl
    rw [h', h1]; exact h
  · have h1 := bfsL_still (a := a) (S := S) (f := f) (n := L'.length) (by rw [← h']; exact Nat.le_refl _) _ hl
    rw [h, h1]; exact h'.symm
structure Ordered (a : List Int) (S : List Spot) (f out : List Int) : Prop where
  search : Search a S f out out.length
  roots : ∀ x ∈ f, x ∈ out
  named : Named a S f out
  fn : out = bfsL a S f out.length
set_option maxRecDepth 100000 in
set_option maxHeartbeats 2000000 in
theorem order_ok (A : Option Addr) (n c : Nat) (a : List Int) (A2 : Option Addr) (n2 c2 : Nat) (f : List Int) (w : World) (hr : Reads w w.heap.size 1 A n (a.map (.int .u64))) (hnc : n ≤ c) (ha : ∀ x ∈ a, (Lit.int .u64 x).wf = true)
    (hr2 : Reads w w.heap.size 1 A2 n2 (f.map (.int .i64))) (hn2 : n2 ≤ 1000000000000000000) (hx2 : ∀ x ∈ f, (Lit.int .i64 x).wf = true) (hE : checkE a = 0) :
    Calls Try.prog 49 #[.slice A n c, .slice A2 n2 c2] w fun e w' => Below w.heap.size w w' ∧
      ((∃ L A' c', Ordered a (spotsL a) f L ∧ e = .returned (.tuple #[.slice A' L.length c', .int .i64 0]) ∧ w'.ownsRow w.heap.size 3 1 (.slice A' L.length c') L.length (L.map (.int .i64))) ∨
       ((∃ x ∈ f, x ∉ begsL (spotsL a)) ∧ e = .returned (.tuple #[.slice none 0 0, .int .i64 5]))) := by
  have hal : a.length = n := by have := hr.1; simpa using this
  have hfl : f.length = n2 := by have := hr2.1; simpa using this
  have h0 := (checkE_ok.1 hE).1
  have hn : n ≤ 256 := by have := (parse_ok h0).1; omega
  have H := Lib.hid (fun w hr hr2 => reach_ok A n c a A2 n2 c2 f w hr hnc ha hr2 hn2 hx2 hE)
  have HAt := Lib.hid (fun x i s w hr hix his => at_ok A n c a x i s w hr hnc ha hE hix his)
  have HIx := Lib.hid (fun x s (h : spotAt (spotsL a) x = some s) => spotAt_ix h0 h)
  have HSl : Hid (∀ out i, Search a (spotsL a) f out i → out.length ≤ 256) := fun out i h => h.len h0
  have HLB := Lib.hid (fun x => linksAt_begs hE x)
  have HMEM := Lib.hid (parse_mem (parse_ok h0).2)
  have HBB := Lib.hid (begsL_bounds h0)
  have HLk := Lib.hid (fun (s : Spot) (hs : s ∈ spotsL a) => links_begs hE hs)
  generalize spotsL a = S at *
  have HFL := Lib.hid hfl
  have HAL := Lib.hid hal
  clear hE h0 hfl hal ha hx2
  go_enter Try.func49, Try.ntmps49
  go_wp2_with fail
  refine (H.out _ hr hr2).mono ?_
  rintro e w1 ⟨hb1, ⟨L0, A0, c0, hL0, rfl, -⟩ | ⟨hex, rfl⟩⟩
  · have HALL : Hid (∀ x ∈ f, x ∈ begsL S) := fun x hx => hL0.begs x (hL0.roots x hx)
    clear hL0
    have hC0 : ComeSt w1 [] (w1.alloc (.cells #[.slice none 0 0] 24)) := ⟨none, 0, Blk.new w1 24 #[.slice none 0 0], World.ownsRow_nil _ _ _ _, below_new _ _⟩
    have HC0 := Lib.hid hC0
    have hcf := fun (x : Value) (w : World) => (plain_of (fn := Try.f71) Try.func71 (by kernel_rfl) (by kernel_rfl)) #[x, .pointer (some ⟨w1.heap.size, 0, none⟩)] w
    clear hC0
    go_wp2
    go_loopw [29] (fun i wr => ∃ (j : Nat) (out : List Int), j ≤ n2 ∧ i = .int .i64 j ∧ Hid (ComeSt w1 out wr) ∧ Hid (Search a S f out 0 ∧ (∀ x ∈ f.take j, x ∈ out) ∧ Named a S f out ∧ out = (f.take j).foldl addL [])) (fun i _ => n2 - (intOf i).toNat)
    case atStart => exact ⟨0, [], Nat.zero_le _, rfl, HC0, ⟨Search.nil a S f, by intro x hx; simp at hx, by intro i x hx; simp at hx, by simp⟩⟩
    case round =>
      obtain ⟨j, out, hj, rfl, HA, HS⟩ := hrel
      have hbr : Below w1.heap.size w1 wr := by obtain ⟨_, _, _, _, h⟩ := HA.out; exact h
      by_cases hlt : j < n2
      · obtain ⟨ad, x, rfl, had, hx, cx⟩ := ((hr2.below hb1).below (hbr.mono hb1.size)).num hlt
        have hxf := List.mem_of_getElem? hx
        have hS2 : Search a S f (addL out x) 0 := HS.out.1.add (Nat.zero_le _) (HALL.out x hxf) (fun X hX hc => hX x hxf)
        have HS2 : Hid (Search a S f (addL out x) 0 ∧ (∀ y ∈ f.take (j + 1), y ∈ addL out x) ∧ Named a S f (addL out x) ∧ addL out x = (f.take (j + 1)).foldl addL []) := by
          obtain ⟨q1, q2⟩ := List.getElem?_eq_some_iff.1 hx
          refine ⟨hS2, fun y hy => ?_, HS.out.2.2.1.add (.inl hxf), by rw [List.take_succ_eq_append_getElem q1, List.foldl_append, ← HS.out.2.2.2, q2]; rfl⟩
          rw [List.take_succ_eq_append_getElem q1, List.mem_append] at hy
          have hs := addL_sub out x
          rcases hy with hy | hy
          · exact hs.1 y (HS.out.2.1 y hy)
          · simp only [List.mem_cons, List.not_mem_nil, or_false] at hy
            rw [hy, q2]; exact hs.2
        have HAd := Lib.hid (come_any w1 out x wr HA.out (by have := HSl.out _ _ HS.out.1; omega))
        have hj1 : j + 1 ≤ n2 := hlt
        clear hx hxf hS2 HS hbr
        go_wp2_with fail
        refine HAd.out.mono ?_
        rintro e w3 ⟨rfl, hA3⟩
        have HA3 := Lib.hid hA3
        go_wp2
        go_roundw
        case rel => exact ⟨j + 1, _, hj1, by go_num, HA3, HS2⟩
        case measure => simp [intOf]; omega
      · have HS0 : Hid (Search a S f out 0 ∧ (∀ x ∈ f, x ∈ out) ∧ Named a S f out ∧ out = bfsL a S f 0) := by
          have := HS.out
          rw [List.take_of_length_le (by rw [HFL.out]; omega)] at this
          exact this
        have g0 : decide (j < n2) = false := decide_eq_false hlt
        obtain ⟨wo, hwo⟩ : ∃ x, x = wr := ⟨wr, rfl⟩
        subst hwo
        clear HS hbr
        go_wp2
        go_loopw [12] (fun i wr => ∃ (j : Nat) (out : List Int), j ≤ out.length ∧ i = .int .i64 j ∧ Hid (ComeSt w1 out wr) ∧ Hid (Search a S f out j ∧ (∀ x ∈ f, x ∈ out) ∧ Named a S f out ∧ out = bfsL a S f j)) (fun i _ => 256 - (intOf i).toNat)
        case atStart => exact ⟨0, out, Nat.zero_le _, rfl, HA, HS0⟩
        case round =>
          obtain ⟨j, out, hj, rfl, HA, HS⟩ := hrel
          obtain ⟨Ao, co, e2, e4, e5⟩ := HA.out
          have hlen := HSl.out _ _ HS.out.1
          obtain ⟨k, hk⟩ : ∃ k, k = out.length := ⟨_, rfl⟩
          have d0 := e2.cell 0
          simp only [List.getElem?_toArray, List.getElem?_cons_zero] at d0
          rw [← hk] at d0 e2 e4 hlen hj
          have HK := Lib.hid hk
          by_cases hlt : j < k
          · obtain ⟨ad, x, rfl, had, hx, cx⟩ := (Reads.of_own e4).num hlt
            have hxb := HS.out.1.begs x (List.mem_of_getElem? hx)
            obtain ⟨s, hs⟩ := begsL_iff.1 hxb
            obtain ⟨hsS, -, hsl⟩ := spotAt_some hs
            have hlk : linksAt a S x = linksL a s := by unfold linksAt; rw [hs]
            have hok := (HMEM.out s hsS).1
            obtain ⟨ix, hix, his⟩ := HIx.out x s hs
            have hAds := HS.out.1.adds (by omega) hx (HLB.out x)
            rw [hlk] at hAds
            have HAds := Lib.hid hAds
            have hrw := (hr.below hb1).below (e5.mono hb1.size)
            have hsw : w.heap.size ≤ wr.heap.size := Nat.le_trans hb1.size e5.size
            have HAx := Lib.hid (HAt.out x ix s wr (hrw.more hsw) hix his)
            have HG : Hid (∀ (q : Nat) (v : Int), (refsOf a s)[q]? = some v → a[s.loc.toNat + 1 + q]? = some v) := by
              intro q v hv
              unfold refsOf at hv
              obtain ⟨q1, q2⟩ := List.getElem?_eq_some_iff.1 hv
              have : ((a.drop (s.loc.toNat + 1)).take s.r.toNat)[q]? = some v := hv
              rw [List.length_take] at q1
              rw [List.getElem?_take, if_pos (by omega), List.getElem?_drop] at this
              exact this
            have hrl := refsOf_length hok
            have l0 := hok.loc0
            have r0 := hok.r0
            have b0 := hok.b0
            have ft := hok.fits
            have hlk2 : ∀ v ∈ refsOf a s, v = 0 ∨ 1 ≤ v ∧ v ≤ 256 := fun v hv => by
              by_cases hv0 : v = 0
              · exact .inl hv0
              · have h1 : v - 1 ∈ linksL a s := List.mem_map.2 ⟨v, List.mem_filter.2 ⟨hv, by simpa using hv0⟩, rfl⟩
                have := HBB.out _ (HLk.out s hsS _ h1)
                exact .inr (by omega)
            have HL2 := Lib.hid hlk2
            have HLd : Hid (linksL a s = linksP (refsOf a s)) := rfl
            obtain ⟨t1, t2, t3, t4, t5⟩ := hAds (linksL a s) (fun y hy => hy)
            have HS2 : Hid (Search a S f ((linksL a s).foldl addL out) (j + 1) ∧ (∀ y ∈ f, y ∈ (linksL a s).foldl addL out) ∧ Named a S f ((linksL a s).foldl addL out) ∧ (linksL a s).foldl addL out = bfsL a S f (j + 1)) :=
              ⟨t1.next t5 (by rw [hlk]; exact t4), fun y hy => t3 y (HS.out.2.1 y hy), HS.out.2.2.1.adds (linksL a s) hx (fun y hy => by rw [hlk]; exact hy), by
                show _ = (match (bfsL a S f j)[j]? with | some x => (linksAt a S x).foldl addL (bfsL a S f j) | none => bfsL a S f j)
                rw [← HS.out.2.2.2, hx, ← hlk]⟩
            have HJ1 : Hid (j + 1 ≤ ((linksL a s).foldl addL out).length) := by show _ ≤ _; omega
            have HPre : Hid (∀ l : List Int, (∀ y ∈ l, y ∈ linksL a s) → (l.foldl addL out).length ≤ 256 ∧ (l.foldl addL out)[j]? = some x) := fun l hl => ⟨HSl.out _ _ (hAds l hl).1, (hAds l hl).2.2.2.2⟩
            rw [HLd.out] at HS2 HJ1 HPre
            clear hx hxb hs hlk hok hix his hAds t1 t2 t3 t4 t5 HS hsS hlk2 HAds
            generalize refsOf a s = rs at *
            obtain ⟨loc, r, bb, t, fr⟩ := s
            simp only [Spot.long] at ft l0 r0 b0 hsl HAx
            subst hsl
            obtain ⟨I, rfl⟩ := Int.eq_ofNat_of_zero_le l0
            obtain ⟨m, rfl⟩ := Int.eq_ofNat_of_zero_le r0
            simp only [Int.toNat_natCast] at hrl HG HAx
            rw [HAL.out] at ft
            have HRL := Lib.hid hrl
            obtain ⟨p1, hp1⟩ : ∃ p1, p1 = I + 1 := ⟨_, rfl⟩
            have w1' : IntKind.i64.wrap ((I : Int) + 1) = p1 := by rw [IntWalk.i64_in _ (by omega)]; omega
            have hp1n : p1 + m ≤ n := by omega
            have HP1 := Lib.hid hp1
            have HE2 := Lib.hid e2
            have HE4 := Lib.hid e4
            clear hrl hp1 e2 e4
            go_wp2_with fail
            refine HAx.out.mono ?_
            rintro e w5 ⟨hb5, A6, c6, A7, c7, rfl, -, -⟩
            have hA5 := (HA.out.below hb5).below (below_new w5 (.cells #[.int .i64 t, .slice A6 m c6, .slice A7 bb.toNat c7, .bool fr] 104))
            have k1 := (Blk.new w5 104 #[.int .i64 t, .slice A6 m c6, .slice A7 bb.toNat c7, .bool fr]).cell 1
            simp only [List.getElem?_toArray, List.getElem?_cons_zero, List.getElem?_cons_succ] at k1
            have HA5 := Lib.hid hA5
            clear hA5
            go_wp2
            clear k1
            go_loopw [15, 16, 55] (fun _ _ i wr => ∃ q : Nat, q ≤ m ∧ i = .int .i64 q ∧ Hid (ComeSt w1 ((linksP (rs.take q)).foldl addL out) wr)) (fun _ _ i _ => m - (intOf i).toNat)
            case atStart => exact ⟨0, Nat.zero_le _, rfl, HA5⟩
            case round =>
              obtain ⟨q, hq, rfl, HQ⟩ := hrel
              have hsub : ∀ y ∈ linksP (rs.take q), y ∈ linksP rs := by
                intro y hy
                obtain ⟨v, hv, rfl⟩ := List.mem_map.1 hy
                obtain ⟨v1, v2⟩ := List.mem_filter.1 hv
                exact List.mem_map.2 ⟨v, List.mem_filter.2 ⟨List.mem_of_mem_take v1, v2⟩, rfl⟩
              obtain ⟨o1, o2⟩ := HPre.out _ hsub
              obtain ⟨Aq, cq, f2, f4, f5⟩ := HQ.out
              have x0 := f2.cell 0
              simp only [List.getElem?_toArray, List.getElem?_cons_zero] at x0
              by_cases hltq : q < m
              · have hcome := fun y => come_any w1 ((linksP (rs.take q)).foldl addL out) y wr HQ.out (by omega)
                obtain ⟨O, hO⟩ : ∃ O, O = (linksP (rs.take q)).foldl addL out := ⟨_, rfl⟩
                have HOO := Lib.hid hO
                rw [← hO] at o1 o2 f2 f4 x0 hcome
                obtain ⟨ko, hko⟩ : ∃ ko, ko = O.length := ⟨_, rfl⟩
                rw [← hko] at o1 f2 f4 x0
                have hjo : j < ko := by rw [hko]; exact (List.getElem?_eq_some_iff.1 o2).1
                obtain ⟨ad9, y9, rfl, had9, hy9, cy9⟩ := (Reads.of_own f4).num hjo
                obtain rfl : ((I : Nat) : Int) = y9 := Option.some.inj (o2.symm.trans hy9)
                have hbw : Below w.heap.size w wr := below_step hb1 f5
                obtain ⟨pj, hpj⟩ : ∃ pj, pj = p1 + q := ⟨_, rfl⟩
                have hjr : q < rs.length := by rw [HRL.out]; exact hltq
                have hv : rs[q]? = some (rs[q]'hjr) := List.getElem?_eq_getElem hjr
                generalize rs[q]'hjr = v at hv
                have hav := HG.out q v hv
                rw [← HP1.out, ← hpj] at hav
                obtain ⟨ada, y, rfl, hada, hy, cy⟩ := (hr.below hbw).num (k := pj) (by omega)
                obtain rfl : v = y := Option.some.inj (hav.symm.trans hy)
                have hv2 := HL2.out v (List.mem_of_getElem? hv)
                have hpn : pj < n := by omega
                have w3 : IntKind.i64.wrap ((p1 : Int) + q) = pj := by rw [IntWalk.i64_in _ (by omega)]; omega
                have hq1 : q + 1 ≤ m := hltq
                by_cases h0 : v = 0
                · subst h0
                  have HQ2 : Hid (ComeSt w1 ((linksP (rs.take (q + 1))).foldl addL out) wr) := by
                    show ComeSt _ _ _
                    rw [linksP_zero hv]
                    exact HQ.out
                  clear hv hav hy hpj hv2 HQ hcome hO hko o1 o2 hy9 f2 f4
                  go_wp2
                  go_roundw
                  case rel => exact ⟨q + 1, hq1, by go_num, HQ2⟩
                  case measure => simp [intOf]; omega
                · obtain ⟨V, rfl⟩ : ∃ V : Nat, v = V := ⟨v.toNat, by omega⟩
                  obtain ⟨z, hz⟩ : ∃ z : Nat, V = z + 1 := ⟨V - 1, by omega⟩
                  have hst := linksP_succ hv h0
                  rw [show ((V : Int) - 1) = (z : Int) by omega] at hst
                  have HCm := Lib.hid (hcome z)
                  have HST := Lib.hid hst
                  have z1 : ((V : Int) != 0) = true := by simp; omega
                  have z2 : (V != 0) = true := by simp; omega
                  have z3 : ¬ V = 0 := by omega
                  have w4 : IntKind.i64.wrap (V : Int) = V := IntWalk.i64_in _ (by omega)
                  have w5' : (V : Int) - 1 = z := by omega
                  have w6 : IntKind.i64.wrap (z : Int) = z := IntWalk.i64_in _ (by omega)
                  clear hv hav hy hpj hz hv2 HQ hcome hO hko o1 o2 hy9 f2 f4 hst
                  go_wp2_with fail
                  refine HCm.out.mono ?_
                  rintro e w9 ⟨rfl, hA9⟩
                  have HA9 : Hid (ComeSt w1 ((linksP (rs.take (q + 1))).foldl addL out) w9) := by
                    show ComeSt _ _ _
                    rw [HST.out, List.foldl_append, ← HOO.out]
                    exact hA9
                  clear hA9
                  go_wp2
                  go_roundw
                  case rel => exact ⟨q + 1, hq1, by go_num, HA9⟩
                  case measure => simp [intOf]; omega
              · have hqm : q = m := by omega
                have HQ2 : Hid (ComeSt w1 ((linksP rs).foldl addL out) wr) := by
                  have := HQ.out
                  rw [hqm, List.take_of_length_le (by rw [HRL.out]; exact Nat.le_refl _)] at this
                  exact this
                have g2 : decide (q < m) = false := decide_eq_false hltq
                clear hqm HQ hsub o1 o2 f2 f4 x0
                go_wp2
                go_roundw
                case rel => exact ⟨j + 1, _, HJ1.out, by go_num, HQ2, HS2⟩
                case measure => simp [intOf]; omega
          · have hjk : j = k := by omega
            have HRe : Hid (Ordered a S f out) := by
              have h1 := HS.out
              rw [hjk, hk] at h1
              exact ⟨h1.1, h1.2.1, h1.2.2.1, h1.2.2.2⟩
            have g2 : decide (j < k) = false := decide_eq_false hlt
            have HB5 := Lib.hid e5
            have HO5 := Lib.hid (own_mono (base := w.heap.size) e4 (by have := hb1.size; omega))
            clear hjk HS HA hk e5 e4 e2
            go_wp2
            go_ret2
            refine ⟨below_step hb1 HB5.out, .inl ⟨out, Ao, co, HRe.out, ?_, ?_⟩⟩
            · rw [← HK.out]; rfl
            · rw [← HK.out]; exact HO5.out
  · have HEX := Lib.hid hex
    clear hex
    go_wp2
    go_ret2
    exact ⟨hb1, .inr ⟨HEX.out, rfl⟩⟩
end Go.Proofs.Ytbmkbnalembbjaa

namespace Go.Proofs.Ytbmkbnalembbjaa
open Go.RowKit
def ComeStT (w0 : World) (out : List Int) (w : World) : Prop :=
  ∃ Ao co, Blk w w0.heap.size 24 #[.slice Ao out.length co] ∧ OwnT w (w0.heap.size + 1) 3 1 isN (.slice Ao out.length co) out.length (out.map (.int .i64)) ∧ Below w0.heap.size w0 w
theorem ComeStT.below {w0 w w' : World} {out : List Int} (h : ComeStT w0 out w) (hb : Below w.heap.size w w') : ComeStT w0 out w' := by
  obtain ⟨Ao, co, h1, h2, h3⟩ := h
  exact ⟨Ao, co, h1.below hb h1.lt, own_belowT h2 hb, h3.trans (hb.mono h3.size)⟩
set_option maxRecDepth 100000 in
set_option maxHeartbeats 1000000 in
theorem comeT_any (w0 : World) (out : List Int) (x : Int) (w : World) (h : ComeStT w0 out w) (hl : out.length ≤ 100000) :
    Calls Try.prog 71 #[.int .i64 x, .pointer (some ⟨w0.heap.size, 0, none⟩)] w fun e w' => e = .returned (.tuple #[]) ∧ ComeStT w0 (addL out x) w' := by
  obtain ⟨Ao, co, h2, h4, h5⟩ := h
  have d0 := h2.cell 0
  simp only [List.getElem?_toArray, List.getElem?_cons_zero] at d0
  by_cases hm : x ∈ out
  · have e2 : addL out x = out := by unfold addL; rw [if_pos hm]
    rw [e2]
    have HC := Lib.hid (contains_int Ao out.length co _ out x true w (reads_ofT h4) (by omega) (decide_eq_true hm))
    have HS : Hid (ComeStT w0 out w) := ⟨Ao, co, h2, h4, h5⟩
    clear e2 hm h2 h4 h5
    go_enter Try.func71, Try.ntmps71
    go_wp2_with fail
    refine HC.out.mono ?_
    rintro e w' ⟨rfl, rfl⟩
    go_wp2
    go_end0
    exact ⟨rfl, HS.out⟩
  · have e2 : addL out x = out ++ [x] := by unfold addL; rw [if_neg hm]
    rw [e2]
    have HC := Lib.hid (contains_int Ao out.length co _ out x false w (reads_ofT h4) (by omega) (decide_eq_false hm))
    have hwl := h2.lt
    have hD2 := h2.alloc (.cells #[.int .i64 x] 3)
    have hO2 := h4.alloc (.cells #[.int .i64 x] 3)
    have hb2 := h5.alloc h5.size (.cells #[.int .i64 x] 3)
    obtain ⟨i0, hi, hz0, hz1, hz2⟩ := info_parts info_int
    obtain ⟨k, hk⟩ : ∃ k, k = out.length := ⟨_, rfl⟩
    rw [← hk] at hO2 hD2 d0 hl HC
    have HK := Lib.hid hk
    have HD2 := Lib.hid hD2
    clear e2 hm h2 h4 h5 hD2 hk
    go_enter Try.func71, Try.ntmps71
    go_wp2_with fail
    refine HC.out.mono ?_
    rintro e w' ⟨rfl, rfl⟩
    go_wp2_with (at_builtin; refine wpList_append_T _ rfl (.tmp 7) (.tmp 9) 24 rfl (w0.heap.size + 1) 3 i0 (.int .i64 0) 1 8 Try.underlying24 hi hz0 hz1 hz2 rfl (by decide) isN_zero (.slice Ao k co) k _ rfl hO2 (w.heap.size + 1) (some ⟨w.heap.size, 0, none⟩) 1 1 [.int .i64 x] rfl (reads_new w [.int .i64 x] 3 1 1 rfl) (by simp [Value.oneCell']) (isN_one _) (by unfold maxLen; omega) (by omega) (by simp; omega) ?_; rintro v' w3 hown3 hgr - -; obtain ⟨A5, c5, rfl⟩ := own_sliceT hown3; have hD3 := HD2.out.grown hgr (fun h => by have := (hO2.lt _ h.symm).1; omega); have p0 := hD3.cell 0; have pf := hD3.frozen 0; simp only [List.getElem?_toArray, List.getElem?_cons_zero] at p0)
    go_end0
    have hb3 := hb2.grown hgr hb2.size (fun g hg => by have := (hO2.lt g hg).1; omega)
    have hD4 : Blk (w3.setCell ⟨w0.heap.size, 0, none⟩ (.slice A5 (k + 1) c5)) w0.heap.size 24 #[.slice A5 (k + 1) c5] := by simpa using hD3.set_ 0 (.slice A5 (k + 1) c5)
    refine ⟨rfl, A5, c5, ?_, ?_, hb3.setCell (p := ⟨w0.heap.size, 0, none⟩) (by dsimp only; omega) _⟩
    · rw [List.length_append, List.length_singleton, ← HK.out]
      exact hD4
    · rw [List.length_append, List.length_singleton, ← HK.out, List.map_append]
      exact own_apartT hown3 (fun hg => by have := (hown3.lt _ hg).1; dsimp only at this; omega) _
set_option maxRecDepth 100000 in
set_option maxHeartbeats 2000000 in
theorem orderT_ok (A : Option Addr) (n c : Nat) (a : List Int) (A2 : Option Addr) (n2 c2 : Nat) (f : List Int) (w : World) (hr : Reads w w.heap.size 1 A n (a.map (.int .u64))) (hnc : n ≤ c) (ha : ∀ x ∈ a, (Lit.int .u64 x).wf = true)
    (hr2 : Reads w w.heap.size 1 A2 n2 (f.map (.int .i64))) (hn2 : n2 ≤ 1000000000000000000) (hx2 : ∀ x ∈ f, (Lit.int .i64 x).wf = true) (hE : checkE a = 0) :
    Calls Try.prog 49 #[.slice A n c, .slice A2 n2 c2] w fun e w' => Below w.heap.size w w' ∧
      ((∃ L A' c', Ordered a (spotsL a) f L ∧ e = .returned (.tuple #[.slice A' L.length c', .int .i64 0]) ∧ OwnT w' w.heap.size 3 1 isN (.slice A' L.length c') L.length (L.map (.int .i64))) ∨
       ((∃ x ∈ f, x ∉ begsL (spotsL a)) ∧ e = .returned (.tuple #[.slice none 0 0, .int .i64 5]))) := by
  have hal : a.length = n := by have := hr.1; simpa using this
  have hfl : f.length = n2 := by have := hr2.1; simpa using this
  have h0 := (checkE_ok.1 hE).1
  have hn : n ≤ 256 := by have := (parse_ok h0).1; omega
  have H := Lib.hid (fun w hr hr2 => reach_ok A n c a A2 n2 c2 f w hr hnc ha hr2 hn2 hx2 hE)
  have HAt := Lib.hid (fun x i s w hr hix his => at_ok A n c a x i s w hr hnc ha hE hix his)
  have HIx := Lib.hid (fun x s (h : spotAt (spotsL a) x = some s) => spotAt_ix h0 h)
  have HSl : Hid (∀ out i, Search a (spotsL a) f out i → out.length ≤ 256) := fun out i h => h.len h0
  have HLB := Lib.hid (fun x => linksAt_begs hE x)
  have HMEM := Lib.hid (parse_mem (parse_ok h0).2)
  have HBB := Lib.hid (begsL_bounds h0)
  have HLk := Lib.hid (fun (s : Spot) (hs : s ∈ spotsL a) => links_begs hE hs)
  generalize spotsL a = S at *
  have HFL := Lib.hid hfl
  have HAL := Lib.hid hal
  clear hE h0 hfl hal ha hx2
  go_enter Try.func49, Try.ntmps49
  go_wp2_with fail
  refine (H.out _ hr hr2).mono ?_
  rintro e w1 ⟨hb1, ⟨L0, A0, c0, hL0, rfl, -⟩ | ⟨hex, rfl⟩⟩
  · have HALL : Hid (∀ x ∈ f, x ∈ begsL S) := fun x hx => hL0.begs x (hL0.roots x hx)
    clear hL0
    have hC0 : ComeStT w1 [] (w1.alloc (.cells #[.slice none 0 0] 24)) := ⟨none, 0, Blk.new w1 24 #[.slice none 0 0], OwnT.nil _ _ _ _ _, below_new _ _⟩
    have HC0 := Lib.hid hC0
    have hcf := fun (x : Value) (w : World) => (plain_of (fn := Try.f71) Try.func71 (by kernel_rfl) (by kernel_rfl)) #[x, .pointer (some ⟨w1.heap.size, 0, none⟩)] w
    clear hC0
    go_wp2
    go_loopw [29] (fun i wr => ∃ (j : Nat) (out : List Int), j ≤ n2 ∧ i = .int .i64 j ∧ Hid (ComeStT w1 out wr) ∧ Hid (Search a S f out 0 ∧ (∀ x ∈ f.take j, x ∈ out) ∧ Named a S f out ∧ out = (f.take j).foldl addL [])) (fun i _ => n2 - (intOf i).toNat)
    case atStart => exact ⟨0, [], Nat.zero_le _, rfl, HC0, ⟨Search.nil a S f, by intro x hx; simp at hx, by intro i x hx; simp at hx, by simp⟩⟩
    case round =>
      obtain ⟨j, out, hj, rfl, HA, HS⟩ := hrel
      have hbr : Below w1.heap.size w1 wr := by obtain ⟨_, _, _, _, h⟩ := HA.out; exact h
      by_cases hlt : j < n2
      · obtain ⟨ad, x, rfl, had, hx, cx⟩ := ((hr2.below hb1).below (hbr.mono hb1.size)).num hlt
        have hxf := List.mem_of_getElem? hx
        have hS2 : Search a S f (addL out x) 0 := HS.out.1.add (Nat.zero_le _) (HALL.out x hxf) (fun X hX hc => hX x hxf)
        have HS2 : Hid (Search a S f (addL out x) 0 ∧ (∀ y ∈ f.take (j + 1), y ∈ addL out x) ∧ Named a S f (addL out x) ∧ addL out x = (f.take (j + 1)).foldl addL []) := by
          obtain ⟨q1, q2⟩ := List.getElem?_eq_some_iff.1 hx
          refine ⟨hS2, fun y hy => ?_, HS.out.2.2.1.add (.inl hxf), by rw [List.take_succ_eq_append_getElem q1, List.foldl_append, ← HS.out.2.2.2, q2]; rfl⟩
          rw [List.take_succ_eq_append_getElem q1, List.mem_append] at hy
          have hs := addL_sub out x
          rcases hy with hy | hy
          · exact hs.1 y (HS.out.2.1 y hy)
          · simp only [List.mem_cons, List.not_mem_nil, or_false] at hy
            rw [hy, q2]; exact hs.2
        have HAd := Lib.hid (comeT_any w1 out x wr HA.out (by have := HSl.out _ _ HS.out.1; omega))
        have hj1 : j + 1 ≤ n2 := hlt
        clear hx hxf hS2 HS hbr
        go_wp2_with fail
        refine HAd.out.mono ?_
        rintro e w3 ⟨rfl, hA3⟩
        have HA3 := Lib.hid hA3
        go_wp2
        go_roundw
        case rel => exact ⟨j + 1, _, hj1, by go_num, HA3, HS2⟩
        case measure => simp [intOf]; omega
      · have HS0 : Hid (Search a S f out 0 ∧ (∀ x ∈ f, x ∈ out) ∧ Named a S f out ∧ out = bfsL a S f 0) := by
          have := HS.out
          rw [List.take_of_length_le (by rw [HFL.out]; omega)] at this
          exact this
        have g0 : decide (j < n2) = false := decide_eq_false hlt
        obtain ⟨wo, hwo⟩ : ∃ x, x = wr := ⟨wr, rfl⟩
        subst hwo
        clear HS hbr
        go_wp2
        go_loopw [12] (fun i wr => ∃ (j : Nat) (out : List Int), j ≤ out.length ∧ i = .int .i64 j ∧ Hid (ComeStT w1 out wr) ∧ Hid (Search a S f out j ∧ (∀ x ∈ f, x ∈ out) ∧ Named a S f out ∧ out = bfsL a S f j)) (fun i _ => 256 - (intOf i).toNat)
        case atStart => exact ⟨0, out, Nat.zero_le _, rfl, HA, HS0⟩
        case round =>
          obtain ⟨j, out, hj, rfl, HA, HS⟩ := hrel
          obtain ⟨Ao, co, e2, e4, e5⟩ := HA.out
          have hlen := HSl.out _ _ HS.out.1
          obtain ⟨k, hk⟩ : ∃ k, k = out.length := ⟨_, rfl⟩
          have d0 := e2.cell 0
          simp only [List.getElem?_toArray, List.getElem?_cons_zero] at d0
          rw [← hk] at d0 e2 e4 hlen hj
          have HK := Lib.hid hk
          by_cases hlt : j < k
          · obtain ⟨ad, x, rfl, had, hx, cx⟩ := (reads_ofT e4).num hlt
            have hxb := HS.out.1.begs x (List.mem_of_getElem? hx)
            obtain ⟨s, hs⟩ := begsL_iff.1 hxb
            obtain ⟨hsS, -, hsl⟩ := spotAt_some hs
            have hlk : linksAt a S x = linksL a s := by unfold linksAt; rw [hs]
            have hok := (HMEM.out s hsS).1
            obtain ⟨ix, hix, his⟩ := HIx.out x s hs
            have hAds := HS.out.1.adds (by omega) hx (HLB.out x)
            rw [hlk] at hAds
            have HAds := Lib.hid hAds
            have hrw := (hr.below hb1).below (e5.mono hb1.size)
            have hsw : w.heap.size ≤ wr.heap.size := Nat.le_trans hb1.size e5.size
            have HAx := Lib.hid (HAt.out x ix s wr (hrw.more hsw) hix his)
            have HG : Hid (∀ (q : Nat) (v : Int), (refsOf a s)[q]? = some v → a[s.loc.toNat + 1 + q]? = some v) := by
              intro q v hv
              unfold refsOf at hv
              obtain ⟨q1, q2⟩ := List.getElem?_eq_some_iff.1 hv
              have : ((a.drop (s.loc.toNat + 1)).take s.r.toNat)[q]? = some v := hv
              rw [List.length_take] at q1
              rw [List.getElem?_take, if_pos (by omega), List.getElem?_drop] at this
              exact this
            have hrl := refsOf_length hok
            have l0 := hok.loc0
            have r0 := hok.r0
            have b0 := hok.b0
            have ft := hok.fits
            have hlk2 : ∀ v ∈ refsOf a s, v = 0 ∨ 1 ≤ v ∧ v ≤ 256 := fun v hv => by
              by_cases hv0 : v = 0
              · exact .inl hv0
              · have h1 : v - 1 ∈ linksL a s := List.mem_map.2 ⟨v, List.mem_filter.2 ⟨hv, by simpa using hv0⟩, rfl⟩
                have := HBB.out _ (HLk.out s hsS _ h1)
                exact .inr (by omega)
            have HL2 := Lib.hid hlk2
            have HLd : Hid (linksL a s = linksP (refsOf a s)) := rfl
            obtain ⟨t1, t2, t3, t4, t5⟩ := hAds (linksL a s) (fun y hy => hy)
            have HS2 : Hid (Search a S f ((linksL a s).foldl addL out) (j + 1) ∧ (∀ y ∈ f, y ∈ (linksL a s).foldl addL out) ∧ Named a S f ((linksL a s).foldl addL out) ∧ (linksL a s).foldl addL out = bfsL a S f (j + 1)) :=
              ⟨t1.next t5 (by rw [hlk]; exact t4), fun y hy => t3 y (HS.out.2.1 y hy), HS.out.2.2.1.adds (linksL a s) hx (fun y hy => by rw [hlk]; exact hy), by
                show _ = (match (bfsL a S f j)[j]? with | some x => (linksAt a S x).foldl addL (bfsL a S f j) | none => bfsL a S f j)
                rw [← HS.out.2.2.2, hx, ← hlk]⟩
            have HJ1 : Hid (j + 1 ≤ ((linksL a s).foldl addL out).length) := by show _ ≤ _; omega
            have HPre : Hid (∀ l : List Int, (∀ y ∈ l, y ∈ linksL a s) → (l.foldl addL out).length ≤ 256 ∧ (l.foldl addL out)[j]? = some x) := fun l hl => ⟨HSl.out _ _ (hAds l hl).1, (hAds l hl).2.2.2.2⟩
            rw [HLd.out] at HS2 HJ1 HPre
            clear hx hxb hs hlk hok hix his hAds t1 t2 t3 t4 t5 HS hsS hlk2 HAds
            generalize refsOf a s = rs at *
            obtain ⟨loc, r, bb, t, fr⟩ := s
            simp only [Spot.long] at ft l0 r0 b0 hsl HAx
            subst hsl
            obtain ⟨I, rfl⟩ := Int.eq_ofNat_of_zero_le l0
            obtain ⟨m, rfl⟩ := Int.eq_ofNat_of_zero_le r0
            simp only [Int.toNat_natCast] at hrl HG HAx
            rw [HAL.out] at ft
            have HRL := Lib.hid hrl
            obtain ⟨p1, hp1⟩ : ∃ p1, p1 = I + 1 := ⟨_, rfl⟩
            have w1' : IntKind.i64.wrap ((I : Int) + 1) = p1 := by rw [IntWalk.i64_in _ (by omega)]; omega
            have hp1n : p1 + m ≤ n := by omega
            have HP1 := Lib.hid hp1
            have HE2 := Lib.hid e2
            have HE4 := Lib.hid e4
            clear hrl hp1 e2 e4
            go_wp2_with fail
            refine HAx.out.mono ?_
            rintro e w5 ⟨hb5, A6, c6, A7, c7, rfl, -, -⟩
            have hA5 := (HA.out.below hb5).below (below_new w5 (.cells #[.int .i64 t, .slice A6 m c6, .slice A7 bb.toNat c7, .bool fr] 104))
            have k1 := (Blk.new w5 104 #[.int .i64 t, .slice A6 m c6, .slice A7 bb.toNat c7, .bool fr]).cell 1
            simp only [List.getElem?_toArray, List.getElem?_cons_zero, List.getElem?_cons_succ] at k1
            have HA5 := Lib.hid hA5
            clear hA5
            go_wp2
            clear k1
            go_loopw [15, 16, 55] (fun _ _ i wr => ∃ q : Nat, q ≤ m ∧ i = .int .i64 q ∧ Hid (ComeStT w1 ((linksP (rs.take q)).foldl addL out) wr)) (fun _ _ i _ => m - (intOf i).toNat)
            case atStart => exact ⟨0, Nat.zero_le _, rfl, HA5⟩
            case round =>
              obtain ⟨q, hq, rfl, HQ⟩ := hrel
              have hsub : ∀ y ∈ linksP (rs.take q), y ∈ linksP rs := by
                intro y hy
                obtain ⟨v, hv, rfl⟩ := List.mem_map.1 hy
                obtain ⟨v1, v2⟩ := List.mem_filter.1 hv
                exact List.mem_map.2 ⟨v, List.mem_filter.2 ⟨List.mem_of_mem_take v1, v2⟩, rfl⟩
              obtain ⟨o1, o2⟩ := HPre.out _ hsub
              obtain ⟨Aq, cq, f2, f4, f5⟩ := HQ.out
              have x0 := f2.cell 0
              simp only [List.getElem?_toArray, List.getElem?_cons_zero] at x0
              by_cases hltq : q < m
              · have hcome := fun y => comeT_any w1 ((linksP (rs.take q)).foldl addL out) y wr HQ.out (by omega)
                obtain ⟨O, hO⟩ : ∃ O, O = (linksP (rs.take q)).foldl addL out := ⟨_, rfl⟩
                have HOO := Lib.hid hO
                rw [← hO] at o1 o2 f2 f4 x0 hcome
                obtain ⟨ko, hko⟩ : ∃ ko, ko = O.length := ⟨_, rfl⟩
                rw [← hko] at o1 f2 f4 x0
                have hjo : j < ko := by rw [hko]; exact (List.getElem?_eq_some_iff.1 o2).1
                obtain ⟨ad9, y9, rfl, had9, hy9, cy9⟩ := (reads_ofT f4).num hjo
                obtain rfl : ((I : Nat) : Int) = y9 := Option.some.inj (o2.symm.trans hy9)
                have hbw : Below w.heap.size w wr := below_step hb1 f5
                obtain ⟨pj, hpj⟩ : ∃ pj, pj = p1 + q := ⟨_, rfl⟩
                have hjr : q < rs.length := by rw [HRL.out]; exact hltq
                have hv : rs[q]? = some (rs[q]'hjr) := List.getElem?_eq_getElem hjr
                generalize rs[q]'hjr = v at hv
                have hav := HG.out q v hv
                rw [← HP1.out, ← hpj] at hav
                obtain ⟨ada, y, rfl, hada, hy, cy⟩ := (hr.below hbw).num (k := pj) (by omega)
                obtain rfl : v = y := Option.some.inj (hav.symm.trans hy)
                have hv2 := HL2.out v (List.mem_of_getElem? hv)
                have hpn : pj < n := by omega
                have w3 : IntKind.i64.wrap ((p1 : Int) + q) = pj := by rw [IntWalk.i64_in _ (by omega)]; omega
                have hq1 : q + 1 ≤ m := hltq
                by_cases h0 : v = 0
                · subst h0
                  have HQ2 : Hid (ComeStT w1 ((linksP (rs.take (q + 1))).foldl addL out) wr) := by
                    show ComeStT _ _ _
                    rw [linksP_zero hv]
                    exact HQ.out
                  clear hv hav hy hpj hv2 HQ hcome hO hko o1 o2 hy9 f2 f4
                  go_wp2
                  go_roundw
                  case rel => exact ⟨q + 1, hq1, by go_num, HQ2⟩
                  case measure => simp [intOf]; omega
                · obtain ⟨V, rfl⟩ : ∃ V : Nat, v = V := ⟨v.toNat, by omega⟩
                  obtain ⟨z, hz⟩ : ∃ z : Nat, V = z + 1 := ⟨V - 1, by omega⟩
                  have hst := linksP_succ hv h0
                  rw [show ((V : Int) - 1) = (z : Int) by omega] at hst
                  have HCm := Lib.hid (hcome z)
                  have HST := Lib.hid hst
                  have z1 : ((V : Int) != 0) = true := by simp; omega
                  have z2 : (V != 0) = true := by simp; omega
                  have z3 : ¬ V = 0 := by omega
                  have w4 : IntKind.i64.wrap (V : Int) = V := IntWalk.i64_in _ (by omega)
                  have w5' : (V : Int) - 1 = z := by omega
                  have w6 : IntKind.i64.wrap (z : Int) = z := IntWalk.i64_in _ (by omega)
                  clear hv hav hy hpj hz hv2 HQ hcome hO hko o1 o2 hy9 f2 f4 hst
                  go_wp2_with fail
                  refine HCm.out.mono ?_
                  rintro e w9 ⟨rfl, hA9⟩
                  have HA9 : Hid (ComeStT w1 ((linksP (rs.take (q + 1))).foldl addL out) w9) := by
                    show ComeStT _ _ _
                    rw [HST.out, List.foldl_append, ← HOO.out]
                    exact hA9
                  clear hA9
                  go_wp2
                  go_roundw
                  case rel => exact ⟨q + 1, hq1, by go_num, HA9⟩
                  case measure => simp [intOf]; omega
              · have hqm : q = m := by omega
                have HQ2 : Hid (ComeStT w1 ((linksP rs).foldl addL out) wr) := by
                  have := HQ.out
                  rw [hqm, List.take_of_length_le (by rw [HRL.out]; exact Nat.le_refl _)] at this
                  exact this
                have g2 : decide (q < m) = false := decide_eq_false hltq
                clear hqm HQ hsub o1 o2 f2 f4 x0
                go_wp2
                go_roundw
                case rel => exact ⟨j + 1, _, HJ1.out, by go_num, HQ2, HS2⟩
                case measure => simp [intOf]; omega
          · have hjk : j = k := by omega
            have HRe : Hid (Ordered a S f out) := by
              have h1 := HS.out
              rw [hjk, hk] at h1
              exact ⟨h1.1, h1.2.1, h1.2.2.1, h1.2.2.2⟩
            have g2 : decide (j < k) = false := decide_eq_false hlt
            have HB5 := Lib.hid e5
            have HO5 := Lib.hid (own_monoT (base := w.heap.size) e4 (by have := hb1.size; omega))
            clear hjk HS HA hk e5 e4 e2
            go_wp2
            go_ret2
            refine ⟨below_step hb1 HB5.out, .inl ⟨out, Ao, co, HRe.out, ?_, ?_⟩⟩
            · rw [← HK.out]; rfl
            · rw [← HK.out]; exact HO5.out
  · have HEX := Lib.hid hex
    clear hex
    go_wp2
    go_ret2
    exact ⟨hb1, .inr ⟨HEX.out, rfl⟩⟩
end Go.Proofs.Ytbmkbnalembbjaa

namespace Go.Proofs.Ytbmkbnalembbjaa
open Go.RowKit
theorem rdw_word (r b t : Int) (f : Bool) (h : headE r b t f = 0) : readOk (wordOf r b t f) ∧ rdR (wordOf r b t f) = r ∧ rdB (wordOf r b t f) = b ∧ rdT (wordOf r b t f) = t ∧ rdF (wordOf r b t f) = f ∧ 0 ≤ wordOf r b t f ∧ wordOf r b t f < 18446744073709551616 := by
  obtain ⟨h1, h2, h3, h4, h5, h6, h7, h8⟩ := headE_ok.1 h
  have hF : (if f then 281474976710656 else 0 : Int) = 0 ∧ f = false ∨ (if f then 281474976710656 else 0 : Int) = 281474976710656 ∧ f = true := by cases f <;> simp
  have e1 : rdR (wordOf r b t f) = r := by unfold rdR wordOf; rcases hF with ⟨h, _⟩ | ⟨h, _⟩ <;> rw [h] <;> omega
  have e2 : rdB (wordOf r b t f) = b := by unfold rdB wordOf; rcases hF with ⟨h, _⟩ | ⟨h, _⟩ <;> rw [h] <;> omega
  have e3 : rdT (wordOf r b t f) = t := by unfold rdT wordOf; rcases hF with ⟨h, _⟩ | ⟨h, _⟩ <;> rw [h] <;> omega
  have e4 : rdF (wordOf r b t f) = f := by
    unfold rdF wordOf
    rcases hF with ⟨h, h'⟩ | ⟨h, h'⟩
    · rw [h, h', decide_eq_false]; omega
    · rw [h, h', decide_eq_true]; omega
  have e5 : 0 ≤ wordOf r b t f ∧ wordOf r b t f < 562949953421312 := by unfold wordOf; rcases hF with ⟨h, _⟩ | ⟨h, _⟩ <;> rw [h] <;> omega
  refine ⟨⟨by omega, by rw [e1, e2, e3, e4]; exact h⟩, e1, e2, e3, e4, e5.1, by omega⟩
structure Chk where
  r : Int
  b : Int
  t : Int
  f : Bool
  pay : List Int
def Chk.ok (c : Chk) : Prop := headE c.r c.b c.t c.f = 0 ∧ (c.pay.length : Int) = c.r + c.b
def chkW (c : Chk) : List Int := wordOf c.r c.b c.t c.f :: c.pay
def chunksW (cs : List Chk) : List Int := cs.flatMap chkW
def Chk.spot (i : Nat) (c : Chk) : Spot := ⟨i, c.r, c.b, c.t, c.f⟩
def Chk.len (c : Chk) : Nat := 1 + c.pay.length
def spotsFrom : Nat → List Chk → List Spot
  | _, [] => []
  | i, c :: cs => c.spot i :: spotsFrom (i + c.len) cs
theorem chkW_length (c : Chk) : (chkW c).length = c.len := by simp [chkW, Chk.len]; omega
theorem chunksW_cons (c : Chk) (cs : List Chk) : chunksW (c :: cs) = chkW c ++ chunksW cs := rfl
theorem chunksW_append (cs ds : List Chk) : chunksW (cs ++ ds) = chunksW cs ++ chunksW ds := by simp [chunksW]
theorem Chk.long {c : Chk} (h : c.ok) (i : Nat) : (c.spot i).long = c.len := by
  have := h.2
  simp only [Spot.long, Chk.spot, Chk.len]
  omega
theorem chunks_parse : ∀ (cs : List Chk) (pre : List Int), (∀ c ∈ cs, c.ok) → Parse (pre ++ chunksW cs) pre.length (spotsFrom pre.length cs) := by
  intro cs
  induction cs with
  | nil => intro pre _; show _ = _; simp [chunksW]
  | cons c cs ih =>
    intro pre hok
    have hc := hok c List.mem_cons_self
    obtain ⟨w1, w2, w3, w4, w5, -⟩ := rdw_word c.r c.b c.t c.f hc.1
    have hg : (pre ++ chunksW (c :: cs)).getD pre.length 0 = wordOf c.r c.b c.t c.f := by
      rw [List.getD_eq_getElem?_getD, chunksW_cons, chkW, List.getElem?_append_right (Nat.le_refl _)]
      simp
    have hE := headE_ok.1 hc.1
    have hh : hlen (wordOf c.r c.b c.t c.f) = c.len := by
      have := hc.2
      unfold hlen Chk.len
      rw [w2, w3]
      omega
    have hL : (pre ++ chunksW (c :: cs)).length = pre.length + c.len + (chunksW cs).length := by rw [chunksW_cons, List.length_append, List.length_append, chkW_length]; omega
    have hpos : 1 ≤ c.len := by unfold Chk.len; omega
    refine ⟨by rw [hL]; omega, by rw [hg]; exact w1, ?_, by rw [hg, hh, hL]; omega, ?_⟩
    · rw [hg]
      simp only [spotOf, Chk.spot]
      rw [w2, w3, w4, w5]
    · rw [hg, hh]
      have := ih (pre ++ chkW c) (fun d hd => hok d (List.mem_cons_of_mem _ hd))
      rw [List.length_append, chkW_length, List.append_assoc] at this
      exact this
theorem chunks_spots {cs : List Chk} (hok : ∀ c ∈ cs, c.ok) (hl : (chunksW cs).length ≤ 256) : spotsE (chunksW cs) = 0 ∧ spotsL (chunksW cs) = spotsFrom 0 cs := by
  have h := spotsAt_parse _ _ _ (chunks_parse cs [] hok)
  simp only [List.nil_append, List.length_nil] at h
  have hn : ¬ 256 < (chunksW cs).length := by omega
  unfold spotsE spotsL
  rw [h, if_neg hn, if_neg hn]
  exact ⟨rfl, rfl⟩
def starts : Nat → List Chk → List Int
  | _, [] => []
  | i, c :: cs => (if c.f then [] else [(i : Int) + 1]) ++ starts (i + c.len) cs
theorem placeC_some {l : List Spot} {v : Int} : (placeF l v).isSome = true ↔ v = 0 ∨ ∃ s ∈ l, isPlace v s = true := by
  unfold placeF
  by_cases h : v = 0
  · simp [h]
  · rw [if_neg h, Option.isSome_map]
    rw [List.findIdx?_isSome]
    simp [h]
theorem starts_mem {v : Int} : ∀ (cs : List Chk) (i : Nat), (∃ s ∈ spotsFrom i cs, isPlace v s = true) ↔ v ∈ starts i cs := by
  intro cs
  induction cs with
  | nil => intro i; simp [spotsFrom, starts]
  | cons c cs ih =>
    intro i
    simp only [spotsFrom, starts, List.mem_cons, List.mem_append]
    rw [← ih (i + c.len)]
    constructor
    · rintro ⟨s, rfl | hs, hp⟩
      · left
        simp only [isPlace, Chk.spot, Bool.and_eq_true, Bool.not_eq_true', beq_iff_eq] at hp
        rw [hp.1, if_neg (by decide)]
        rw [List.mem_singleton, hp.2]
      · right; exact ⟨s, hs, hp⟩
    · rintro (h | ⟨s, hs, hp⟩)
      · refine ⟨_, .inl rfl, ?_⟩
        cases hf : c.f
        · rw [hf, if_neg (by decide), List.mem_singleton] at h
          simp [isPlace, Chk.spot, hf, h]
        · rw [hf, if_pos rfl] at h
          cases h
      · exact ⟨s, .inr hs, hp⟩
theorem refs_all (P : Int → Bool) : ∀ (cs : List Chk) (pre : List Int), (∀ c ∈ cs, c.ok) → ((spotsFrom pre.length cs).all (fun s => (refsOf (pre ++ chunksW cs) s).all P) = true ↔ ∀ c ∈ cs, ∀ v ∈ c.pay.take c.r.toNat, P v = true) := by
  intro cs
  induction cs with
  | nil => intro pre _; simp [spotsFrom]
  | cons c cs ih =>
    intro pre hok
    have hc := hok c List.mem_cons_self
    have hE := headE_ok.1 hc.1
    have hp := hc.2
    have h1 : refsOf (pre ++ chunksW (c :: cs)) (c.spot pre.length) = c.pay.take c.r.toNat := by
      simp only [refsOf, Chk.spot, Int.toNat_natCast]
      rw [chunksW_cons, chkW, List.drop_append, List.drop_of_length_le (by omega), List.nil_append, show pre.length + 1 - pre.length = 1 by omega, List.cons_append, List.drop_succ_cons, List.drop_zero, List.take_append_of_le_length (by omega)]
    have h2 := ih (pre ++ chkW c) (fun d hd => hok d (List.mem_cons_of_mem _ hd))
    rw [List.length_append, chkW_length, List.append_assoc, ← chunksW_cons] at h2
    simp only [spotsFrom, List.all_cons, Bool.and_eq_true, List.forall_mem_cons]
    rw [h1, h2, List.all_eq_true]
def refsC (cs : List Chk) : Prop := ∀ c ∈ cs, ∀ v ∈ c.pay.take c.r.toNat, v = 0 ∨ v ∈ starts 0 cs
theorem chunks_refs {cs : List Chk} (hok : ∀ c ∈ cs, c.ok) : refsOk (spotsFrom 0 cs) (chunksW cs) = true ↔ refsC cs := by
  have := refs_all (fun v => (placeF (spotsFrom 0 cs) v).isSome) cs [] hok
  simp only [List.length_nil, List.nil_append] at this
  unfold refsOk refsC
  rw [this]
  constructor
  · intro h c hc v hv
    have := placeC_some.1 (h c hc v hv)
    rwa [starts_mem] at this
  · intro h c hc v hv
    have := h c hc v hv
    rw [← starts_mem] at this
    exact placeC_some.2 this
theorem checkE_chunks {cs : List Chk} (hok : ∀ c ∈ cs, c.ok) (hl : (chunksW cs).length ≤ 256) : checkE (chunksW cs) = 0 ↔ refsC cs := by
  obtain ⟨h1, h2⟩ := chunks_spots hok hl
  rw [checkE_ok, h2, chunks_refs hok]
  exact ⟨fun h => h.2, fun h => ⟨h1, h⟩⟩
end Go.Proofs.Ytbmkbnalembbjaa

namespace Go.Proofs.Ytbmkbnalembbjaa
open Go.RowKit
structure Rn where
  loc : Int
  len : Int
deriving DecidableEq
def runC (r : Rn) : List Value := [.int .i64 r.loc, .int .i64 r.len]
def runsC (l : List Rn) : List Value := l.flatMap runC
theorem runsC_snoc (l : List Rn) (s : Rn) : runsC (l ++ [s]) = runsC l ++ runC s := by simp [runsC]
theorem Reads.run {w : World} {B : Nat} {A : Option Addr} {n j : Nat} {l : List Rn} (h : Reads w B 2 A n (runsC l)) (hj : j < n) :
    ∃ ad s, A = some ad ∧ ad.block < B ∧ l[j]? = some s ∧ w.cell? (ad.add (j * 2)) = some (.int .i64 s.loc) ∧
      w.cell? ⟨(ad.add (j * 2)).block, (ad.add (j * 2)).off + 1, none⟩ = some (.int .i64 s.len) := by
  obtain ⟨ad, s, e, hb, hs, c0, cs⟩ := Reads.elem (f := runC) (k := 2) (fun _ => rfl) h (by decide) hj
  exact ⟨ad, s, e, hb, hs, c0, cs 1 (by decide) (by decide)⟩
def badRun (r : Rn) : Bool := decide (r.loc < 0) || decide (r.len < 1)
def fitIx (n : Int) : Nat → List Rn → List Int
  | _, [] => []
  | i, r :: l => if n ≤ r.len then (i : Int) :: fitIx n (i + 1) l else fitIx n (i + 1) l
def fitsE (l : List Rn) (n : Int) : Int := if n < 1 then 1 else if l.any badRun = true then 4 else if fitIx n 0 l = [] then 7 else 0
def bump (acc : List Rn) (n : Int) : List Rn := acc.dropLast ++ (match acc.getLast? with | some r => [⟨r.loc, r.len + n⟩] | none => [])
def gapsA (acc : List Rn) (prev : Bool) : List Spot → List Rn
  | [] => acc
  | s :: l => if s.f = false then gapsA acc false l else if prev = true then gapsA (bump acc s.long) true l else gapsA (acc ++ [⟨s.loc, s.long⟩]) true l
def gapsL (l : List Spot) : List Rn := gapsA [] false l
theorem bump_snoc (acc : List Rn) (r : Rn) (n : Int) : bump (acc ++ [r]) n = acc ++ [⟨r.loc, r.len + n⟩] := by simp [bump]
end Go.Proofs.Ytbmkbnalembbjaa
