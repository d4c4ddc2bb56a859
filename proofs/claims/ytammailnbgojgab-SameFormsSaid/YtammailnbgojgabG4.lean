/-
  Texts joined: CarryOrd Objects.
-/
import Derived.Test.YtammailnbgojgabG3
/-
  package carry: Order.
-/
namespace Go.Proofs.Ytammailnbgojgab
open Go.RowKit

/-- Who is found later was named by one found earlier, or one begins with it. -/
def Named (a : List Int) (S : List Spot) (f out : List Int) : Prop := ∀ (i : Nat) (x : Int), out[i]? = some x → x ∈ f ∨ ∃ (j : Nat) (y : Int), j < i ∧ out[j]? = some y ∧ x ∈ linksAt a S y
theorem Named.add {a : List Int} {S : List Spot} {f out : List Int} {x : Int} (h : Named a S f out) (hx : x ∈ f ∨ ∃ (j : Nat) (y : Int), j < out.length ∧ out[j]? = some y ∧ x ∈ linksAt a S y) : Named a S f (addL out x) := by
  unfold addL
  split
  · exact h
  · intro i z hz
    by_cases hi : i < out.length
    · rw [List.getElem?_append_left hi] at hz
      rcases h i z hz with h1 | ⟨j, y, h1, h2, h3⟩
      · exact .inl h1
      · exact .inr ⟨j, y, h1, by rw [List.getElem?_append_left (by omega)]; exact h2, h3⟩
    · rw [List.getElem?_append_right (by omega)] at hz
      obtain ⟨q1, q2⟩ := List.getElem?_eq_some_iff.1 hz
      simp only [List.length_singleton] at q1
      have q3 : i - out.length = 0 := by omega
      simp only [q3, List.getElem_cons_zero] at q2
      subst q2
      rcases hx with h1 | ⟨j, y, h1, h2, h3⟩
      · exact .inl h1
      · exact .inr ⟨j, y, by omega, by rw [List.getElem?_append_left h1]; exact h2, h3⟩
theorem Named.adds {a : List Int} {S : List Spot} {f : List Int} {i : Nat} {x : Int} : ∀ {out : List Int} (l : List Int), Named a S f out → out[i]? = some x → (∀ y ∈ l, y ∈ linksAt a S x) → Named a S f (l.foldl addL out)
  | _, [], h, _, _ => h
  | out, y :: l, h, hx, hl => by
    have hi := (List.getElem?_eq_some_iff.1 hx).1
    have h1 := h.add (x := y) (.inr ⟨i, x, hi, hx, hl y List.mem_cons_self⟩)
    have hx1 : (addL out y)[i]? = some x := by
      unfold addL
      split
      · exact hx
      · rw [List.getElem?_append_left hi]; exact hx
    exact Named.adds l h1 hx1 (fun z hz => hl z (List.mem_cons_of_mem _ hz))

def ComeSt (w0 : World) (out : List Int) (w : World) : Prop :=
  ∃ Ao co, Blk w w0.heap.size 23 #[.slice Ao out.length co] ∧ w.ownsRow (w0.heap.size + 1) 3 1 (.slice Ao out.length co) out.length (out.map (.int .i64)) ∧ Below w0.heap.size w0 w
theorem ComeSt.below {w0 w w' : World} {out : List Int} (h : ComeSt w0 out w) (hb : Below w.heap.size w w') : ComeSt w0 out w' := by
  obtain ⟨Ao, co, h1, h2, h3⟩ := h
  exact ⟨Ao, co, h1.below hb h1.lt, own_below h2 hb, h3.trans (hb.mono h3.size)⟩

set_option maxRecDepth 100000 in
set_option maxHeartbeats 1000000 in
theorem come_any (w0 : World) (out : List Int) (x : Int) (w : World) (h : ComeSt w0 out w) (hl : out.length ≤ 100000) :
    Calls Try.prog 98 #[.int .i64 x, .pointer (some ⟨w0.heap.size, 0, none⟩)] w fun e w' => e = .returned (.tuple #[]) ∧ ComeSt w0 (addL out x) w' := by
  obtain ⟨Ao, co, h2, h4, h5⟩ := h
  have d0 := h2.cell 0
  simp only [List.getElem?_toArray, List.getElem?_cons_zero, List.getElem?_cons_succ] at d0
  by_cases hm : x ∈ out
  · have e2 : addL out x = out := by unfold addL; rw [if_pos hm]
    rw [e2]
    have HC := Lib.hid (contains_int Ao out.length co _ out x true w (Reads.of_own h4) (by omega) (decide_eq_true hm))
    have HS : Hid (ComeSt w0 out w) := ⟨Ao, co, h2, h4, h5⟩
    clear e2 hm h2 h4 h5
    go_enter Try.func98, Try.ntmps98
    go_wp2_with fail
    refine HC.out.mono ?_
    rintro e w' ⟨rfl, rfl⟩
    go_wp2
    go_end0
    exact ⟨rfl, HS.out⟩
  · have e2 : addL out x = out ++ [x] := by unfold addL; rw [if_neg hm]
    rw [e2]
    have HC := Lib.hid (contains_int Ao out.length co _ out x false w (Reads.of_own h4) (by omega) (decide_eq_false hm))
    have hwl := h2.lt
    have hD2 := h2.alloc (.cells #[.int .i64 x] 3)
    have hO2 := h4.alloc (.cells #[.int .i64 x] 3)
    have hb2 := h5.alloc h5.size (.cells #[.int .i64 x] 3)
    obtain ⟨i0, hi, hz0, hz1, hz2⟩ := info_parts info_int
    obtain ⟨k, hk⟩ : ∃ k, k = out.length := ⟨_, rfl⟩
    rw [← hk] at hO2 hD2 d0 hl HC
    have HK := Lib.hid hk
    have HD2 := Lib.hid hD2
    clear e2 hm h2 h4 h5 hD2 hk
    go_enter Try.func98, Try.ntmps98
    go_wp2_with fail
    refine HC.out.mono ?_
    rintro e w' ⟨rfl, rfl⟩
    go_wp2_with (at_builtin; refine wpList_append_any _ rfl (.tmp 7) (.tmp 9) 23 rfl (w0.heap.size + 1) 3 i0 (.int .i64 0) 1 8 Try.underlying23 hi hz0 hz1 hz2 rfl (by decide) (.slice Ao k co) k _ rfl hO2 (w.heap.size + 1) (some ⟨w.heap.size, 0, none⟩) 1 1 [.int .i64 x] rfl (reads_new w [.int .i64 x] 3 1 1 rfl) (by simp [Value.oneCell']) (by unfold maxLen; omega) (by omega) (by simp; omega) ?_; rintro v' w3 hown3 hgr - -; obtain ⟨A5, c5, rfl⟩ := own_slice hown3; have hD3 := HD2.out.grown hgr (fun h => by have := (hO2.lt _ h.symm).1; omega); have p0 := hD3.cell 0; have pf := hD3.frozen 0; simp only [List.getElem?_toArray, List.getElem?_cons_zero, List.getElem?_cons_succ] at p0)
    go_end0
    have hb3 := hb2.grown hgr hb2.size (fun g hg => by have := (hO2.lt g hg).1; omega)
    have hD4 : Blk (w3.setCell ⟨w0.heap.size, 0, none⟩ (.slice A5 (k + 1) c5)) w0.heap.size 23 #[.slice A5 (k + 1) c5] := by simpa using hD3.set_ 0 (.slice A5 (k + 1) c5)
    refine ⟨rfl, A5, c5, ?_, ?_, hb3.setCell (p := ⟨w0.heap.size, 0, none⟩) (by dsimp only; omega) _⟩
    · rw [List.length_append, List.length_singleton, ← HK.out]
      exact hD4
    · rw [List.length_append, List.length_singleton, ← HK.out, List.map_append]
      exact own_apart hown3 (fun hg => by have := (hown3.lt _ hg).1; dsimp only at this; omega) _

set_option maxHeartbeats 400000 in
theorem order_bad (A : Option Addr) (n c : Nat) (a : List Int) (A2 : Option Addr) (n2 c2 : Nat) (w : World) (hr : Reads w w.heap.size 1 A n (a.map (.int .u64))) (hnc : n ≤ c) (ha : ∀ x ∈ a, (Lit.int .u64 x).wf = true) (hE : checkE a ≠ 0) :
    Calls Try.prog 49 #[.slice A n c, .slice A2 n2 c2] w fun e w' => e = .returned (.tuple #[.slice none 0 0, .int .i64 (checkE a)]) ∧ Below w.heap.size w w' := by
  have H := Lib.hid (fun w hr => reach_bad A n c a A2 n2 c2 w hr hnc ha hE)
  have hE1 : (checkE a != 0) = true := by simpa using hE
  generalize checkE a = E at *
  clear hE
  go_enter Try.func49, Try.ntmps49
  go_wp2_with fail
  refine (H.out _ hr).mono ?_
  rintro e w1 ⟨rfl, hb1⟩
  go_wp2
  go_ret2
  exact ⟨rfl, hb1⟩

/-- The search by itself: all that one begins with, then what each names. -/
def bfsL (a : List Int) (S : List Spot) (f : List Int) : Nat → List Int
  | 0 => f.foldl addL []
  | i + 1 => match (bfsL a S f i)[i]? with | some x => (linksAt a S x).foldl addL (bfsL a S f i) | none => bfsL a S f i
theorem bfsL_still {a : List Int} {S : List Spot} {f : List Int} {n : Nat} (h : (bfsL a S f n).length ≤ n) : ∀ m, n ≤ m → bfsL a S f m = bfsL a S f n := by
  intro m hm
  induction m with
  | zero => have : n = 0 := by omega
            subst this; rfl
  | succ m ih =>
    by_cases he : n = m + 1
    · subst he; rfl
    · have h1 := ih (by omega)
      show (match (bfsL a S f m)[m]? with | some x => (linksAt a S x).foldl addL (bfsL a S f m) | none => bfsL a S f m) = _
      rw [h1, List.getElem?_eq_none (by omega)]
theorem bfsL_unique {a : List Int} {S : List Spot} {f L L' : List Int} (h : L = bfsL a S f L.length) (h' : L' = bfsL a S f L'.length) : L = L' := by
  rcases Nat.le_total L.length L'.length with hl | hl
  · have h1 := bfsL_still (a := a) (S := S) (f := f) (n := L.length) (by rw [← h]; exact Nat.le_refl _) _ hl
    rw [h', h1]; exact h
  · have h1 := bfsL_still (a := a) (S := S) (f := f) (n := L'.length) (by rw [← h']; exact Nat.le_refl _) _ hl
    rw [h, h1]; exact h'.symm

/-- The order: the whole search, who is named. -/
structure Ordered (a : List Int) (S : List Spot) (f out : List Int) : Prop where
  search : Search a S f out out.length
  roots : ∀ x ∈ f, x ∈ out
  named : Named a S f out
  fn : out = bfsL a S f out.length

set_option maxRecDepth 100000 in
set_option maxHeartbeats 2000000 in
theorem order_ok (A : Option Addr) (n c : Nat) (a : List Int) (A2 : Option Addr) (n2 c2 : Nat) (f : List Int) (w : World) (hr : Reads w w.heap.size 1 A n (a.map (.int .u64))) (hnc : n ≤ c) (ha : ∀ x ∈ a, (Lit.int .u64 x).wf = true)
    (hr2 : Reads w w.heap.size 1 A2 n2 (f.map (.int .i64))) (hn2 : n2 ≤ 1000000000000000000) (hx2 : ∀ x ∈ f, (Lit.int .i64 x).wf = true) (hE : checkE a = 0) :
    Calls Try.prog 49 #[.slice A n c, .slice A2 n2 c2] w fun e w' => Below w.heap.size w w' ∧
      ((∃ L A' c', Ordered a (spotsL a) f L ∧ e = .returned (.tuple #[.slice A' L.length c', .int .i64 0]) ∧ w'.ownsRow w.heap.size 3 1 (.slice A' L.length c') L.length (L.map (.int .i64))) ∨
       ((∃ x ∈ f, x ∉ begsL (spotsL a)) ∧ e = .returned (.tuple #[.slice none 0 0, .int .i64 5]))) := by
  have hal : a.length = n := by have := hr.1; simpa using this
  have hfl : f.length = n2 := by have := hr2.1; simpa using this
  have h0 := (checkE_ok.1 hE).1
  have hn : n ≤ 256 := by have := (parse_ok h0).1; omega
  have H := Lib.hid (fun w hr hr2 => reach_ok A n c a A2 n2 c2 f w hr hnc ha hr2 hn2 hx2 hE)
  have HAt := Lib.hid (fun x i s w hr hix his => at_ok A n c a x i s w hr hnc ha hE hix his)
  have HIx := Lib.hid (fun x s (h : spotAt (spotsL a) x = some s) => spotAt_ix h0 h)
  have HSl : Hid (∀ out i, Search a (spotsL a) f out i → out.length ≤ 256) := fun out i h => h.len h0
  have HLB := Lib.hid (fun x => linksAt_begs hE x)
  have HMEM := Lib.hid (parse_mem (parse_ok h0).2)
  have HBB := Lib.hid (begsL_bounds h0)
  have HLk := Lib.hid (fun (s : Spot) (hs : s ∈ spotsL a) => links_begs hE hs)
  generalize spotsL a = S at *
  have HFL := Lib.hid hfl
  have HAL := Lib.hid hal
  clear hE h0 hfl hal ha hx2
  go_enter Try.func49, Try.ntmps49
  go_wp2_with fail
  refine (H.out _ hr hr2).mono ?_
  rintro e w1 ⟨hb1, ⟨L0, A0, c0, hL0, rfl, -⟩ | ⟨hex, rfl⟩⟩
  · have HALL : Hid (∀ x ∈ f, x ∈ begsL S) := fun x hx => hL0.begs x (hL0.roots x hx)
    clear hL0
    have hC0 : ComeSt w1 [] (w1.alloc (.cells #[.slice none 0 0] 23)) := ⟨none, 0, Blk.new w1 23 #[.slice none 0 0], World.ownsRow_nil _ _ _ _, below_new _ _⟩
    have HC0 := Lib.hid hC0
    have hcf := fun (x : Value) (w : World) => (plain_of (fn := Try.f98) Try.func98 (by kernel_rfl) (by kernel_rfl)) #[x, .pointer (some ⟨w1.heap.size, 0, none⟩)] w
    clear hC0
    go_wp2
    go_loopw [29] (fun i wr => ∃ (j : Nat) (out : List Int), j ≤ n2 ∧ i = .int .i64 j ∧ Hid (ComeSt w1 out wr) ∧ Hid (Search a S f out 0 ∧ (∀ x ∈ f.take j, x ∈ out) ∧ Named a S f out ∧ out = (f.take j).foldl addL [])) (fun i _ => n2 - (intOf i).toNat)
    case atStart => exact ⟨0, [], Nat.zero_le _, rfl, HC0, ⟨Search.nil a S f, by intro x hx; simp at hx, by intro i x hx; simp at hx, by simp⟩⟩
    case round =>
      obtain ⟨j, out, hj, rfl, HA, HS⟩ := hrel
      have hbr : Below w1.heap.size w1 wr := by obtain ⟨_, _, _, _, h⟩ := HA.out; exact h
      by_cases hlt : j < n2
      · obtain ⟨ad, x, rfl, had, hx, cx⟩ := ((hr2.below hb1).below (hbr.mono hb1.size)).num hlt
        have hxf := List.mem_of_getElem? hx
        have hS2 : Search a S f (addL out x) 0 := HS.out.1.add (Nat.zero_le _) (HALL.out x hxf) (fun X hX hc => hX x hxf)
        have HS2 : Hid (Search a S f (addL out x) 0 ∧ (∀ y ∈ f.take (j + 1), y ∈ addL out x) ∧ Named a S f (addL out x) ∧ addL out x = (f.take (j + 1)).foldl addL []) := by
          obtain ⟨q1, q2⟩ := List.getElem?_eq_some_iff.1 hx
          refine ⟨hS2, fun y hy => ?_, HS.out.2.2.1.add (.inl hxf), by rw [List.take_succ_eq_append_getElem q1, List.foldl_append, ← HS.out.2.2.2, q2]; rfl⟩
          rw [List.take_succ_eq_append_getElem q1, List.mem_append] at hy
          have hs := addL_sub out x
          rcases hy with hy | hy
          · exact hs.1 y (HS.out.2.1 y hy)
          · simp only [List.mem_cons, List.not_mem_nil, or_false] at hy
            rw [hy, q2]; exact hs.2
        have HAd := Lib.hid (come_any w1 out x wr HA.out (by have := HSl.out _ _ HS.out.1; omega))
        have hj1 : j + 1 ≤ n2 := hlt
        clear hx hxf hS2 HS hbr
        go_wp2_with fail
        refine HAd.out.mono ?_
        rintro e w3 ⟨rfl, hA3⟩
        have HA3 := Lib.hid hA3
        go_wp2
        go_roundw
        case rel => exact ⟨j + 1, _, hj1, by go_num, HA3, HS2⟩
        case measure => simp [intOf]; omega
      · have HS0 : Hid (Search a S f out 0 ∧ (∀ x ∈ f, x ∈ out) ∧ Named a S f out ∧ out = bfsL a S f 0) := by
          have := HS.out
          rw [List.take_of_length_le (by rw [HFL.out]; omega)] at this
          exact this
        have g0 : decide (j < n2) = false := decide_eq_false hlt
        obtain ⟨wo, hwo⟩ : ∃ x, x = wr := ⟨wr, rfl⟩
        subst hwo
        clear HS hbr
        go_wp2
        go_loopw [12] (fun i wr => ∃ (j : Nat) (out : List Int), j ≤ out.length ∧ i = .int .i64 j ∧ Hid (ComeSt w1 out wr) ∧ Hid (Search a S f out j ∧ (∀ x ∈ f, x ∈ out) ∧ Named a S f out ∧ out = bfsL a S f j)) (fun i _ => 256 - (intOf i).toNat)
        case atStart => exact ⟨0, out, Nat.zero_le _, rfl, HA, HS0⟩
        case round =>
          obtain ⟨j, out, hj, rfl, HA, HS⟩ := hrel
          obtain ⟨Ao, co, e2, e4, e5⟩ := HA.out
          have hlen := HSl.out _ _ HS.out.1
          obtain ⟨k, hk⟩ : ∃ k, k = out.length := ⟨_, rfl⟩
          have d0 := e2.cell 0
          simp only [List.getElem?_toArray, List.getElem?_cons_zero, List.getElem?_cons_succ] at d0
          rw [← hk] at d0 e2 e4 hlen hj
          have HK := Lib.hid hk
          by_cases hlt : j < k
          · obtain ⟨ad, x, rfl, had, hx, cx⟩ := (Reads.of_own e4).num hlt
            have hxb := HS.out.1.begs x (List.mem_of_getElem? hx)
            obtain ⟨s, hs⟩ := begsL_iff.1 hxb
            obtain ⟨hsS, -, hsl⟩ := spotAt_some hs
            have hlk : linksAt a S x = linksL a s := by unfold linksAt; rw [hs]
            have hok := (HMEM.out s hsS).1
            obtain ⟨ix, hix, his⟩ := HIx.out x s hs
            have hAds := HS.out.1.adds (by omega) hx (HLB.out x)
            rw [hlk] at hAds
            have HAds := Lib.hid hAds
            have hrw := (hr.below hb1).below (e5.mono hb1.size)
            have hsw : w.heap.size ≤ wr.heap.size := Nat.le_trans hb1.size e5.size
            have HAx := Lib.hid (HAt.out x ix s wr (hrw.more hsw) hix his)
            have HG : Hid (∀ (q : Nat) (v : Int), (refsOf a s)[q]? = some v → a[s.loc.toNat + 1 + q]? = some v) := by
              intro q v hv
              unfold refsOf at hv
              obtain ⟨q1, q2⟩ := List.getElem?_eq_some_iff.1 hv
              have : ((a.drop (s.loc.toNat + 1)).take s.r.toNat)[q]? = some v := hv
              rw [List.length_take] at q1
              rw [List.getElem?_take, if_pos (by omega), List.getElem?_drop] at this
              exact this
            have hrl := refsOf_length hok
            have l0 := hok.loc0
            have r0 := hok.r0
            have b0 := hok.b0
            have ft := hok.fits
            have hlk2 : ∀ v ∈ refsOf a s, v = 0 ∨ 1 ≤ v ∧ v ≤ 256 := fun v hv => by
              by_cases hv0 : v = 0
              · exact .inl hv0
              · have h1 : v - 1 ∈ linksL a s := List.mem_map.2 ⟨v, List.mem_filter.2 ⟨hv, by simpa using hv0⟩, rfl⟩
                have := HBB.out _ (HLk.out s hsS _ h1)
                exact .inr (by omega)
            have HL2 := Lib.hid hlk2
            have HLd : Hid (linksL a s = linksP (refsOf a s)) := rfl
            obtain ⟨t1, t2, t3, t4, t5⟩ := hAds (linksL a s) (fun y hy => hy)
            have HS2 : Hid (Search a S f ((linksL a s).foldl addL out) (j + 1) ∧ (∀ y ∈ f, y ∈ (linksL a s).foldl addL out) ∧ Named a S f ((linksL a s).foldl addL out) ∧ (linksL a s).foldl addL out = bfsL a S f (j + 1)) :=
              ⟨t1.next t5 (by rw [hlk]; exact t4), fun y hy => t3 y (HS.out.2.1 y hy), HS.out.2.2.1.adds (linksL a s) hx (fun y hy => by rw [hlk]; exact hy), by
                show _ = (match (bfsL a S f j)[j]? with | some x => (linksAt a S x).foldl addL (bfsL a S f j) | none => bfsL a S f j)
                rw [← HS.out.2.2.2, hx, ← hlk]⟩
            have HJ1 : Hid (j + 1 ≤ ((linksL a s).foldl addL out).length) := by show _ ≤ _; omega
            have HPre : Hid (∀ l : List Int, (∀ y ∈ l, y ∈ linksL a s) → (l.foldl addL out).length ≤ 256 ∧ (l.foldl addL out)[j]? = some x) := fun l hl => ⟨HSl.out _ _ (hAds l hl).1, (hAds l hl).2.2.2.2⟩
            rw [HLd.out] at HS2 HJ1 HPre
            clear hx hxb hs hlk hok hix his hAds t1 t2 t3 t4 t5 HS hsS hlk2 HAds
            generalize refsOf a s = rs at *
            obtain ⟨loc, r, bb, t, fr⟩ := s
            simp only [Spot.long] at ft l0 r0 b0 hsl HAx
            subst hsl
            obtain ⟨I, rfl⟩ := Int.eq_ofNat_of_zero_le l0
            obtain ⟨m, rfl⟩ := Int.eq_ofNat_of_zero_le r0
            simp only [Int.toNat_natCast] at hrl HG HAx
            rw [HAL.out] at ft
            have HRL := Lib.hid hrl
            obtain ⟨p1, hp1⟩ : ∃ p1, p1 = I + 1 := ⟨_, rfl⟩
            have w1' : IntKind.i64.wrap ((I : Int) + 1) = p1 := by rw [IntWalk.i64_in _ (by omega)]; omega
            have hp1n : p1 + m ≤ n := by omega
            have HP1 := Lib.hid hp1
            have HE2 := Lib.hid e2
            have HE4 := Lib.hid e4
            clear hrl hp1 e2 e4
            go_wp2_with fail
            refine HAx.out.mono ?_
            rintro e w5 ⟨hb5, A6, c6, A7, c7, rfl, -, -⟩
            have hA5 := (HA.out.below hb5).below (below_new w5 (.cells #[.int .i64 t, .slice A6 m c6, .slice A7 bb.toNat c7, .bool fr] 38))
            have k1 := (Blk.new w5 38 #[.int .i64 t, .slice A6 m c6, .slice A7 bb.toNat c7, .bool fr]).cell 1
            simp only [List.getElem?_toArray, List.getElem?_cons_zero, List.getElem?_cons_succ] at k1
            have HA5 := Lib.hid hA5
            clear hA5
            go_wp2
            clear k1
            go_loopw [15, 16, 55] (fun _ _ i wr => ∃ q : Nat, q ≤ m ∧ i = .int .i64 q ∧ Hid (ComeSt w1 ((linksP (rs.take q)).foldl addL out) wr)) (fun _ _ i _ => m - (intOf i).toNat)
            case atStart => exact ⟨0, Nat.zero_le _, rfl, HA5⟩
            case round =>
              obtain ⟨q, hq, rfl, HQ⟩ := hrel
              have hsub : ∀ y ∈ linksP (rs.take q), y ∈ linksP rs := by
                intro y hy
                obtain ⟨v, hv, rfl⟩ := List.mem_map.1 hy
                obtain ⟨v1, v2⟩ := List.mem_filter.1 hv
                exact List.mem_map.2 ⟨v, List.mem_filter.2 ⟨List.mem_of_mem_take v1, v2⟩, rfl⟩
              obtain ⟨o1, o2⟩ := HPre.out _ hsub
              obtain ⟨Aq, cq, f2, f4, f5⟩ := HQ.out
              have x0 := f2.cell 0
              simp only [List.getElem?_toArray, List.getElem?_cons_zero, List.getElem?_cons_succ] at x0
              by_cases hltq : q < m
              · have hcome := fun y => come_any w1 ((linksP (rs.take q)).foldl addL out) y wr HQ.out (by omega)
                obtain ⟨O, hO⟩ : ∃ O, O = (linksP (rs.take q)).foldl addL out := ⟨_, rfl⟩
                have HOO := Lib.hid hO
                rw [← hO] at o1 o2 f2 f4 x0 hcome
                obtain ⟨ko, hko⟩ : ∃ ko, ko = O.length := ⟨_, rfl⟩
                rw [← hko] at o1 f2 f4 x0
                have hjo : j < ko := by rw [hko]; exact (List.getElem?_eq_some_iff.1 o2).1
                obtain ⟨ad9, y9, rfl, had9, hy9, cy9⟩ := (Reads.of_own f4).num hjo
                obtain rfl : ((I : Nat) : Int) = y9 := Option.some.inj (o2.symm.trans hy9)
                have hbw : Below w.heap.size w wr := below_step hb1 f5
                obtain ⟨pj, hpj⟩ : ∃ pj, pj = p1 + q := ⟨_, rfl⟩
                have hjr : q < rs.length := by rw [HRL.out]; exact hltq
                have hv : rs[q]? = some (rs[q]'hjr) := List.getElem?_eq_getElem hjr
                generalize rs[q]'hjr = v at hv
                have hav := HG.out q v hv
                rw [← HP1.out, ← hpj] at hav
                obtain ⟨ada, y, rfl, hada, hy, cy⟩ := (hr.below hbw).num (k := pj) (by omega)
                obtain rfl : v = y := Option.some.inj (hav.symm.trans hy)
                have hv2 := HL2.out v (List.mem_of_getElem? hv)
                have hpn : pj < n := by omega
                have w3 : IntKind.i64.wrap ((p1 : Int) + q) = pj := by rw [IntWalk.i64_in _ (by omega)]; omega
                have hq1 : q + 1 ≤ m := hltq
                by_cases h0 : v = 0
                · subst h0
                  have HQ2 : Hid (ComeSt w1 ((linksP (rs.take (q + 1))).foldl addL out) wr) := by
                    show ComeSt _ _ _
                    rw [linksP_zero hv]
                    exact HQ.out
                  clear hv hav hy hpj hv2 HQ hcome hO hko o1 o2 hy9 f2 f4
                  go_wp2
                  go_roundw
                  case rel => exact ⟨q + 1, hq1, by go_num, HQ2⟩
                  case measure => simp [intOf]; omega
                · obtain ⟨V, rfl⟩ : ∃ V : Nat, v = V := ⟨v.toNat, by omega⟩
                  obtain ⟨z, hz⟩ : ∃ z : Nat, V = z + 1 := ⟨V - 1, by omega⟩
                  have hst := linksP_succ hv h0
                  rw [show ((V : Int) - 1) = (z : Int) by omega] at hst
                  have HCm := Lib.hid (hcome z)
                  have HST := Lib.hid hst
                  have z1 : ((V : Int) != 0) = true := by simp; omega
                  have z2 : (V != 0) = true := by simp; omega
                  have z3 : ¬ V = 0 := by omega
                  have w4 : IntKind.i64.wrap (V : Int) = V := IntWalk.i64_in _ (by omega)
                  have w5' : (V : Int) - 1 = z := by omega
                  have w6 : IntKind.i64.wrap (z : Int) = z := IntWalk.i64_in _ (by omega)
                  clear hv hav hy hpj hz hv2 HQ hcome hO hko o1 o2 hy9 f2 f4 hst
                  go_wp2_with fail
                  refine HCm.out.mono ?_
                  rintro e w9 ⟨rfl, hA9⟩
                  have HA9 : Hid (ComeSt w1 ((linksP (rs.take (q + 1))).foldl addL out) w9) := by
                    show ComeSt _ _ _
                    rw [HST.out, List.foldl_append, ← HOO.out]
                    exact hA9
                  clear hA9
                  go_wp2
                  go_roundw
                  case rel => exact ⟨q + 1, hq1, by go_num, HA9⟩
                  case measure => simp [intOf]; omega
              · have hqm : q = m := by omega
                have HQ2 : Hid (ComeSt w1 ((linksP rs).foldl addL out) wr) := by
                  have := HQ.out
                  rw [hqm, List.take_of_length_le (by rw [HRL.out]; exact Nat.le_refl _)] at this
                  exact this
                have g2 : decide (q < m) = false := decide_eq_false hltq
                clear hqm HQ hsub o1 o2 f2 f4 x0
                go_wp2
                go_roundw
                case rel => exact ⟨j + 1, _, HJ1.out, by go_num, HQ2, HS2⟩
                case measure => simp [intOf]; omega
          · have hjk : j = k := by omega
            have HRe : Hid (Ordered a S f out) := by
              have h1 := HS.out
              rw [hjk, hk] at h1
              exact ⟨h1.1, h1.2.1, h1.2.2.1, h1.2.2.2⟩
            have g2 : decide (j < k) = false := decide_eq_false hlt
            have HB5 := Lib.hid e5
            have HO5 := Lib.hid (own_mono (base := w.heap.size) e4 (by have := hb1.size; omega))
            clear hjk HS HA hk e5 e4 e2
            go_wp2
            go_ret2
            refine ⟨below_step hb1 HB5.out, .inl ⟨out, Ao, co, HRe.out, ?_, ?_⟩⟩
            · rw [← HK.out]; rfl
            · rw [← HK.out]; exact HO5.out
  · have HEX := Lib.hid hex
    clear hex
    go_wp2
    go_ret2
    exact ⟨hb1, .inr ⟨HEX.out, rfl⟩⟩
end Go.Proofs.Ytammailnbgojgab

/-
  package walk: Objects.
-/
namespace Go.Proofs.Ytammailnbgojgab
open Go.RowKit

/-- An object as a value: its slices by address, length and capacity. -/
structure ObV where
  t : Int
  A1 : Option Addr
  n1 : Nat
  c1 : Nat
  A2 : Option Addr
  n2 : Nat
  c2 : Nat
  f : Bool
def obvC (v : ObV) : List Value := [.int .i64 v.t, .slice v.A1 v.n1 v.c1, .slice v.A2 v.n2 v.c2, .bool v.f]
/-- Object o is what v's slices read as, below block B. -/
def ObR (w : World) (B : Nat) (o : Ob) (v : ObV) : Prop :=
  v.t = o.t ∧ v.f = o.f ∧ v.n1 ≤ v.c1 ∧ v.n2 ≤ v.c2 ∧ v.n1 = o.refs.length ∧ v.n2 = o.body.length ∧ Reads w B 1 v.A1 v.n1 (o.refs.map (.int .i64)) ∧ Reads w B 1 v.A2 v.n2 (o.body.map (.int .u64))
/-- .. owned, from block base on. -/
def ObO (w : World) (base : Nat) (o : Ob) (v : ObV) : Prop :=
  v.t = o.t ∧ v.f = o.f ∧ v.n1 = o.refs.length ∧ v.n2 = o.body.length ∧ w.ownsRow base 3 1 (.slice v.A1 v.n1 v.c1) v.n1 (o.refs.map (.int .i64)) ∧ w.ownsRow base 47 1 (.slice v.A2 v.n2 v.c2) v.n2 (o.body.map (.int .u64))
def ObsR (w : World) (B : Nat) (os : List Ob) (vs : List ObV) : Prop := os.length = vs.length ∧ ∀ (i : Nat) (o : Ob) (v : ObV), os[i]? = some o → vs[i]? = some v → ObR w B o v
def ObsO (w : World) (base : Nat) (os : List Ob) (vs : List ObV) : Prop := os.length = vs.length ∧ ∀ (i : Nat) (o : Ob) (v : ObV), os[i]? = some o → vs[i]? = some v → ObO w base o v

theorem ObR.keep {w w' : World} {B B' : Nat} {o : Ob} {v : ObV} (h : ObR w B o v) (hb : Below B w w') (hB : B ≤ B') : ObR w' B' o v := by
  obtain ⟨h1, h2, h3, h4, h5, h6, h7, h8⟩ := h
  exact ⟨h1, h2, h3, h4, h5, h6, (h7.below hb).more hB, (h8.below hb).more hB⟩
theorem ObsR.keep {w w' : World} {B B' : Nat} {os : List Ob} {vs : List ObV} (h : ObsR w B os vs) (hb : Below B w w') (hB : B ≤ B') : ObsR w' B' os vs :=
  ⟨h.1, fun i o v ho hv => (h.2 i o v ho hv).keep hb hB⟩
theorem ObO.reads {w : World} {base : Nat} {o : Ob} {v : ObV} (h : ObO w base o v) : ObR w w.heap.size o v := by
  obtain ⟨h1, h2, h3, h4, h5, h6⟩ := h
  exact ⟨h1, h2, own_cap h5, own_cap h6, h3, h4, Reads.of_own h5, Reads.of_own h6⟩
theorem ObsO.reads {w : World} {base : Nat} {os : List Ob} {vs : List ObV} (h : ObsO w base os vs) : ObsR w w.heap.size os vs :=
  ⟨h.1, fun i o v ho hv => (h.2 i o v ho hv).reads⟩
theorem ObsO.below {w w' : World} {base : Nat} {os : List Ob} {vs : List ObV} (h : ObsO w base os vs) (hb : Below w.heap.size w w') : ObsO w' base os vs :=
  ⟨h.1, fun i o v ho hv => by
    obtain ⟨h1, h2, h3, h4, h5, h6⟩ := h.2 i o v ho hv
    exact ⟨h1, h2, h3, h4, own_below h5 hb, own_below h6 hb⟩⟩
theorem ObsO.mono {w : World} {base base' : Nat} {os : List Ob} {vs : List ObV} (h : ObsO w base' os vs) (hb : base ≤ base') : ObsO w base os vs :=
  ⟨h.1, fun i o v ho hv => by
    obtain ⟨h1, h2, h3, h4, h5, h6⟩ := h.2 i o v ho hv
    exact ⟨h1, h2, h3, h4, own_mono h5 hb, own_mono h6 hb⟩⟩
theorem own_types {w : World} {base base' size size' n n' : Nat} {e e' : TypeId} {v v' : Value} {xs xs' : List Value} (h : w.ownsRow base e size v n xs) (h' : w.ownsRow base' e' size' v' n' xs') (hne : e ≠ e') {g : Nat} (hg : v.ownBlock = some g) : v'.ownBlock ≠ some g := by
  intro hg'
  rcases h.2 with ⟨rfl, _⟩ | ⟨g1, cap, cur, rfl, _, hh, _⟩
  · cases hg
  · rcases h'.2 with ⟨rfl, _⟩ | ⟨g2, cap2, cur2, rfl, _, hh2, _⟩
    · cases hg'
    · simp only [Value.ownBlock, Option.some.injEq] at hg hg'
      subst hg hg'
      rw [hh] at hh2
      injection hh2 with hh2
      injection hh2 with _ ht
      exact hne ht
/-- Objects stay while a row of another type grows. -/
theorem ObsO.grown {w w' : World} {base base' size n : Nat} {e : TypeId} {v0 : Value} {xs : List Value} {os : List Ob} {vs : List ObV} (h : ObsO w base os vs) (ho : w.ownsRow base' e size v0 n xs) (hg : w.grownBy w' v0.ownBlock) (h1 : e ≠ 3) (h2 : e ≠ 47) : ObsO w' base os vs :=
  ⟨h.1, fun i o v ho' hv => by
    obtain ⟨a1, a2, a3, a4, a5, a6⟩ := h.2 i o v ho' hv
    exact ⟨a1, a2, a3, a4, own_grown a5 hg (fun g hg' => own_types a5 ho h1.symm hg'), own_grown a6 hg (fun g hg' => own_types a6 ho h2.symm hg')⟩⟩
theorem ObsO.snoc {w : World} {base : Nat} {os : List Ob} {vs : List ObV} {o : Ob} {v : ObV} (h : ObsO w base os vs) (h1 : ObO w base o v) : ObsO w base (os ++ [o]) (vs ++ [v]) := by
  refine ⟨by rw [List.length_append, List.length_append, h.1]; rfl, fun i o' v' ho hv => ?_⟩
  rcases Nat.lt_or_ge i os.length with hi | hi
  · rw [List.getElem?_append_left hi] at ho
    rw [List.getElem?_append_left (by rw [← h.1]; exact hi)] at hv
    exact h.2 i o' v' ho hv
  · rw [List.getElem?_append_right hi] at ho
    rw [List.getElem?_append_right (by rw [← h.1]; exact hi), ← h.1] at hv
    rcases Nat.eq_zero_or_pos (i - os.length) with h0 | h0
    · rw [h0] at ho hv
      cases ho
      cases hv
      exact h1
    · rw [List.getElem?_eq_none (by simp; omega)] at ho
      cases ho

theorem info_object : (Try.prog.info? 38).map (fun i => (i.zero, i.size, i.bytes)) = some (some (.agg #[.int .i64 0, .slice none 0 0, .slice none 0 0, .bool false]), 4, 64) := by kernel_rfl

set_option maxHeartbeats 400000 in
theorem objects_bad (A : Option Addr) (n c : Nat) (a : List Int) (w : World) (hr : Reads w w.heap.size 1 A n (a.map (.int .u64))) (hnc : n ≤ c) (ha : ∀ x ∈ a, (Lit.int .u64 x).wf = true) (hE : checkE a ≠ 0) :
    Calls Try.prog 19 #[.slice A n c] w fun e w' => e = .returned (.tuple #[.slice none 0 0, .int .i64 (checkE a)]) ∧ Below w.heap.size w w' := by
  have H := Lib.hid (check_bad A n c a w hr hnc ha hE)
  generalize checkE a = E at *
  have hE1 : (E != 0) = true := by simpa using hE
  go_enter Try.func19, Try.ntmps19
  go_wp2_with fail
  refine H.out.mono ?_
  rintro e w1 ⟨rfl, hb1⟩
  go_wp2
  go_ret2
  exact ⟨rfl, hb1⟩

set_option maxRecDepth 100000 in
set_option maxHeartbeats 1000000 in
theorem objects_ok (A : Option Addr) (n c : Nat) (a : List Int) (w : World) (hr : Reads w w.heap.size 1 A n (a.map (.int .u64))) (hnc : n ≤ c) (ha : ∀ x ∈ a, (Lit.int .u64 x).wf = true) (hE : checkE a = 0) :
    Calls Try.prog 19 #[.slice A n c] w fun e w' => Below w.heap.size w w' ∧ ∃ A' c' vs, e = .returned (.tuple #[.slice A' (spotsL a).length c', .int .i64 0]) ∧ w'.ownsRow w.heap.size 38 4 (.slice A' (spotsL a).length c') (spotsL a).length (vs.flatMap obvC) ∧
      ObsO w' w.heap.size ((spotsL a).map (obOf a (spotsL a))) vs := by
  have H := Lib.hid (check_ok A n c a w hr hnc ha hE)
  have hm256 := spotsL_length a
  obtain ⟨h0, _⟩ := checkE_ok.1 hE
  obtain ⟨hlen, hP⟩ := parse_ok h0
  have hal : a.length = n := by have := hr.1; simpa using this
  have hn : n ≤ 256 := by omega
  generalize spotsL a = l at *
  have HOb := Lib.hid (fun b s hs w hr hM => object_any A n c b a l s w hr hnc hn (parse_mem hP s hs).1 ha hM)
  have HLen := Lib.hid (fun s hs => And.intro (refIx_length (l := l) (parse_mem hP s hs).1) (bodyOf_length (parse_mem hP s hs).1))
  obtain ⟨i0, hi, hz0, hz1, hz2⟩ := info_parts info_object
  clear hE h0 hP hal hlen
  go_enter Try.func19, Try.ntmps19
  go_wp2_with fail
  refine H.out.mono ?_
  rintro e w1 ⟨hb1, A', c', b, rfl, hbb, hown, hM⟩
  have hrl := Reads.of_own hown
  obtain ⟨m, hm⟩ : ∃ m, m = l.length := ⟨_, rfl⟩
  rw [← hm] at hrl hm256
  rw [← hm]
  have HM := Lib.hid hm
  have hblt := hM.lt
  clear hown hm
  go_wp2
  go_loopw [7, 21] (fun o i wr => ∃ (j : Nat) (A2 : Option Addr) (c2 : Nat) (vs : List ObV), j ≤ m ∧ i = .int .i64 j ∧ o = .slice A2 j c2 ∧ wr.ownsRow w1.heap.size 38 4 (.slice A2 j c2) j (vs.flatMap obvC) ∧ ObsO wr w1.heap.size ((l.take j).map (obOf a l)) vs ∧ Below w1.heap.size w1 wr) (fun _ i _ => m - (intOf i).toNat)
  case atStart => exact ⟨0, none, 0, [], Nat.zero_le _, rfl, rfl, World.ownsRow_nil _ _ _ _, ⟨rfl, fun i o v h => by simp at h⟩, Below.refl _ _⟩
  case round =>
    obtain ⟨j, A2, c2, vs, hj, rfl, rfl, hown, hO, hb⟩ := hrel
    by_cases hlt : j < m
    · obtain ⟨ad, s, rfl, had, hs, k0, k1, k2, k3, k4⟩ := (hrl.below hb).spot hlt
      have HT : Hid (l.take (j + 1) = l.take j ++ [s]) := by
        show _ = _
        obtain ⟨h1, rfl⟩ := List.getElem?_eq_some_iff.1 hs
        exact List.take_succ_eq_append_getElem h1
      have HSM : Hid (s ∈ l) := List.mem_of_getElem? hs
      have hb0 := hb.alloc hb.size (.cells (spotC s).toArray 102)
      have hown0 := hown.alloc (.cells (spotC s).toArray 102)
      have hO0 := hO.below (below_new wr (.cells (spotC s).toArray 102))
      have hbw := below_step hb1 hb0
      have HC := Lib.hid (HOb.out b s HSM.out _ ((hr.below hbw).more hbw.size) (hM.below hb0 hblt))
      clear hs hb hown hO
      go_wp2_with fail
      refine HC.out.mono ?_
      rintro e w3 ⟨hb3, B1, d1, B2, d2, rfl, hown1, hown2⟩
      have hown3 := own_below hown0 hb3
      have hO3 := hO0.below hb3
      have hb03 := hb0.trans (hb3.mono hb0.size)
      have hObj : ObO w3 w1.heap.size (obOf a l s) ⟨s.t, B1, s.r.toNat, d1, B2, s.b.toNat, d2, s.f⟩ := ⟨rfl, rfl, (HLen.out s HSM.out).1.symm, (HLen.out s HSM.out).2.symm, own_mono hown1 hb0.size, own_mono hown2 hb0.size⟩
      have hO4 := hO3.snoc hObj
      have hO5 := hO4.below (below_new w3 (.cells #[.int .i64 s.t, .slice B1 s.r.toNat d1, .slice B2 s.b.toNat d2, .bool s.f] 38))
      have hown5 := hown3.alloc (.cells #[.int .i64 s.t, .slice B1 s.r.toNat d1, .slice B2 s.b.toNat d2, .bool s.f] 38)
      have hb05 := hb03.alloc hb03.size (.cells #[.int .i64 s.t, .slice B1 s.r.toNat d1, .slice B2 s.b.toNat d2, .bool s.f] 38)
      have hnew := reads_new w3 (obvC ⟨s.t, B1, s.r.toNat, d1, B2, s.b.toNat, d2, s.f⟩) 38 1 4 rfl
      have HO5 := Lib.hid hO5
      have HOW := Lib.hid hown5
      clear hown0 hO0 hb0 hb3 hown1 hown2 hown3 hO3 hb03 hObj hO4 hO5
      go_wp2_with (at_builtin; refine wpList_append_any _ rfl (.tmp 25) (.tmp 30) 25 rfl w1.heap.size 38 i0 _ 4 64 Try.underlying25 hi hz0 hz1 hz2 rfl (by decide) (.slice A2 j c2) j _ rfl hown5 (w3.heap.size + 1) (some ⟨w3.heap.size, 0, none⟩) 1 1 (obvC ⟨s.t, B1, s.r.toNat, d1, B2, s.b.toNat, d2, s.f⟩) rfl hnew (by simp [obvC, Value.oneCell']) (by simp [maxLen]; omega) (by omega) (by have := hb05.size; exact this) ?_; rintro v' w6 hown6 hgr hbl -; obtain ⟨A6, c6, rfl⟩ := own_slice hown6)
      have hb6 : Below w1.heap.size w1 w6 := hb05.grown hgr hb05.size (fun g hg => (HOW.out.lt g hg).1)
      have hO6 := HO5.out.grown HOW.out hgr (by decide) (by decide)
      go_roundw
      case rel => exact ⟨j + 1, A6, c6, vs ++ [⟨s.t, B1, s.r.toNat, d1, B2, s.b.toNat, d2, s.f⟩], by omega, by go_num, rfl, by rw [List.flatMap_append]; simpa using hown6, by rw [HT.out, List.map_append]; exact hO6, hb6⟩
      case measure => simp [intOf]; omega
    · have hjm : j = m := by omega
      subst hjm
      rw [List.take_of_length_le (by rw [← HM.out]; exact Nat.le_refl _)] at hO
      go_wp2
      go_ret2
      have e := HM.out
      subst e
      exact ⟨below_step hb1 hb, A2, c2, vs, rfl, own_mono hown hb1.size, hO.mono hb1.size⟩
end Go.Proofs.Ytammailnbgojgab
