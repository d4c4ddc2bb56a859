/-
  Texts joined: Objects Form IsoLaw.
-/
import Derived.Deep.RegionHeld3
import Derived.Test.YtblkhipbhahmeaaGreatDoorU0
import Derived.Test.YtblkhipbhahmeaaGreatDoorU4
import Derived.Test.YtblkhipbhahmeaaGreatDoorU5
namespace Go.Proofs.YtblkhipbhahmeaaGreatDoor
open Go.RowKit
structure ObV where
 t : Int
 A1 : Option Addr
 n1 : Nat
 c1 : Nat
 A2 : Option Addr
 n2 : Nat
 c2 : Nat
 f : Bool
def obvC (v : ObV) : List Value := [.int .i64 v.t, .slice v.A1 v.n1 v.c1, .slice v.A2 v.n2 v.c2, .bool v.f]
def ObR (w : World) (B : Nat) (o : Ob) (v : ObV) : Prop :=
 v.t = o.t ∧ v.f = o.f ∧ v.n1 ≤ v.c1 ∧ v.n2 ≤ v.c2 ∧ v.n1 = o.refs.length ∧ v.n2 = o.body.length ∧ Reads w B 1 v.A1 v.n1 (o.refs.map (.int .i64)) ∧ Reads w B 1 v.A2 v.n2 (o.body.map (.int .u64))
def ObO (w : World) (base : Nat) (o : Ob) (v : ObV) : Prop :=
 v.t = o.t ∧ v.f = o.f ∧ v.n1 = o.refs.length ∧ v.n2 = o.body.length ∧ w.ownsRow base 3 1 (.slice v.A1 v.n1 v.c1) v.n1 (o.refs.map (.int .i64)) ∧ w.ownsRow base 40 1 (.slice v.A2 v.n2 v.c2) v.n2 (o.body.map (.int .u64))
def ObsR (w : World) (B : Nat) (os : List Ob) (vs : List ObV) : Prop := os.length = vs.length ∧ ∀ (i : Nat) (o : Ob) (v : ObV), os[i]? = some o → vs[i]? = some v → ObR w B o v
def ObsO (w : World) (base : Nat) (os : List Ob) (vs : List ObV) : Prop := os.length = vs.length ∧ ∀ (i : Nat) (o : Ob) (v : ObV), os[i]? = some o → vs[i]? = some v → ObO w base o v
theorem ObR.keep {w w' : World} {B B' : Nat} {o : Ob} {v : ObV} (h : ObR w B o v) (hb : Below B w w') (hB : B ≤ B') : ObR w' B' o v := by
 obtain ⟨h1, h2, h3, h4, h5, h6, h7, h8⟩ := h
 exact ⟨h1, h2, h3, h4, h5, h6, (h7.below hb).more hB, (h8.below hb).more hB⟩
theorem ObsR.keep {w w' : World} {B B' : Nat} {os : List Ob} {vs : List ObV} (h : ObsR w B os vs) (hb : Below B w w') (hB : B ≤ B') : ObsR w' B' os vs :=
 ⟨h.1, fun i o v ho hv => (h.2 i o v ho hv).keep hb hB⟩
theorem ObO.reads {w : World} {base : Nat} {o : Ob} {v : ObV} (h : ObO w base o v) : ObR w w.heap.size o v := by
 obtain ⟨h1, h2, h3, h4, h5, h6⟩ := h
 exact ⟨h1, h2, own_cap h5, own_cap h6, h3, h4, Reads.of_own h5, Reads.of_own h6⟩
theorem ObsO.reads {w : World} {base : Nat} {os : List Ob} {vs : List ObV} (h : ObsO w base os vs) : ObsR w w.heap.size os vs :=
 ⟨h.1, fun i o v ho hv => (h.2 i o v ho hv).reads⟩
theorem ObsO.below {w w' : World} {base : Nat} {os : List Ob} {vs : List ObV} (h : ObsO w base os vs) (hb : Below w.heap.size w w') : ObsO w' base os vs :=
 ⟨h.1, fun i o v ho hv => by
   obtain ⟨h1, h2, h3, h4, h5, h6⟩ := h.2 i o v ho hv
   exact ⟨h1, h2, h3, h4, own_below h5 hb, own_below h6 hb⟩⟩
theorem ObsO.mono {w : World} {base base' : Nat} {os : List Ob} {vs : List ObV} (h : ObsO w base' os vs) (hb : base ≤ base') : ObsO w base os vs :=
 ⟨h.1, fun i o v ho hv => by
   obtain ⟨h1, h2, h3, h4, h5, h6⟩ := h.2 i o v ho hv
   exact ⟨h1, h2, h3, h4, own_mono h5 hb, own_mono h6 hb⟩⟩
theorem own_types {w : World} {base base' size size' n n' : Nat} {e e' : TypeId} {v v' : Value} {xs xs' : List Value} (h : w.ownsRow base e size v n xs) (h' : w.ownsRow base' e' size' v' n' xs') (hne : e ≠ e') {g : Nat} (hg : v.ownBlock = some g) : v'.ownBlock ≠ some g := by
 intro hg'
 rcases h.2 with ⟨rfl, _⟩ | ⟨g1, cap, cur, rfl, _, hh, _⟩
 ·cases hg
 ·rcases h'.2 with ⟨rfl, _⟩ | ⟨g2, cap2, cur2, rfl, _, hh2, _⟩
  ·cases hg'
  ·simp only [Value.ownBlock, Option.some.injEq] at hg hg'
   subst hg hg'
   rw [hh] at hh2
   injection hh2 with hh2
   injection hh2 with _ ht
   exact hne ht
theorem ObsO.grown {w w' : World} {base base' size n : Nat} {e : TypeId} {v0 : Value} {xs : List Value} {os : List Ob} {vs : List ObV} (h : ObsO w base os vs) (ho : w.ownsRow base' e size v0 n xs) (hg : w.grownBy w' v0.ownBlock) (h1 : e ≠ 3) (h2 : e ≠ 40) : ObsO w' base os vs :=
 ⟨h.1, fun i o v ho' hv => by
   obtain ⟨a1, a2, a3, a4, a5, a6⟩ := h.2 i o v ho' hv
   exact ⟨a1, a2, a3, a4, own_grown a5 hg (fun g hg' => own_types a5 ho h1.symm hg'), own_grown a6 hg (fun g hg' => own_types a6 ho h2.symm hg')⟩⟩
theorem ObsO.snoc {w : World} {base : Nat} {os : List Ob} {vs : List ObV} {o : Ob} {v : ObV} (h : ObsO w base os vs) (h1 : ObO w base o v) : ObsO w base (os ++ [o]) (vs ++ [v]) := by
 refine ⟨by rw [List.length_append, List.length_append, h.1]; rfl, fun i o' v' ho hv => ?_⟩
 rcases Nat.lt_or_ge i os.length with hi | hi
 ·rw [List.getElem?_append_left hi] at ho
  rw [List.getElem?_append_left (by rw [← h.1]; exact hi)] at hv
  exact h.2 i o' v' ho hv
 ·rw [List.getElem?_append_right hi] at ho
  rw [List.getElem?_append_right (by rw [← h.1]; exact hi), ← h.1] at hv
  rcases Nat.eq_zero_or_pos (i - os.length) with h0 | h0
  ·rw [h0] at ho hv
   cases ho
   cases hv
   exact h1
  ·rw [List.getElem?_eq_none (by simp; omega)] at ho
   cases ho
theorem info_object : (Tryz.prog.info? 45).map (fun i => (i.zero, i.size, i.bytes)) = some (some (.agg #[.int .i64 0, .slice none 0 0, .slice none 0 0, .bool false]), 4, 64) := by kernel_rfl
def idxL (L : List Int) (y : Int) : Int := ixOf (fun x => y == x) L
def formO (a : List Int) (S : List Spot) (L : List Int) (x : Int) : Ob :=
 match spotAt S x with | some s => ⟨s.t, (refsOf a s).map (fun v => idxL L (v - 1)), bodyOf a s, s.f⟩ | none => ⟨0, [], [], false⟩
def FormIs (a f : List Int) (os : List Ob) (fr : List Int) : Prop :=
 ∃ L, Ordered a (spotsL a) f L ∧ os = L.map (formO a (spotsL a) L) ∧ fr = f.map (idxL L)
theorem set_mid {α : Type} (P T : List α) (q : Nat) (v : α) (hq : P.length = q) (hT : q < T.length) : (P ++ T.drop q).set q v = (P ++ [v]) ++ T.drop (q + 1) := by
 rw [List.set_append_right _ _ (by omega), hq, Nat.sub_self, List.drop_eq_getElem_cons hT, List.set_cons_zero]
 simp
theorem own_setK {w : World} {base g n c k : Nat} {e : TypeId} {xs : List Value} (h : w.ownsRow base e k (.slice (some ⟨g, 0, none⟩) n c) n xs) (j : Nat) (u : Value) :
  (w.setCell ⟨g, j, none⟩ u).ownsRow base e k (.slice (some ⟨g, 0, none⟩) n c) n (xs.set j u) := by
 obtain ⟨cur, hb, hg, hc, hm, hl, ht⟩ := own_open h
 have hB : Blk w g e cur.toArray := hg
 have hB2 := hB.set_ j u
 simp only [List.setIfInBounds_toArray] at hB2
 have := own_close (size := k) (n := n) (c := c) (cur.set j u) hb hB2 hc hm (by rw [List.length_set]; exact hl)
 rw [List.take_set, ht] at this
 exact this
theorem ObsO.far {w : World} {base : Nat} {os : List Ob} {vs : List ObV} (h : ObsO w base os vs) {p : Addr} (hp : p.block < base) (u : Value) : ObsO (w.setCell p u) base os vs :=
 ⟨h.1, fun i o v ho hv => by
   obtain ⟨h1, h2, h3, h4, h5, h6⟩ := h.2 i o v ho hv
   exact ⟨h1, h2, h3, h4, own_far h5 hp u, own_far h6 hp u⟩⟩
theorem ObsO.top {w : World} {base : Nat} {os : List Ob} {vs : List ObV} (h : ObsO w base os vs) : ∀ v ∈ vs, ∀ g, ((Value.slice v.A1 v.n1 v.c1).ownBlock = some g ∨ (Value.slice v.A2 v.n2 v.c2).ownBlock = some g) → g < w.heap.size := by
 intro v hv g hg
 obtain ⟨i, hi⟩ := List.mem_iff_getElem?.1 hv
 have hl : i < os.length := by rw [h.1]; exact (List.getElem?_eq_some_iff.1 hi).1
 obtain ⟨-, -, -, -, h5, h6⟩ := h.2 i _ v (List.getElem?_eq_getElem hl) hi
 rcases hg with hg | hg
 ·exact (h5.lt g hg).2
 ·exact (h6.lt g hg).2
theorem ObsO.apart {w w' : World} {base : Nat} {os : List Ob} {vs : List ObV} {row : Option Nat} (h : ObsO w base os vs) (hg : w.grownBy w' row) (hne : ∀ v ∈ vs, ∀ g, ((Value.slice v.A1 v.n1 v.c1).ownBlock = some g ∨ (Value.slice v.A2 v.n2 v.c2).ownBlock = some g) → row ≠ some g) : ObsO w' base os vs :=
 ⟨h.1, fun i o v ho hv => by
   obtain ⟨h1, h2, h3, h4, h5, h6⟩ := h.2 i o v ho hv
   have hm := List.mem_of_getElem? hv
   exact ⟨h1, h2, h3, h4, own_grown h5 hg (fun g hg' => hne v hm g (.inl hg')), own_grown h6 hg (fun g hg' => hne v hm g (.inr hg'))⟩⟩
theorem ObsO.drew {w : World} {base : Nat} {os : List Ob} {vs : List ObV} (h : ObsO w base os vs) : ObsO w.drew base os vs :=
 ⟨h.1, fun i o v ho hv => by
   obtain ⟨h1, h2, h3, h4, h5, h6⟩ := h.2 i o v ho hv
   exact ⟨h1, h2, h3, h4, h5.drew, h6.drew⟩⟩
set_option maxRecDepth 100000 in
set_option maxHeartbeats 4000000 in
theorem form_ok (A : Option Addr) (n c : Nat) (a : List Int) (A2 : Option Addr) (n2 c2 : Nat) (f : List Int) (w : World) (hr : Reads w w.heap.size 1 A n (a.map (.int .u64))) (hnc : n ≤ c) (ha : ∀ x ∈ a, (Lit.int .u64 x).wf = true)
  (hr2 : Reads w w.heap.size 1 A2 n2 (f.map (.int .i64))) (hn2 : n2 * 8 ≤ 140737488355328) (hx2 : ∀ x ∈ f, (Lit.int .i64 x).wf = true) (hE : checkE a = 0) :
  Calls Tryz.prog 4 #[.slice A n c, .slice A2 n2 c2] w fun e w' => Below w.heap.size w w' ∧
   (((∀ x ∈ f, x ∈ begsL (spotsL a)) ∧ ∃ (os : List Ob) (fr : List Int) (vs : List ObV) (Ao : Option Addr) (co : Nat) (Af : Option Addr) (cf : Nat), FormIs a f os fr ∧ os.length ≤ 256 ∧ fr.length = n2 ∧ e = .returned (.tuple #[.agg #[.slice Ao os.length co, .slice Af n2 cf], .int .i64 0]) ∧
       w'.ownsRow w.heap.size 45 4 (.slice Ao os.length co) os.length (vs.flatMap obvC) ∧ ObsO w' w.heap.size os vs ∧ w'.ownsRow w.heap.size 3 1 (.slice Af n2 cf) n2 (fr.map (.int .i64))) ∨
    (¬ (∀ x ∈ f, x ∈ begsL (spotsL a)) ∧ ∃ er : Int, (er != 0) = true ∧ e = .returned (.tuple #[.agg #[.slice none 0 0, .slice none 0 0], .int .i64 er]))) := by
 have hal : a.length = n := by have := hr.1; simpa using this
 have hfl : f.length = n2 := by have := hr2.1; simpa using this
 have h0 := (checkE_ok.1 hE).1
 have hn : n ≤ 256 := by have := (parse_ok h0).1; omega
 have H := Lib.hid (fun w hr hr2 => order_ok A n c a A2 n2 c2 f w hr hnc ha hr2 (by omega) hx2 hE)
 have HAt := Lib.hid (fun x i s w hr hix his => at_ok A n c a x i s w hr hnc ha hE hix his)
 have HIx := Lib.hid (fun x s (h : spotAt (spotsL a) x = some s) => spotAt_ix h0 h)
 have HMEM := Lib.hid (parse_mem (parse_ok h0).2)
 have HBB := Lib.hid (begsL_bounds h0)
 have HLk := Lib.hid (fun (s : Spot) (hs : s ∈ spotsL a) => links_begs hE hs)
 have HFI : Hid (∀ L, Ordered a (spotsL a) f L → FormIs a f (L.map (formO a (spotsL a) L)) (f.map (idxL L))) := fun L h => ⟨L, h, rfl, rfl⟩
 generalize spotsL a = S at *
 obtain ⟨i0, hi, hz0, hz1, hz2⟩ := info_parts info_object
 obtain ⟨j0, ji, jz0, jz1, jz2⟩ := info_parts info_int
 have HFL := Lib.hid hfl
 have HAL := Lib.hid hal
 have R0 := Blk.new w 26 #[.slice none 0 0, .slice none 0 0]
 have hb0 := below_new w (.cells #[.slice none 0 0, .slice none 0 0] 26)
 clear hE h0 hfl hal ha hx2
 go_enter Tryz.func4, Tryz.ntmps4
 go_wp2_with fail
 refine (H.out _ ((hr.below hb0).more hb0.size) ((hr2.below hb0).more hb0.size)).mono ?_
 rintro e w1 ⟨hb1, ⟨L, A0, c0, hL, rfl, hown0⟩ | ⟨hex, rfl⟩⟩
 ·have HALL : Hid (∀ x ∈ f, x ∈ begsL S) := fun x hx => hL.search.begs x (hL.roots x hx)
  have hL256 : L.length ≤ 256 := nodup_bound 256 L hL.search.once (fun x hx => HBB.out x (hL.search.begs x hx))
  have HLB : Hid (∀ x ∈ L, x ∈ begsL S) := hL.search.begs
  have HFi := Lib.hid (HFI.out L hL)
  obtain ⟨k, hk⟩ : ∃ k, k = L.length := ⟨_, rfl⟩
  rw [← hk] at hown0 hL256 ⊢
  have HK := Lib.hid hk
  have hb01 := below_step hb0 hb1
  have R1 := R0.below hb1 R0.lt
  have G1 := Blk.new w1 26 #[.slice none 0 0, .slice none 0 0]
  have hbn := below_new w1 (.cells #[.slice none 0 0, .slice none 0 0] 26)
  have hrL := (Reads.of_own hown0).below hbn
  have hb02 := below_step hb01 hbn
  have R2 := R1.below hbn R1.lt
  have hw01 := hb01.size
  have hRlt := R1.lt
  clear hown0 hL hk hbn R1 R0 hb0 hb1
  go_wp2
  go_loopw [28] (fun i wr => ∃ (j : Nat) (vs : List ObV) (Ao : Option Addr) (co : Nat), j ≤ k ∧ i = .int .i64 j ∧ Blk wr w1.heap.size 26 #[.slice Ao j co, .slice none 0 0] ∧ Hid (wr.ownsRow (w1.heap.size + 1) 45 4 (.slice Ao j co) j (vs.flatMap obvC)) ∧
   Hid (ObsO wr (w1.heap.size + 1) ((L.take j).map (formO a S L)) vs) ∧ Below w1.heap.size (w1.alloc (.cells #[.slice none 0 0, .slice none 0 0] 26)) wr ∧ w1.heap.size + 1 ≤ wr.heap.size) (fun i _ => k - (intOf i).toNat)
  case atStart => exact ⟨0, [], none, 0, Nat.zero_le _, rfl, G1, World.ownsRow_nil _ _ _ _, ⟨rfl, fun i o v h => by simp at h⟩, Below.refl _ _, by rw [World.size_alloc]; exact Nat.le_refl _⟩
  case round =>
   obtain ⟨j, vs, Ao, co, hj, rfl, GB, HOW, HOB, hb, hsz⟩ := hrel
   have hbw : Below w.heap.size w wr := hb02.trans (hb.mono hw01)
   by_cases hlt : j < k
   ·obtain ⟨ad, x, rfl, had, hx, cx⟩ := (hrL.below hb).num hlt
    have hj1 : j + 1 ≤ k := hlt
    have hxb := HLB.out x (List.mem_of_getElem? hx)
    obtain ⟨s, hs⟩ := begsL_iff.1 hxb
    obtain ⟨hsS, -, hsl⟩ := spotAt_some hs
    have hok := (HMEM.out s hsS).1
    obtain ⟨ix, hix, his⟩ := HIx.out x s hs
    have HAx := Lib.hid (HAt.out x ix s wr ((hr.below hbw).more hbw.size) hix his)
    have HG : Hid (∀ (q : Nat) (v : Int), (refsOf a s)[q]? = some v → a[s.loc.toNat + 1 + q]? = some v) := by
     intro q v hv
     unfold refsOf at hv
     obtain ⟨q1, q2⟩ := List.getElem?_eq_some_iff.1 hv
     have : ((a.drop (s.loc.toNat + 1)).take s.r.toNat)[q]? = some v := hv
     rw [List.length_take] at q1
     rw [List.getElem?_take, if_pos (by omega), List.getElem?_drop] at this
     exact this
    have hrl := refsOf_length hok
    have hbl := bodyOf_length hok
    have hil := refIx_length (l := S) hok
    have l0 := hok.loc0
    have r0 := hok.r0
    have b0 := hok.b0
    have ft := hok.fits
    have hlk2 : ∀ v ∈ refsOf a s, v = 0 ∨ 1 ≤ v ∧ v ≤ 256 := fun v hv => by
     by_cases hv0 : v = 0
     ·exact .inl hv0
     ·have h1 : v - 1 ∈ linksL a s := List.mem_map.2 ⟨v, List.mem_filter.2 ⟨hv, by simpa using hv0⟩, rfl⟩
      have := HBB.out _ (HLk.out s hsS _ h1)
      exact .inr (by omega)
    have HL2 := Lib.hid hlk2
    have HFo : Hid (formO a S L x = ⟨s.t, (refsOf a s).map (fun v => idxL L (v - 1)), bodyOf a s, s.f⟩) := by show _ = _; unfold formO; rw [hs]
    have HT : Hid (L.take (j + 1) = L.take j ++ [x]) := by
     show _ = _
     obtain ⟨q1, q2⟩ := List.getElem?_eq_some_iff.1 hx
     rw [List.take_succ_eq_append_getElem q1, q2]
    clear hx hxb hs hsS hix his hlk2 hok
    generalize refsOf a s = rs at *
    generalize bodyOf a s = bs at *
    generalize refIx S a s = ri at *
    obtain ⟨loc, r, bb, t, fr⟩ := s
    simp only [Spot.long] at ft l0 r0 b0 hsl HAx hbl hil HFo
    subst hsl
    obtain ⟨I, rfl⟩ := Int.eq_ofNat_of_zero_le l0
    obtain ⟨m, rfl⟩ := Int.eq_ofNat_of_zero_le r0
    obtain ⟨bw, rfl⟩ := Int.eq_ofNat_of_zero_le b0
    simp only [Int.toNat_natCast] at hrl HG HAx hbl hil
    rw [HAL.out] at ft
    have HRL := Lib.hid hrl
    have HBL := Lib.hid hbl
    have HIL := Lib.hid hil
    obtain ⟨p1, hp1⟩ : ∃ p1, p1 = I + 1 := ⟨_, rfl⟩
    have w1' : IntKind.i64.wrap ((I : Int) + 1) = p1 := by rw [IntWalk.i64_in _ (by omega)]; omega
    have hp1n : p1 + m ≤ n := by omega
    have HP1 := Lib.hid hp1
    clear hrl hp1 hbl hil
    go_wp2_with fail
    refine HAx.out.mono ?_
    rintro e w5 ⟨hb5, A6, c6, A7, c7, rfl, hown6, hown7⟩
    have D5 := Blk.new w5 45 #[.int .i64 t, .slice A6 m c6, .slice A7 bw c7, .bool fr]
    have hbn5 := below_new w5 (.cells #[.int .i64 t, .slice A6 m c6, .slice A7 bw c7, .bool fr] 45)
    have hbx := below_step hb5 hbn5
    have hown6x := hown6.alloc (.cells #[.int .i64 t, .slice A6 m c6, .slice A7 bw c7, .bool fr] 45)
    have hown7x := hown7.alloc (.cells #[.int .i64 t, .slice A6 m c6, .slice A7 bw c7, .bool fr] 45)
    have d1 := D5.cell 1
    simp only [List.getElem?_toArray, List.getElem?_cons_zero, List.getElem?_cons_succ] at d1
    have hg6 := fun g hg => hown6.lt g hg
    have hg7 := fun g hg => hown7.lt g hg
    have hne67 : ∀ g, (Value.slice A7 bw c7).ownBlock = some g → (Value.slice A6 m c6).ownBlock ≠ some g := fun g hg => own_types hown7 hown6 (by decide) hg
    have HO6 : Hid ((w5.alloc (.cells #[.int .i64 t, .slice A6 m c6, .slice A7 bw c7, .bool fr] 45)).ownsRow wr.heap.size 3 1 (.slice A6 m c6) m (((rs.take 0).map (fun v => idxL L (v - 1)) ++ ri.drop 0).map (.int .i64))) := by
     show World.ownsRow _ _ _ _ _ _ _
     simpa using hown6x
    have HO7 := Lib.hid hown7x
    have hsz5 := hb5.size
    obtain ⟨wo, hwo⟩ : ∃ x, x = wr := ⟨wr, rfl⟩
    subst hwo
    clear hown6 hown7 hown6x hown7x hbn5
    go_wp2
    go_loopw [13, 41] (fun _ i wx => ∃ q : Nat, q ≤ m ∧ i = .int .i64 q ∧ Hid (wx.ownsRow wo.heap.size 3 1 (.slice A6 m c6) m (((rs.take q).map (fun v => idxL L (v - 1)) ++ ri.drop q).map (.int .i64))) ∧ Hid (wx.ownsRow wo.heap.size 40 1 (.slice A7 bw c7) bw (bs.map (.int .u64))) ∧
     Blk wx w5.heap.size 45 #[.int .i64 t, .slice A6 m c6, .slice A7 bw c7, .bool fr] ∧ Below wo.heap.size wo wx) (fun _ i _ => m - (intOf i).toNat)
    case atStart => exact ⟨0, Nat.zero_le _, rfl, HO6, HO7, D5, hbx⟩
    case round =>
     obtain ⟨q, hq, rfl, HR6, HR7, DX, hby⟩ := hrel
     have hbwx : Below w.heap.size w wr := below_step hbw hby
     have x1 := DX.cell 1
     simp only [List.getElem?_toArray, List.getElem?_cons_zero, List.getElem?_cons_succ] at x1
     by_cases hltq : q < m
     ·obtain ⟨g6, rfl⟩ : ∃ g, A6 = some ⟨g, 0, none⟩ := by
       rcases HR6.out.2 with ⟨h2, h3⟩ | ⟨g, cap, cur, hv, -⟩
       ·injection h2 with _ h4; omega
       ·injection hv with h1 h2 h3; exact ⟨g, h1⟩
      have hg6b := hg6 g6 rfl
      have hjr : q < rs.length := by rw [HRL.out]; exact hltq
      have hv : rs[q]? = some (rs[q]'hjr) := List.getElem?_eq_getElem hjr
      generalize rs[q]'hjr = v at hv
      have hav := HG.out q v hv
      obtain ⟨pj, hpj⟩ : ∃ pj, pj = p1 + q := ⟨_, rfl⟩
      rw [← HP1.out, ← hpj] at hav
      have hpn : pj < n := by omega
      obtain ⟨ada, y, rfl, hada, hy, cy⟩ := (hr.below hbwx).num (k := pj) hpn
      obtain rfl : v = y := Option.some.inj (hav.symm.trans hy)
      have hv2 := HL2.out v (List.mem_of_getElem? hv)
      have w3 : IntKind.i64.wrap ((p1 : Int) + q) = pj := by rw [IntWalk.i64_in _ (by omega)]; omega
      have hq1 : q + 1 ≤ m := hltq
      have wv : IntKind.i64.wrap v = v := IntWalk.i64_in _ (by omega)
      obtain ⟨X1, hX1⟩ : ∃ X1, X1 = v - 1 := ⟨_, rfl⟩
      have wx : IntKind.i64.wrap (v - 1) = X1 := by rw [IntWalk.i64_in _ (by omega)]; exact hX1.symm
      obtain ⟨I2, hI2⟩ : ∃ I2, I2 = idxL L X1 := ⟨_, rfl⟩
      have HIx2 := Lib.hid (fun w' (hb' : Below wo.heap.size wo w') => index_int (some ad) k c0 _ L X1 w' (hrL.below (hb.trans (hb'.mono (by omega)))) (by omega))
      have hIeq : ixOf (fun x => X1 == x) L = I2 := hI2.symm
      rw [hIeq] at HIx2
      have hset : (((rs.take q).map (fun v => idxL L (v - 1)) ++ ri.drop q).map (Value.int .i64)).set q (.int .i64 I2) = ((rs.take (q + 1)).map (fun v => idxL L (v - 1)) ++ ri.drop (q + 1)).map (.int .i64) := by
       obtain ⟨z1, z2⟩ := List.getElem?_eq_some_iff.1 hv
       rw [List.map_append, List.map_drop, set_mid _ _ q _ (by rw [List.length_map, List.length_map, List.length_take]; omega) (by rw [List.length_map, HIL.out]; exact hltq), List.take_succ_eq_append_getElem z1, List.map_append, List.map_append, List.map_append, List.map_drop, z2, hI2, hX1]
       rfl
      have hown6 := own_setK HR6.out q (.int .i64 I2)
      rw [hset] at hown6
      obtain ⟨cur6, -, hgh6, -⟩ := own_open HR6.out
      have BG6 : Blk wr g6 3 cur6.toArray := hgh6
      have f6 := BG6.frozen q
      obtain ⟨ad6, u6, e6, hb6, hu6, cu6⟩ := (Reads.of_own HR6.out).num hltq
      injection e6 with e6
      subst e6
      rw [Addr.add_lit, Nat.zero_add] at cu6
      have hn5 : w5.heap.size ≠ g6 := by omega
      have hna : ada.block ≠ g6 := by have := hbw.size; omega
      have DX2 := DX.far (p := ⟨g6, q, none⟩) hn5 (.int .i64 I2)
      have hby2 := hby.setCell (p := ⟨g6, q, none⟩) (by dsimp only; omega) (.int .i64 I2)
      have hown7 := own_apart HR7.out (p := ⟨g6, q, none⟩) (fun h => hne67 g6 h rfl) (.int .i64 I2)
      have HO6' := Lib.hid hown6
      have HO7' := Lib.hid hown7
      have y1 := DX2.cell 1
      simp only [List.getElem?_toArray, List.getElem?_cons_zero, List.getElem?_cons_succ] at y1
      have y2 : (wr.setCell ⟨g6, q, none⟩ (.int .i64 I2)).cell? (ada.add pj) = some (.int .u64 v) := by
       rw [World.cell?_setCell_far _ _ _ _ (by unfold Addr.add; split <;> exact fun e => hna e.symm)]
       exact cy
      clear hv hav hy hpj hX1 hI2 hIeq hset hown6 hown7 hgh6 BG6 hv2 hu6
      go_wp2
      go_region_held3 (fun w' => w'.cell? ⟨w5.heap.size, 1, none⟩ = some (.slice (some ⟨g6, 0, none⟩) m c6) ∧ w'.cell? (ada.add pj) = some (.int .u64 v)) (go_keep)
       (first | (go_at_call 9; with_reducible refine (HIx2.out _ (hby.drew)).mono ?_; rintro e wB ⟨rfl, rfl⟩))
      all_goals
       go_wp2
       go_roundw
       case rel => exact ⟨q + 1, hq1, by go_num, HO6'.out.drew, HO7'.out.drew, DX2, hby2.drew⟩
       case measure => simp [intOf]; omega
     ·have hqm : q = m := by omega
      have g1 : decide (q < m) = false := decide_eq_false hltq
      have hR6 : wr.ownsRow wo.heap.size 3 1 (.slice A6 m c6) m ((rs.map (fun v => idxL L (v - 1))).map (.int .i64)) := by
       have := HR6.out
       rw [hqm, List.take_of_length_le (by rw [HRL.out]; exact Nat.le_refl _), List.drop_of_length_le (by rw [HIL.out]; exact Nat.le_refl _), List.append_nil] at this
       exact this
      have hobj : ObO wr (w1.heap.size + 1) (formO a S L (I : Int)) ⟨t, A6, m, c6, A7, bw, c7, fr⟩ := by
       rw [HFo.out]
       exact ⟨rfl, rfl, by rw [List.length_map]; exact HRL.out.symm, HBL.out.symm, own_mono hR6 hsz, own_mono HR7.out hsz⟩
      have HO2 := Lib.hid ((HOB.out.below hby).snoc hobj)
      have hgl := GB.lt
      have GX := (GB.below hby hgl).alloc (.cells (obvC ⟨t, A6, m, c6, A7, bw, c7, fr⟩).toArray 45)
      have gx0 := (GB.below hby hgl).cell 0
      have e0 := DX.cell 0
      have e1 := DX.cell 1
      have e2 := DX.cell 2
      have e3 := DX.cell 3
      simp only [List.getElem?_toArray, List.getElem?_cons_zero, List.getElem?_cons_succ] at gx0 e0 e1 e2 e3
      have hownO := (own_below HOW.out hby).alloc (.cells (obvC ⟨t, A6, m, c6, A7, bw, c7, fr⟩).toArray 45)
      have HO3 := Lib.hid (HO2.out.below (below_new wr (.cells (obvC ⟨t, A6, m, c6, A7, bw, c7, fr⟩).toArray 45)))
      have hbz := (hb.trans (hby.mono (by omega))).alloc (by have := hby.size; omega) (.cells (obvC ⟨t, A6, m, c6, A7, bw, c7, fr⟩).toArray 45)
      have hnew := reads_new wr (obvC ⟨t, A6, m, c6, A7, bw, c7, fr⟩) 45 1 4 rfl
      have hszr := hby.size
      have HMP : Hid ((L.take (j + 1)).map (formO a S L) = (L.take j).map (formO a S L) ++ [formO a S L (I : Int)]) := by show _ = _; rw [HT.out, List.map_append]; rfl
      have HOWn := Lib.hid hownO
      clear hqm HR6 HR7 hR6 hobj HOB HOW x1
      go_wp2_with (at_builtin; refine wpList_append_any _ rfl (.tmp 61) (.tmp 63) 24 rfl (w1.heap.size + 1) 45 i0 _ 4 64 Tryz.underlying24 hi hz0 hz1 hz2 rfl (by decide) (.slice Ao j co) j _ rfl hownO (wr.heap.size + 1) (some ⟨wr.heap.size, 0, none⟩) 1 1 (obvC ⟨t, A6, m, c6, A7, bw, c7, fr⟩) rfl hnew (by simp [obvC, Value.oneCell']) (by simp [maxLen]; omega) (by omega) (by rw [World.size_alloc]; omega) ?_; rintro v' w9 hown9 hgr - -; obtain ⟨A9, c9, rfl⟩ := own_slice hown9; have G9 := GX.grown hgr (fun h => by have := (HOWn.out.lt _ h.symm).1; omega); have p0 := G9.cell 0; have pf := G9.frozen 0; simp only [List.getElem?_toArray, List.getElem?_cons_zero] at p0)
      have hb9 := hbz.grown hgr (by rw [World.size_alloc]; omega) (fun g hg => by have := (HOWn.out.lt g hg).1; omega)
      have HO9 := Lib.hid ((HO3.out.grown HOWn.out hgr (by decide) (by decide)).far (p := ⟨w1.heap.size, 0, none⟩) (by dsimp only; omega) (.slice A9 (j + 1) c9))
      have G10 : Blk (w9.setCell ⟨w1.heap.size, 0, none⟩ (.slice A9 (j + 1) c9)) w1.heap.size 26 #[.slice A9 (j + 1) c9, .slice none 0 0] := by simpa using G9.set_ 0 (.slice A9 (j + 1) c9)
      have HW9 := Lib.hid (own_far hown9 (p := ⟨w1.heap.size, 0, none⟩) (by dsimp only; omega) (.slice A9 (j + 1) c9))
      have hgs := hgr.size
      go_roundw
      case rel =>
       refine ⟨j + 1, vs ++ [⟨t, A6, m, c6, A7, bw, c7, fr⟩], A9, c9, hj1, by go_num, G10, ?_, ?_, hb9.setCell (p := ⟨w1.heap.size, 0, none⟩) (Nat.le_refl _) _, ?_⟩
       ·show World.ownsRow _ _ _ _ _ _ _
        rw [List.flatMap_append]
        simpa using HW9.out
       ·show ObsO _ _ _ _
        rw [HMP.out]
        exact HO9.out
       ·rw [World.size_setCell]
        rw [World.size_alloc] at hgs
        omega
      case measure => simp [intOf]; omega
   ·have hjk : j = k := by omega
    have g0 : decide (j < k) = false := decide_eq_false hlt
    have HOB2 : Hid (ObsO wr (w1.heap.size + 1) (L.map (formO a S L)) vs) := by
     have := HOB.out
     rw [hjk, List.take_of_length_le (by rw [← HK.out]; exact Nat.le_refl _)] at this
     exact this
    have HOW2 : Hid (wr.ownsRow (w1.heap.size + 1) 45 4 (.slice Ao k co) k (vs.flatMap obvC)) := by have := HOW.out; rw [hjk] at this; exact this
    have GB2 : Blk wr w1.heap.size 26 #[.slice Ao k co, .slice none 0 0] := by rw [hjk] at GB; exact GB
    obtain ⟨wo, hwo⟩ : ∃ x, x = wr := ⟨wr, rfl⟩
    subst hwo
    have HTop := Lib.hid HOB2.out.top
    clear hjk HOB HOW GB
    go_wp2
    go_loopw [15, 69] (fun _ i wx => ∃ (q : Nat) (Af : Option Addr) (cf : Nat), q ≤ n2 ∧ i = .int .i64 q ∧ Blk wx w1.heap.size 26 #[.slice Ao k co, .slice Af q cf] ∧ Hid (wx.ownsRow wo.heap.size 3 1 (.slice Af q cf) q (((f.take q).map (idxL L)).map (.int .i64))) ∧
     Hid (wx.ownsRow (w1.heap.size + 1) 45 4 (.slice Ao k co) k (vs.flatMap obvC)) ∧ Hid (ObsO wx (w1.heap.size + 1) (L.map (formO a S L)) vs) ∧ Below w1.heap.size (w1.alloc (.cells #[.slice none 0 0, .slice none 0 0] 26)) wx ∧ wo.heap.size ≤ wx.heap.size) (fun _ i _ => n2 - (intOf i).toNat)
    case atStart => exact ⟨0, none, 0, Nat.zero_le _, rfl, GB2, World.ownsRow_nil _ _ _ _, HOW2, HOB2, hb, Nat.le_refl _⟩
    case round =>
     obtain ⟨q, Af, cf, hq, rfl, GX, HRF, HOWx, HOBx, hbx, hszx⟩ := hrel
     have hbwx : Below w.heap.size w wr := hb02.trans (hbx.mono hw01)
     have x0 := GX.cell 0
     have x1 := GX.cell 1
     simp only [List.getElem?_toArray, List.getElem?_cons_zero, List.getElem?_cons_succ] at x0 x1
     by_cases hltq : q < n2
     ·obtain ⟨ad, y, rfl, had, hy, cy⟩ := (hr2.below hbwx).num hltq
      have hq1 : q + 1 ≤ n2 := hltq
      obtain ⟨I2, hI2⟩ : ∃ I2, I2 = idxL L y := ⟨_, rfl⟩
      have HIx2 := Lib.hid (fun w' (hb' : Below w1.heap.size (w1.alloc (.cells #[.slice none 0 0, .slice none 0 0] 26)) w') => index_int A0 k c0 _ L y w' (hrL.below hb') (by omega))
      have hIeq : ixOf (fun x => y == x) L = I2 := hI2.symm
      rw [hIeq] at HIx2
      have HFT : Hid ((f.take (q + 1)).map (idxL L) = (f.take q).map (idxL L) ++ [I2]) := by
       show _ = _
       obtain ⟨z1, z2⟩ := List.getElem?_eq_some_iff.1 hy
       rw [List.take_succ_eq_append_getElem z1, List.map_append, z2, hI2]
       rfl
      have hszw : (wr.alloc (.cells #[.int .i64 I2] 3)).drew.heap.size = wr.heap.size + 1 := World.size_alloc _ _
      have hO4 := (HRF.out.alloc (.cells #[.int .i64 I2] 3)).drew
      obtain ⟨v9, w9, hrun, hO9, hg9, hor9, -⟩ := run_append_any (P := Tryz.prog) (wr.alloc (.cells #[.int .i64 I2] 3)).drew wo.heap.size 23 23 3 j0 (.int .i64 0) 1 8 Tryz.underlying23 ji jz0 jz1 jz2 rfl (by decide) (.slice Af q cf) q _ hO4 _ (some ⟨wr.heap.size, 0, none⟩) 1 1 [.int .i64 I2] (reads_new wr [.int .i64 I2] 3 1 1 rfl) (by simp [Value.oneCell']) (by unfold maxLen; omega) (by omega) (by rw [hszw]; omega)
      obtain ⟨A9, c9, rfl⟩ := own_slice hO9
      have hcur := fun g hg => (hO4.lt g hg).1
      have hGlt := GX.lt
      have G9 := ((GX.alloc (.cells #[.int .i64 I2] 3)).drew).grown hg9 (fun h => by have := hcur _ h.symm; have := G1.lt; omega)
      have G10 : Blk (w9.setCell ⟨w1.heap.size, 1, none⟩ (.slice A9 (q + 1) c9)) w1.heap.size 26 #[.slice Ao k co, .slice A9 (q + 1) c9] := by simpa using G9.set_ 1 (.slice A9 (q + 1) c9)
      have hOW9 := own_grown ((HOWx.out.alloc (.cells #[.int .i64 I2] 3)).drew) hg9 (fun g hg h => own_types hO4 ((HOWx.out.alloc (.cells #[.int .i64 I2] 3)).drew) (by decide) h hg)
      have hOB9 := ((HOBx.out.below (below_new wr (.cells #[.int .i64 I2] 3))).drew).apart hg9 (fun v hv g hg h => by have := hcur _ h; have := HTop.out v hv g hg; omega)
      have hb9 := ((hbx.alloc (by have := hbx.size; rw [World.size_alloc] at this; omega) (.cells #[.int .i64 I2] 3)).drew).grown hg9 (by rw [hszw]; omega) (fun g hg => by have := hcur g hg; omega)
      have HOW10 := Lib.hid (own_far hOW9 (p := ⟨w1.heap.size, 1, none⟩) (by dsimp only; omega) (.slice A9 (q + 1) c9))
      have HOB10 := Lib.hid (hOB9.far (p := ⟨w1.heap.size, 1, none⟩) (by dsimp only; omega) (.slice A9 (q + 1) c9))
      have HRF10 : Hid ((w9.setCell ⟨w1.heap.size, 1, none⟩ (.slice A9 (q + 1) c9)).ownsRow wo.heap.size 3 1 (.slice A9 (q + 1) c9) (q + 1) (((f.take (q + 1)).map (idxL L)).map (.int .i64))) := by
       show World.ownsRow _ _ _ _ _ _ _
       rw [HFT.out, List.map_append]
       exact own_far hO9 (p := ⟨w1.heap.size, 1, none⟩) (by dsimp only; have := G1.lt; omega) _
      have hb10 := hb9.setCell (p := ⟨w1.heap.size, 1, none⟩) (Nat.le_refl _) (.slice A9 (q + 1) c9)
      have hs10 : wo.heap.size ≤ (w9.setCell ⟨w1.heap.size, 1, none⟩ (.slice A9 (q + 1) c9)).heap.size := by rw [World.size_setCell]; have := hg9.size; rw [hszw] at this; omega
      have HRun := Lib.hid hrun
      have p1 := G9.cell 1
      have pf := G9.frozen 1
      have l1 := (GX.alloc (.cells #[.int .i64 I2] 3)).cell 1
      have l2 := GX.drew.cell 1
      simp only [List.getElem?_toArray, List.getElem?_cons_zero, List.getElem?_cons_succ] at p1 l1 l2
      have hbdr := hbx.drew
      clear hy hI2 hIeq hrun hO4 hO9 hg9 hor9 hOW9 hOB9 hb9 G9 hcur HRF HOWx HOBx
      go_wp2
      refine wp_region_held_drew (S := fun _ => True) (by kernel_rfl) trivial (fun hHeld => ?_)
      refine wpAnyH_take (i := 0) (v := .pointer (some ⟨w1.heap.size, 1, none⟩)) (List.getElem?_toArray.trans rfl) (by kernel_rfl) (by kernel_rfl) (by kernel_rfl) (fun _ _ _ h => h) (Or.inl ⟨by rfl, fun w _ => by go_simp⟩) hHeld ?_
      try simp only [Act.put, List.setIfInBounds_toArray, List.set_cons_zero, List.set_cons_succ]
      refine wpAnyH_take (i := 2) (v := .slice A0 k c0) (List.getElem?_toArray.trans rfl) (by kernel_rfl) (by kernel_rfl) (by kernel_rfl) (fun _ _ _ h => h) (Or.inl ⟨by rfl, fun w _ => by go_simp⟩) hHeld ?_
      try simp only [Act.put, List.setIfInBounds_toArray, List.set_cons_zero, List.set_cons_succ]
      refine wpAnyH_take (i := 3) (v := .int .i64 y) (List.getElem?_toArray.trans rfl) (by kernel_rfl) (by kernel_rfl) (by kernel_rfl) (fun _ _ _ h => h) (Or.inl ⟨by rfl, fun w _ => by go_simp⟩) hHeld ?_
      try simp only [Act.put, List.setIfInBounds_toArray, List.set_cons_zero, List.set_cons_succ]
      refine wpAnyH_ready (rs := [1, 4]) (by kernel_rfl) (by simp) (AllReadyH.cons (List.getElem?_toArray.trans rfl) (fun K hK => ?_) (AllReadyH.cons (List.getElem?_toArray.trans rfl) (fun K hK => ?_) AllReadyH.nil))
      ·go_simp
       refine hK.out _ _ trivial (fun hHeld => ?_)
       clear hK K
       try simp only [Act.put, List.setIfInBounds_toArray, List.set_cons_zero, List.set_cons_succ]
       refine wpAnyH_ready (rs := [4]) (by kernel_rfl) (by simp) (AllReadyH.cons (List.getElem?_toArray.trans rfl) (fun K hK => ?_) AllReadyH.nil)
       go_simp
       go_at_call 9
       with_reducible refine (HIx2.out _ hbdr).mono ?_; rintro e wB ⟨rfl, rfl⟩
       refine hK.out _ _ trivial (fun hHeld => ?_)
       clear hK K
       try simp only [Act.put, List.setIfInBounds_toArray, List.set_cons_zero, List.set_cons_succ]
       refine wpAnyH_ready (rs := [5]) (by kernel_rfl) (by simp) (AllReadyH.cons (List.getElem?_toArray.trans rfl) (fun K hK => ?_) AllReadyH.nil)
       go_simp
       refine hK.out _ _ trivial (fun hHeld => ?_)
       clear hK K
       try simp only [Act.put, List.setIfInBounds_toArray, List.set_cons_zero, List.set_cons_succ]
       refine wpAnyH_ready (rs := [6]) (by kernel_rfl) (by simp) (AllReadyH.cons (List.getElem?_toArray.trans rfl) (fun K hK => ?_) AllReadyH.nil)
       refine step_append_run rfl (.tmp 74) (.tmp 78) 23 23 rfl (.slice Af q cf) (.slice (some ⟨wr.heap.size, 0, none⟩) 1 1) (by simp [Act.eval]) (by simp [Act.eval]) HRun.out ?_
       refine hK.out _ _ trivial (fun hHeld => ?_)
       clear hK K
       try simp only [Act.put, List.setIfInBounds_toArray, List.set_cons_zero, List.set_cons_succ]
       refine wpAnyH_take (i := 7) (v := .pointer (some ⟨w1.heap.size, 1, none⟩)) (List.getElem?_toArray.trans rfl) (by kernel_rfl) (by kernel_rfl) (by kernel_rfl) (fun _ _ _ h => h) (Or.inl ⟨by rfl, fun w _ => by go_simp⟩) hHeld ?_
       try simp only [Act.put, List.setIfInBounds_toArray, List.set_cons_zero, List.set_cons_succ]
       refine wpAnyH_ready (rs := [8]) (by kernel_rfl) (by simp) (AllReadyH.cons (List.getElem?_toArray.trans rfl) (fun K hK => ?_) AllReadyH.nil)
       go_simp
       refine hK.out _ _ trivial (fun hHeld => ?_)
       clear hK K
       try simp only [Act.put, List.setIfInBounds_toArray, List.set_cons_zero, List.set_cons_succ]
       refine wpAnyH_done (by kernel_rfl) ?_ _
       go_wp2
       go_roundw
       case rel => exact ⟨q + 1, A9, c9, hq1, by go_num, G10, HRF10, HOW10, HOB10, hb10, hs10⟩
       case measure => simp [intOf]; omega
      ·go_simp
       go_at_call 9
       with_reducible refine (HIx2.out _ hbdr).mono ?_; rintro e wB ⟨rfl, rfl⟩
       refine hK.out _ _ trivial (fun hHeld => ?_)
       clear hK K
       try simp only [Act.put, List.setIfInBounds_toArray, List.set_cons_zero, List.set_cons_succ]
       refine wpAnyH_ready (rs := [1, 5]) (by kernel_rfl) (by simp) (AllReadyH.cons (List.getElem?_toArray.trans rfl) (fun K hK => ?_) (AllReadyH.cons (List.getElem?_toArray.trans rfl) (fun K hK => ?_) AllReadyH.nil))
       ·go_simp
        refine hK.out _ _ trivial (fun hHeld => ?_)
        clear hK K
        try simp only [Act.put, List.setIfInBounds_toArray, List.set_cons_zero, List.set_cons_succ]
        refine wpAnyH_ready (rs := [5]) (by kernel_rfl) (by simp) (AllReadyH.cons (List.getElem?_toArray.trans rfl) (fun K hK => ?_) AllReadyH.nil)
        go_simp
        refine hK.out _ _ trivial (fun hHeld => ?_)
        clear hK K
        try simp only [Act.put, List.setIfInBounds_toArray, List.set_cons_zero, List.set_cons_succ]
        refine wpAnyH_ready (rs := [6]) (by kernel_rfl) (by simp) (AllReadyH.cons (List.getElem?_toArray.trans rfl) (fun K hK => ?_) AllReadyH.nil)
        refine step_append_run rfl (.tmp 74) (.tmp 78) 23 23 rfl (.slice Af q cf) (.slice (some ⟨wr.heap.size, 0, none⟩) 1 1) (by simp [Act.eval]) (by simp [Act.eval]) HRun.out ?_
        refine hK.out _ _ trivial (fun hHeld => ?_)
        clear hK K
        try simp only [Act.put, List.setIfInBounds_toArray, List.set_cons_zero, List.set_cons_succ]
        refine wpAnyH_take (i := 7) (v := .pointer (some ⟨w1.heap.size, 1, none⟩)) (List.getElem?_toArray.trans rfl) (by kernel_rfl) (by kernel_rfl) (by kernel_rfl) (fun _ _ _ h => h) (Or.inl ⟨by rfl, fun w _ => by go_simp⟩) hHeld ?_
        try simp only [Act.put, List.setIfInBounds_toArray, List.set_cons_zero, List.set_cons_succ]
        refine wpAnyH_ready (rs := [8]) (by kernel_rfl) (by simp) (AllReadyH.cons (List.getElem?_toArray.trans rfl) (fun K hK => ?_) AllReadyH.nil)
        go_simp
        refine hK.out _ _ trivial (fun hHeld => ?_)
        clear hK K
        try simp only [Act.put, List.setIfInBounds_toArray, List.set_cons_zero, List.set_cons_succ]
        refine wpAnyH_done (by kernel_rfl) ?_ _
        go_wp2
        go_roundw
        case rel => exact ⟨q + 1, A9, c9, hq1, by go_num, G10, HRF10, HOW10, HOB10, hb10, hs10⟩
        case measure => simp [intOf]; omega
       ·go_simp
        refine hK.out _ _ trivial (fun hHeld => ?_)
        clear hK K
        try simp only [Act.put, List.setIfInBounds_toArray, List.set_cons_zero, List.set_cons_succ]
        refine wpAnyH_ready (rs := [1]) (by kernel_rfl) (by simp) (AllReadyH.cons (List.getElem?_toArray.trans rfl) (fun K hK => ?_) AllReadyH.nil)
        go_simp
        refine hK.out _ _ trivial (fun hHeld => ?_)
        clear hK K
        try simp only [Act.put, List.setIfInBounds_toArray, List.set_cons_zero, List.set_cons_succ]
        refine wpAnyH_ready (rs := [6]) (by kernel_rfl) (by simp) (AllReadyH.cons (List.getElem?_toArray.trans rfl) (fun K hK => ?_) AllReadyH.nil)
        refine step_append_run rfl (.tmp 74) (.tmp 78) 23 23 rfl (.slice Af q cf) (.slice (some ⟨wr.heap.size, 0, none⟩) 1 1) (by simp [Act.eval]) (by simp [Act.eval]) HRun.out ?_
        refine hK.out _ _ trivial (fun hHeld => ?_)
        clear hK K
        try simp only [Act.put, List.setIfInBounds_toArray, List.set_cons_zero, List.set_cons_succ]
        refine wpAnyH_take (i := 7) (v := .pointer (some ⟨w1.heap.size, 1, none⟩)) (List.getElem?_toArray.trans rfl) (by kernel_rfl) (by kernel_rfl) (by kernel_rfl) (fun _ _ _ h => h) (Or.inl ⟨by rfl, fun w _ => by go_simp⟩) hHeld ?_
        try simp only [Act.put, List.setIfInBounds_toArray, List.set_cons_zero, List.set_cons_succ]
        refine wpAnyH_ready (rs := [8]) (by kernel_rfl) (by simp) (AllReadyH.cons (List.getElem?_toArray.trans rfl) (fun K hK => ?_) AllReadyH.nil)
        go_simp
        refine hK.out _ _ trivial (fun hHeld => ?_)
        clear hK K
        try simp only [Act.put, List.setIfInBounds_toArray, List.set_cons_zero, List.set_cons_succ]
        refine wpAnyH_done (by kernel_rfl) ?_ _
        go_wp2
        go_roundw
        case rel => exact ⟨q + 1, A9, c9, hq1, by go_num, G10, HRF10, HOW10, HOB10, hb10, hs10⟩
        case measure => simp [intOf]; omega
     ·have hqn : q = n2 := by omega
      have g1 : decide (q < n2) = false := decide_eq_false hltq
      have HRF2 : Hid (wr.ownsRow w.heap.size 3 1 (.slice Af n2 cf) n2 ((f.map (idxL L)).map (.int .i64))) := by
       have := HRF.out
       rw [hqn, List.take_of_length_le (by rw [HFL.out]; exact Nat.le_refl _)] at this
       exact own_mono this (by omega)
      have HQN := Lib.hid hqn
      have R4 : Blk wr w.heap.size 26 #[.slice none 0 0, .slice none 0 0] := R2.below hbx hRlt
      have f0 := R4.frozen 0
      have f1 := R4.frozen 1
      have r0 := R4.cell 0
      have r1 := R4.cell 1
      simp only [List.getElem?_toArray, List.getElem?_cons_zero, List.getElem?_cons_succ] at r0 r1
      have HBW := Lib.hid hbwx
      have HOW3 := Lib.hid (own_far (own_far HOWx.out (p := ⟨w.heap.size, 0, none⟩) (by dsimp only; omega) (.slice Ao k co)) (p := ⟨w.heap.size, 1, none⟩) (by dsimp only; omega) (.slice Af q cf))
      have HOB3 := Lib.hid ((HOBx.out.far (p := ⟨w.heap.size, 0, none⟩) (by dsimp only; omega) (.slice Ao k co)).far (p := ⟨w.heap.size, 1, none⟩) (by dsimp only; omega) (.slice Af q cf))
      have HRF3 : Hid (((wr.setCell ⟨w.heap.size, 0, none⟩ (.slice Ao k co)).setCell ⟨w.heap.size, 1, none⟩ (.slice Af q cf)).ownsRow w.heap.size 3 1 (.slice Af n2 cf) n2 ((f.map (idxL L)).map (.int .i64))) := by
       have h1 : wr.ownsRow wo.heap.size 3 1 (.slice Af n2 cf) n2 ((f.map (idxL L)).map (.int .i64)) := by
        have := HRF.out
        rw [hqn, List.take_of_length_le (by rw [HFL.out]; exact Nat.le_refl _)] at this
        exact this
       exact own_mono (own_far (own_far h1 (p := ⟨w.heap.size, 0, none⟩) (by dsimp only; omega) (.slice Ao k co)) (p := ⟨w.heap.size, 1, none⟩) (by dsimp only; omega) (.slice Af q cf)) (by omega)
      have HKL : Hid ((L.map (formO a S L)).length = k) := by show _ = _; rw [List.length_map]; exact HK.out.symm
      have HFRL : Hid ((f.map (idxL L)).length = n2) := by show _ = _; rw [List.length_map]; exact HFL.out
      clear hqn HRF HRF2
      go_wp2
      refine bodyPost_ret (v := .tuple #[.agg #[.slice Ao k co, .slice Af q cf], .int .i64 0]) ?_ rfl ⟨?_, .inl ⟨HALL.out, L.map (formO a S L), f.map (idxL L), vs, Ao, co, Af, cf, HFi.out, by rw [HKL.out]; exact hL256, HFRL.out, ?_, ?_, ?_, ?_⟩⟩
      ·simp only [results, Tryz.results4]
       go_simp
      ·exact (HBW.out.setCell (p := ⟨w.heap.size, 0, none⟩) (Nat.le_refl _) _).setCell (p := ⟨w.heap.size, 1, none⟩) (Nat.le_refl _) _
      ·rw [HKL.out, HQN.out]
      ·rw [HKL.out]
       exact own_mono HOW3.out (by omega)
      ·exact HOB3.out.mono (by omega)
      ·exact HRF3.out
 ·have HEX : Hid (¬ ∀ x ∈ f, x ∈ begsL S) := fun h => by
   obtain ⟨x, hx, hx2⟩ := hex
   exact hx2 (h x hx)
  clear hex
  have R1 := R0.below hb1 R0.lt
  have r0 := R1.cell 0
  have r1 := R1.cell 1
  have f0 := R1.frozen 0
  have f1 := R1.frozen 1
  simp only [List.getElem?_toArray, List.getElem?_cons_zero, List.getElem?_cons_succ] at r0 r1
  have hb01 := below_step hb0 hb1
  have hw1 := R1.lt
  go_wp2
  refine bodyPost_ret (v := .tuple #[.agg #[.slice none 0 0, .slice none 0 0], .int .i64 5]) ?_ rfl ⟨?_, .inr ⟨HEX.out, 5, rfl, rfl⟩⟩
  ·simp only [results, Tryz.results4]
   go_simp
  ·iterate 2 refine Below.setCell ?_ (by dsimp only; omega) _
   exact hb01
def refT (φ : Int → Int) (v : Int) : Int := if v = 0 then 0 else φ (v - 1) + 1
structure Iso (a b L : List Int) (φ : Int → Int) : Prop where
 nn : ∀ x ∈ L, 0 ≤ φ x
 inj : ∀ x ∈ L, ∀ y ∈ L, φ x = φ y → x = y
 at_ : ∀ x ∈ L, ∀ s, spotAt (spotsL a) x = some s → ∃ s', spotAt (spotsL b) (φ x) = some s' ∧ s'.r = s.r ∧ s'.b = s.b ∧ s'.t = s.t ∧ bodyOf b s' = bodyOf a s ∧ refsOf b s' = (refsOf a s).map (refT φ)
structure ClosedL (a L : List Int) : Prop where
 begs : ∀ x ∈ L, x ∈ begsL (spotsL a)
 closed : ∀ x ∈ L, ∀ y ∈ linksAt a (spotsL a) x, y ∈ L
 nn : ∀ x ∈ L, 0 ≤ x
theorem linksT {φ : Int → Int} : ∀ (l : List Int), (∀ v ∈ l, v ≠ 0 → 0 ≤ φ (v - 1)) → (((l.map (refT φ)).filter fun v => v != 0).map fun v => v - 1) = ((l.filter fun v => v != 0).map fun v => v - 1).map φ := by
 intro l
 induction l with
 | nil => intro _; rfl
 | cons v l ih =>
   intro h
   have ih' := ih (fun u hu => h u (List.mem_cons_of_mem _ hu))
   rw [List.map_cons]
   by_cases h0 : v = 0
   ·have e : refT φ v = 0 := by unfold refT; rw [if_pos h0]
    rw [e, List.filter_cons_of_neg (by simp), List.filter_cons_of_neg (by simp [h0])]
    exact ih'
   ·have e : refT φ v = φ (v - 1) + 1 := by unfold refT; rw [if_neg h0]
    have hp := h v List.mem_cons_self h0
    rw [e, List.filter_cons_of_pos (by simp; omega), List.filter_cons_of_pos (by simp [h0]), List.map_cons, List.map_cons, List.map_cons, ih']
    congr 1
    omega
section
variable {a b L : List Int} {φ : Int → Int}
theorem Iso.link_of (hC : ClosedL a L) {x : Int} (hx : x ∈ L) {s : Spot} (hs : spotAt (spotsL a) x = some s) : ∀ v ∈ refsOf a s, v ≠ 0 → v - 1 ∈ L := fun v hv h0 => by
 refine hC.closed x hx (v - 1) ?_
 unfold linksAt
 rw [hs]
 exact List.mem_map.2 ⟨v, List.mem_filter.2 ⟨hv, by simpa using h0⟩, rfl⟩
theorem Iso.links (h : Iso a b L φ) (hC : ClosedL a L) {x : Int} (hx : x ∈ L) : linksAt b (spotsL b) (φ x) = (linksAt a (spotsL a) x).map φ := by
 obtain ⟨s, hs⟩ := begsL_iff.1 (hC.begs x hx)
 obtain ⟨s', hs', -, -, -, -, hr⟩ := h.at_ x hx s hs
 unfold linksAt
 rw [hs, hs']
 show linksL b s' = (linksL a s).map φ
 unfold linksL
 rw [hr]
 exact linksT _ (fun v hv h0 => h.nn _ (Iso.link_of hC hx hs v hv h0))
theorem Iso.addL (h : Iso a b L φ) {out : List Int} (ho : ∀ y ∈ out, y ∈ L) {x : Int} (hx : x ∈ L) : addL (out.map φ) (φ x) = (addL out x).map φ := by
 unfold Proofs.YtblkhipbhahmeaaGreatDoor.addL
 by_cases hm : x ∈ out
 ·rw [if_pos hm, if_pos (List.mem_map.2 ⟨x, hm, rfl⟩)]
 ·rw [if_neg hm, if_neg (fun hh => by
   obtain ⟨y, hy, e⟩ := List.mem_map.1 hh
   exact hm (h.inj y (ho y hy) x hx e ▸ hy)), List.map_append]
  rfl
theorem Iso.addL_in {out : List Int} (ho : ∀ y ∈ out, y ∈ L) {x : Int} (hx : x ∈ L) : ∀ y ∈ Proofs.YtblkhipbhahmeaaGreatDoor.addL out x, y ∈ L := fun y hy => by
 rcases addL_mem hy with h1 | rfl
 ·exact ho y h1
 ·exact hx
theorem Iso.fold (h : Iso a b L φ) : ∀ (l out : List Int), (∀ y ∈ out, y ∈ L) → (∀ y ∈ l, y ∈ L) → (l.map φ).foldl Proofs.YtblkhipbhahmeaaGreatDoor.addL (out.map φ) = (l.foldl Proofs.YtblkhipbhahmeaaGreatDoor.addL out).map φ ∧ ∀ y ∈ l.foldl Proofs.YtblkhipbhahmeaaGreatDoor.addL out, y ∈ L
 | [], out, ho, _ => ⟨rfl, ho⟩
 | x :: l, out, ho, hl => by
   have hx := hl x List.mem_cons_self
   have ih := Iso.fold h l (Proofs.YtblkhipbhahmeaaGreatDoor.addL out x) (Iso.addL_in ho hx) (fun y hy => hl y (List.mem_cons_of_mem _ hy))
   rw [List.map_cons, List.foldl_cons, List.foldl_cons, h.addL ho hx]
   exact ih
theorem Iso.bfs (h : Iso a b L φ) (hC : ClosedL a L) {f : List Int} (hf : ∀ y ∈ f, y ∈ L) : ∀ n, bfsL b (spotsL b) (f.map φ) n = (bfsL a (spotsL a) f n).map φ ∧ ∀ y ∈ bfsL a (spotsL a) f n, y ∈ L
 | 0 => by
   have := h.fold f [] (fun y hy => by cases hy) hf
   exact this
 | n + 1 => by
   obtain ⟨i1, i2⟩ := Iso.bfs h hC hf n
   show (match (bfsL b (spotsL b) (f.map φ) n)[n]? with | some x => (linksAt b (spotsL b) x).foldl Proofs.YtblkhipbhahmeaaGreatDoor.addL (bfsL b (spotsL b) (f.map φ) n) | none => bfsL b (spotsL b) (f.map φ) n) = _ ∧ ∀ y ∈ (match (bfsL a (spotsL a) f n)[n]? with | some x => (linksAt a (spotsL a) x).foldl Proofs.YtblkhipbhahmeaaGreatDoor.addL (bfsL a (spotsL a) f n) | none => bfsL a (spotsL a) f n), y ∈ L
   rw [i1, List.getElem?_map]
   have e : bfsL a (spotsL a) f (n + 1) = (match (bfsL a (spotsL a) f n)[n]? with | some x => (linksAt a (spotsL a) x).foldl Proofs.YtblkhipbhahmeaaGreatDoor.addL (bfsL a (spotsL a) f n) | none => bfsL a (spotsL a) f n) := rfl
   rw [e]
   cases hx : (bfsL a (spotsL a) f n)[n]? with
   | none => exact ⟨rfl, i2⟩
   | some x =>
     have hxL := i2 x (List.mem_of_getElem? hx)
     simp only [Option.map_some]
     rw [h.links hC hxL]
     exact h.fold _ _ i2 (hC.closed x hxL)
theorem idxL_map (h : Iso a b L φ) {M : List Int} (hM : ∀ y ∈ M, y ∈ L) {y : Int} (hy : y ∈ L) : idxL (M.map φ) (φ y) = idxL M y := by
 unfold idxL ixOf
 rw [List.findIdx?_map]
 have e : M.findIdx? ((fun x => φ y == x) ∘ φ) = M.findIdx? (fun x => y == x) := by
  revert hM
  induction M with
  | nil => intro _; rfl
  | cons m M ih =>
    intro hM
    have hm := hM m List.mem_cons_self
    rw [List.findIdx?_cons, List.findIdx?_cons, ih (fun z hz => hM z (List.mem_cons_of_mem _ hz))]
    have e : ((fun x => φ y == x) ∘ φ) m = (y == m) := by
     show (φ y == φ m) = (y == m)
     rw [Bool.eq_iff_iff, beq_iff_eq, beq_iff_eq]
     exact ⟨fun e => h.inj y hy m hm e, fun e => by rw [e]⟩
    rw [e]
 rw [e]
theorem idxL_neg {M : List Int} (hM : ∀ y ∈ M, 0 ≤ y) : idxL M (-1) = -1 := ixOf_none (fun x hx => by have := hM x hx; simp; omega)
theorem form_iso (h : Iso a b L φ) (hC : ClosedL a L) {f : List Int} (hf : ∀ y ∈ f, y ∈ L) {os os' : List Ob} {fr fr' : List Int} (hF : FormIs a f os fr) (hF' : FormIs b (f.map φ) os' fr') : os = os' ∧ fr = fr' := by
 obtain ⟨M, h1, rfl, rfl⟩ := hF
 obtain ⟨M', h1', rfl, rfl⟩ := hF'
 have hb := h.bfs hC hf M.length
 have hM : ∀ y ∈ M, y ∈ L := fun y hy => hb.2 y (h1.fn ▸ hy)
 have e : M' = M.map φ := by
  refine bfsL_unique h1'.fn ?_
  rw [List.length_map, hb.1, ← h1.fn]
 subst e
 constructor
 ·rw [List.map_map]
  refine List.map_congr_left (fun x hx => ?_)
  have hxL := hM x hx
  obtain ⟨s, hs⟩ := begsL_iff.1 (hC.begs x hxL)
  obtain ⟨s', hs', e1, e2, e3, e4, e5⟩ := h.at_ x hxL s hs
  show formO a (spotsL a) M x = formO b (spotsL b) (M.map φ) (φ x)
  unfold formO
  rw [hs, hs']
  dsimp only
  rw [e3, e4, e5, (spotAt_some hs).2.1, (spotAt_some hs').2.1, List.map_map]
  congr 1
  refine List.map_congr_left (fun v hv => ?_)
  show idxL M (v - 1) = idxL (M.map φ) (refT φ v - 1)
  by_cases h0 : v = 0
  ·subst h0
   have e6 : refT φ 0 = 0 := rfl
   rw [e6]
   show idxL M (-1) = idxL (M.map φ) (-1)
   rw [idxL_neg (fun y hy => hC.nn y (hM y hy)), idxL_neg (fun y hy => by
    obtain ⟨z, hz, rfl⟩ := List.mem_map.1 hy
    exact h.nn z (hM z hz))]
  ·have e6 : refT φ v - 1 = φ (v - 1) := by unfold refT; rw [if_neg h0]; omega
   rw [e6, idxL_map h hM (Iso.link_of hC hxL hs v hv h0)]
 ·rw [List.map_map]
  refine List.map_congr_left (fun x hx => ?_)
  exact (idxL_map h hM (hf x hx)).symm
end
theorem spotsFrom_app : ∀ (cs ds : List Chk) (i : Nat), spotsFrom i (cs ++ ds) = spotsFrom i cs ++ spotsFrom (i + (chunksW cs).length) ds
 | [], ds, i => by simp [spotsFrom, chunksW]
 | c :: cs, ds, i => by
   rw [List.cons_append, chunksW_cons, List.length_append, chkW_length]
   simp only [spotsFrom]
   rw [spotsFrom_app cs ds, List.cons_append, Nat.add_assoc]
theorem spotsFrom_low : ∀ (cs : List Chk) (i : Nat), ∀ s ∈ spotsFrom i cs, (i : Int) ≤ s.loc ∧ s.loc < i + (chunksW cs).length
 | [], i => by simp [spotsFrom]
 | c :: cs, i => by
   intro s hs
   rw [chunksW_cons, List.length_append, chkW_length]
   have hp : 1 ≤ c.len := by unfold Chk.len; omega
   simp only [spotsFrom, List.mem_cons] at hs
   rcases hs with rfl | hs
   ·simp only [Chk.spot]; omega
   ·have := spotsFrom_low cs (i + c.len) s hs
    omega
theorem split_at (pre suf : List Chk) (c : Chk) (hf : c.f = false) : spotAt (spotsFrom 0 (pre ++ c :: suf)) (chunksW pre).length = some (c.spot (chunksW pre).length) := by
 unfold spotAt
 rw [spotsFrom_app, List.find?_append]
 have h1 : (spotsFrom 0 pre).find? (isBeg (chunksW pre).length) = none := by
  rw [List.find?_eq_none]
  intro s hs
  have := spotsFrom_low pre 0 s hs
  simp only [isBeg, Bool.and_eq_true, beq_iff_eq, not_and]
  intro _
  omega
 rw [h1, Nat.zero_add]
 simp only [spotsFrom, Option.none_or]
 rw [List.find?_cons_of_pos]
 simp [isBeg, Chk.spot, hf]
theorem split_refs (pre suf : List Chk) (c : Chk) (hc : c.ok) : refsOf (chunksW (pre ++ c :: suf)) (c.spot (chunksW pre).length) = c.pay.take c.r.toNat ∧ bodyOf (chunksW (pre ++ c :: suf)) (c.spot (chunksW pre).length) = c.pay.drop c.r.toNat := by
 have hE := headE_ok.1 hc.1
 have hp := hc.2
 rw [chunksW_append, chunksW_cons, chkW]
 simp only [refsOf, bodyOf, Chk.spot, Int.toNat_natCast]
 constructor
 ·rw [List.drop_append, List.drop_of_length_le (by omega), List.nil_append, show (chunksW pre).length + 1 - (chunksW pre).length = 1 by omega, List.cons_append, List.drop_succ_cons, List.drop_zero, List.take_append_of_le_length (by omega)]
 ·rw [List.drop_append, List.drop_of_length_le (by omega), List.nil_append, show (chunksW pre).length + 1 + c.r.toNat - (chunksW pre).length = c.r.toNat + 1 by omega, List.cons_append, List.drop_succ_cons, List.drop_append_of_le_length (by omega), List.take_append_of_le_length (by rw [List.length_drop]; omega), List.take_of_length_le (by rw [List.length_drop]; omega)]
end Go.Proofs.YtblkhipbhahmeaaGreatDoor
