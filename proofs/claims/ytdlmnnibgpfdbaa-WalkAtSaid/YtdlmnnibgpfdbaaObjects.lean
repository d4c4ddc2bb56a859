/-
  package walk: Objects.
-/
import Derived.Test.YtdlmnnibgpfdbaaAt
namespace Go.Proofs.Ytdlmnnibgpfdbaa
open Go.RowKit

/-- An object as a value: its slices by address, length and capacity. -/
structure ObV where
  t : Int
  A1 : Option Addr
  n1 : Nat
  c1 : Nat
  A2 : Option Addr
  n2 : Nat
  c2 : Nat
  f : Bool
def obvC (v : ObV) : List Value := [.int .i64 v.t, .slice v.A1 v.n1 v.c1, .slice v.A2 v.n2 v.c2, .bool v.f]
/-- Object o is what v's slices read as, below block B. -/
def ObR (w : World) (B : Nat) (o : Ob) (v : ObV) : Prop :=
  v.t = o.t ∧ v.f = o.f ∧ v.n1 ≤ v.c1 ∧ v.n2 ≤ v.c2 ∧ v.n1 = o.refs.length ∧ v.n2 = o.body.length ∧ Reads w B 1 v.A1 v.n1 (o.refs.map (.int .i64)) ∧ Reads w B 1 v.A2 v.n2 (o.body.map (.int .u64))
/-- .. owned, from block base on. -/
def ObO (w : World) (base : Nat) (o : Ob) (v : ObV) : Prop :=
  v.t = o.t ∧ v.f = o.f ∧ v.n1 = o.refs.length ∧ v.n2 = o.body.length ∧ w.ownsRow base 3 1 (.slice v.A1 v.n1 v.c1) v.n1 (o.refs.map (.int .i64)) ∧ w.ownsRow base 29 1 (.slice v.A2 v.n2 v.c2) v.n2 (o.body.map (.int .u64))
def ObsR (w : World) (B : Nat) (os : List Ob) (vs : List ObV) : Prop := os.length = vs.length ∧ ∀ (i : Nat) (o : Ob) (v : ObV), os[i]? = some o → vs[i]? = some v → ObR w B o v
def ObsO (w : World) (base : Nat) (os : List Ob) (vs : List ObV) : Prop := os.length = vs.length ∧ ∀ (i : Nat) (o : Ob) (v : ObV), os[i]? = some o → vs[i]? = some v → ObO w base o v

theorem ObR.keep {w w' : World} {B B' : Nat} {o : Ob} {v : ObV} (h : ObR w B o v) (hb : Below B w w') (hB : B ≤ B') : ObR w' B' o v := by
  obtain ⟨h1, h2, h3, h4, h5, h6, h7, h8⟩ := h
  exact ⟨h1, h2, h3, h4, h5, h6, (h7.below hb).more hB, (h8.below hb).more hB⟩
theorem ObsR.keep {w w' : World} {B B' : Nat} {os : List Ob} {vs : List ObV} (h : ObsR w B os vs) (hb : Below B w w') (hB : B ≤ B') : ObsR w' B' os vs :=
  ⟨h.1, fun i o v ho hv => (h.2 i o v ho hv).keep hb hB⟩
theorem ObO.reads {w : World} {base : Nat} {o : Ob} {v : ObV} (h : ObO w base o v) : ObR w w.heap.size o v := by
  obtain ⟨h1, h2, h3, h4, h5, h6⟩ := h
  exact ⟨h1, h2, own_cap h5, own_cap h6, h3, h4, Reads.of_own h5, Reads.of_own h6⟩
theorem ObsO.reads {w : World} {base : Nat} {os : List Ob} {vs : List ObV} (h : ObsO w base os vs) : ObsR w w.heap.size os vs :=
  ⟨h.1, fun i o v ho hv => (h.2 i o v ho hv).reads⟩
theorem ObsO.below {w w' : World} {base : Nat} {os : List Ob} {vs : List ObV} (h : ObsO w base os vs) (hb : Below w.heap.size w w') : ObsO w' base os vs :=
  ⟨h.1, fun i o v ho hv => by
    obtain ⟨h1, h2, h3, h4, h5, h6⟩ := h.2 i o v ho hv
    exact ⟨h1, h2, h3, h4, own_below h5 hb, own_below h6 hb⟩⟩
theorem ObsO.mono {w : World} {base base' : Nat} {os : List Ob} {vs : List ObV} (h : ObsO w base' os vs) (hb : base ≤ base') : ObsO w base os vs :=
  ⟨h.1, fun i o v ho hv => by
    obtain ⟨h1, h2, h3, h4, h5, h6⟩ := h.2 i o v ho hv
    exact ⟨h1, h2, h3, h4, own_mono h5 hb, own_mono h6 hb⟩⟩
theorem own_types {w : World} {base base' size size' n n' : Nat} {e e' : TypeId} {v v' : Value} {xs xs' : List Value} (h : w.ownsRow base e size v n xs) (h' : w.ownsRow base' e' size' v' n' xs') (hne : e ≠ e') {g : Nat} (hg : v.ownBlock = some g) : v'.ownBlock ≠ some g := by
  intro hg'
  rcases h.2 with ⟨rfl, _⟩ | ⟨g1, cap, cur, rfl, _, hh, _⟩
  · cases hg
  · rcases h'.2 with ⟨rfl, _⟩ | ⟨g2, cap2, cur2, rfl, _, hh2, _⟩
    · cases hg'
    · simp only [Value.ownBlock, Option.some.injEq] at hg hg'
      subst hg hg'
      rw [hh] at hh2
      injection hh2 with hh2
      injection hh2 with _ ht
      exact hne ht
/-- Objects stay while a row of another type grows. -/
theorem ObsO.grown {w w' : World} {base base' size n : Nat} {e : TypeId} {v0 : Value} {xs : List Value} {os : List Ob} {vs : List ObV} (h : ObsO w base os vs) (ho : w.ownsRow base' e size v0 n xs) (hg : w.grownBy w' v0.ownBlock) (h1 : e ≠ 3) (h2 : e ≠ 29) : ObsO w' base os vs :=
  ⟨h.1, fun i o v ho' hv => by
    obtain ⟨a1, a2, a3, a4, a5, a6⟩ := h.2 i o v ho' hv
    exact ⟨a1, a2, a3, a4, own_grown a5 hg (fun g hg' => own_types a5 ho h1.symm hg'), own_grown a6 hg (fun g hg' => own_types a6 ho h2.symm hg')⟩⟩
theorem ObsO.snoc {w : World} {base : Nat} {os : List Ob} {vs : List ObV} {o : Ob} {v : ObV} (h : ObsO w base os vs) (h1 : ObO w base o v) : ObsO w base (os ++ [o]) (vs ++ [v]) := by
  refine ⟨by rw [List.length_append, List.length_append, h.1]; rfl, fun i o' v' ho hv => ?_⟩
  rcases Nat.lt_or_ge i os.length with hi | hi
  · rw [List.getElem?_append_left hi] at ho
    rw [List.getElem?_append_left (by rw [← h.1]; exact hi)] at hv
    exact h.2 i o' v' ho hv
  · rw [List.getElem?_append_right hi] at ho
    rw [List.getElem?_append_right (by rw [← h.1]; exact hi), ← h.1] at hv
    rcases Nat.eq_zero_or_pos (i - os.length) with h0 | h0
    · rw [h0] at ho hv
      cases ho
      cases hv
      exact h1
    · rw [List.getElem?_eq_none (by simp; omega)] at ho
      cases ho

theorem info_object : (Try.prog.info? 42).map (fun i => (i.zero, i.size, i.bytes)) = some (some (.agg #[.int .i64 0, .slice none 0 0, .slice none 0 0, .bool false]), 4, 64) := by kernel_rfl

set_option maxHeartbeats 400000 in
theorem objects_bad (A : Option Addr) (n c : Nat) (a : List Int) (w : World) (hr : Reads w w.heap.size 1 A n (a.map (.int .u64))) (hnc : n ≤ c) (ha : ∀ x ∈ a, (Lit.int .u64 x).wf = true) (hE : checkE a ≠ 0) :
    Calls Try.prog 15 #[.slice A n c] w fun e w' => e = .returned (.tuple #[.slice none 0 0, .int .i64 (checkE a)]) ∧ Below w.heap.size w w' := by
  have H := Lib.hid (check_bad A n c a w hr hnc ha hE)
  generalize checkE a = E at *
  have hE1 : (E != 0) = true := by simpa using hE
  go_enter Try.func15, Try.ntmps15
  go_wp2_with fail
  refine H.out.mono ?_
  rintro e w1 ⟨rfl, hb1⟩
  go_wp2
  go_ret2
  exact ⟨rfl, hb1⟩

set_option maxRecDepth 100000 in
set_option maxHeartbeats 1000000 in
theorem objects_ok (A : Option Addr) (n c : Nat) (a : List Int) (w : World) (hr : Reads w w.heap.size 1 A n (a.map (.int .u64))) (hnc : n ≤ c) (ha : ∀ x ∈ a, (Lit.int .u64 x).wf = true) (hE : checkE a = 0) :
    Calls Try.prog 15 #[.slice A n c] w fun e w' => Below w.heap.size w w' ∧ ∃ A' c' vs, e = .returned (.tuple #[.slice A' (spotsL a).length c', .int .i64 0]) ∧ w'.ownsRow w.heap.size 42 4 (.slice A' (spotsL a).length c') (spotsL a).length (vs.flatMap obvC) ∧
      ObsO w' w.heap.size ((spotsL a).map (obOf a (spotsL a))) vs := by
  have H := Lib.hid (check_ok A n c a w hr hnc ha hE)
  have hm256 := spotsL_length a
  obtain ⟨h0, _⟩ := checkE_ok.1 hE
  obtain ⟨hlen, hP⟩ := parse_ok h0
  have hal : a.length = n := by have := hr.1; simpa using this
  have hn : n ≤ 256 := by omega
  generalize spotsL a = l at *
  have HOb := Lib.hid (fun b s hs w hr hM => object_any A n c b a l s w hr hnc hn (parse_mem hP s hs).1 ha hM)
  have HLen := Lib.hid (fun s hs => And.intro (refIx_length (l := l) (parse_mem hP s hs).1) (bodyOf_length (parse_mem hP s hs).1))
  obtain ⟨i0, hi, hz0, hz1, hz2⟩ := info_parts info_object
  clear hE h0 hP hal hlen
  go_enter Try.func15, Try.ntmps15
  go_wp2_with fail
  refine H.out.mono ?_
  rintro e w1 ⟨hb1, A', c', b, rfl, hbb, hown, hM⟩
  have hrl := Reads.of_own hown
  obtain ⟨m, hm⟩ : ∃ m, m = l.length := ⟨_, rfl⟩
  rw [← hm] at hrl hm256
  rw [← hm]
  have HM := Lib.hid hm
  have hblt := hM.lt
  clear hown hm
  go_wp2
  go_loopw [7, 21] (fun o i wr => ∃ (j : Nat) (A2 : Option Addr) (c2 : Nat) (vs : List ObV), j ≤ m ∧ i = .int .i64 j ∧ o = .slice A2 j c2 ∧ wr.ownsRow w1.heap.size 42 4 (.slice A2 j c2) j (vs.flatMap obvC) ∧ ObsO wr w1.heap.size ((l.take j).map (obOf a l)) vs ∧ Below w1.heap.size w1 wr) (fun _ i _ => m - (intOf i).toNat)
  case atStart => exact ⟨0, none, 0, [], Nat.zero_le _, rfl, rfl, World.ownsRow_nil _ _ _ _, ⟨rfl, fun i o v h => by simp at h⟩, Below.refl _ _⟩
  case round =>
    obtain ⟨j, A2, c2, vs, hj, rfl, rfl, hown, hO, hb⟩ := hrel
    by_cases hlt : j < m
    · obtain ⟨ad, s, rfl, had, hs, k0, k1, k2, k3, k4⟩ := (hrl.below hb).spot hlt
      have HT : Hid (l.take (j + 1) = l.take j ++ [s]) := by
        show _ = _
        obtain ⟨h1, rfl⟩ := List.getElem?_eq_some_iff.1 hs
        exact List.take_succ_eq_append_getElem h1
      have HSM : Hid (s ∈ l) := List.mem_of_getElem? hs
      have hb0 := hb.alloc hb.size (.cells (spotC s).toArray 49)
      have hown0 := hown.alloc (.cells (spotC s).toArray 49)
      have hO0 := hO.below (below_new wr (.cells (spotC s).toArray 49))
      have hbw := below_step hb1 hb0
      have HC := Lib.hid (HOb.out b s HSM.out _ ((hr.below hbw).more hbw.size) (hM.below hb0 hblt))
      clear hs hb hown hO
      go_wp2_with fail
      refine HC.out.mono ?_
      rintro e w3 ⟨hb3, B1, d1, B2, d2, rfl, hown1, hown2⟩
      have hown3 := own_below hown0 hb3
      have hO3 := hO0.below hb3
      have hb03 := hb0.trans (hb3.mono hb0.size)
      have hObj : ObO w3 w1.heap.size (obOf a l s) ⟨s.t, B1, s.r.toNat, d1, B2, s.b.toNat, d2, s.f⟩ := ⟨rfl, rfl, (HLen.out s HSM.out).1.symm, (HLen.out s HSM.out).2.symm, own_mono hown1 hb0.size, own_mono hown2 hb0.size⟩
      have hO4 := hO3.snoc hObj
      have hO5 := hO4.below (below_new w3 (.cells #[.int .i64 s.t, .slice B1 s.r.toNat d1, .slice B2 s.b.toNat d2, .bool s.f] 42))
      have hown5 := hown3.alloc (.cells #[.int .i64 s.t, .slice B1 s.r.toNat d1, .slice B2 s.b.toNat d2, .bool s.f] 42)
      have hb05 := hb03.alloc hb03.size (.cells #[.int .i64 s.t, .slice B1 s.r.toNat d1, .slice B2 s.b.toNat d2, .bool s.f] 42)
      have hnew := reads_new w3 (obvC ⟨s.t, B1, s.r.toNat, d1, B2, s.b.toNat, d2, s.f⟩) 42 1 4 rfl
      have HO5 := Lib.hid hO5
      have HOW := Lib.hid hown5
      clear hown0 hO0 hb0 hb3 hown1 hown2 hown3 hO3 hb03 hObj hO4 hO5
      go_wp2_with (at_builtin; refine wpList_append_any _ rfl (.tmp 25) (.tmp 30) 37 rfl w1.heap.size 42 i0 _ 4 64 Try.underlying37 hi hz0 hz1 hz2 rfl (by decide) (.slice A2 j c2) j _ rfl hown5 (w3.heap.size + 1) (some ⟨w3.heap.size, 0, none⟩) 1 1 (obvC ⟨s.t, B1, s.r.toNat, d1, B2, s.b.toNat, d2, s.f⟩) rfl hnew (by simp [obvC, Value.oneCell']) (by simp [maxLen]; omega) (by omega) (by have := hb05.size; exact this) ?_; rintro v' w6 hown6 hgr hbl -; obtain ⟨A6, c6, rfl⟩ := own_slice hown6)
      have hb6 : Below w1.heap.size w1 w6 := hb05.grown hgr hb05.size (fun g hg => (HOW.out.lt g hg).1)
      have hO6 := HO5.out.grown HOW.out hgr (by decide) (by decide)
      go_roundw
      case rel => exact ⟨j + 1, A6, c6, vs ++ [⟨s.t, B1, s.r.toNat, d1, B2, s.b.toNat, d2, s.f⟩], by omega, by go_num, rfl, by rw [List.flatMap_append]; simpa using hown6, by rw [HT.out, List.map_append]; exact hO6, hb6⟩
      case measure => simp [intOf]; omega
    · have hjm : j = m := by omega
      subst hjm
      rw [List.take_of_length_le (by rw [← HM.out]; exact Nat.le_refl _)] at hO
      go_wp2
      go_ret2
      have e := HM.out
      subst e
      exact ⟨below_step hb1 hb, A2, c2, vs, rfl, own_mono hown hb1.size, hO.mono hb1.size⟩
end Go.Proofs.Ytdlmnnibgpfdbaa
