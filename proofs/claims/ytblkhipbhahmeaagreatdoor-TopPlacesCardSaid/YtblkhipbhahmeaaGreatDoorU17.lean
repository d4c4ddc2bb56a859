/-
  Texts joined: FreshLaw SlicesInt EqualOb EqualObs Alike StLaw2 FreshLaw2 HoldFn HoldRoom SureLaw StFresh StLaw5.
-/
import Derived.Test.YtblkhipbhahmeaaGreatDoorRows
import Derived.Test.YtblkhipbhahmeaaGreatDoorU0
import Derived.Test.YtblkhipbhahmeaaGreatDoorU6
import Derived.Test.YtblkhipbhahmeaaGreatDoorU11
import Derived.Test.YtblkhipbhahmeaaGreatDoorU12
import Derived.Test.YtblkhipbhahmeaaGreatDoorU13
import Derived.Test.YtblkhipbhahmeaaGreatDoorU16
namespace Go.Proofs.YtblkhipbhahmeaaGreatDoor
open Go.RowKit
structure Made (T T' : St) (k : Nat) (g : Rn) (r b t : Int) : Prop where
 ok : StOk T'
 keeps : KeepsLive T.a T'.a
 root : T'.r[k]? = some g.loc
 loc : 0 ≤ g.loc
 spot : (⟨g.loc, r, b, t, false⟩ : Spot) ∈ spotsL T'.a
 zero : ∀ v ∈ bodyOf T'.a ⟨g.loc, r, b, t, false⟩, v = 0
 refs : ∀ v ∈ refsOf T'.a ⟨g.loc, r, b, t, false⟩, v = 0
 fresh : g.loc ∉ begsL (spotsL T.a)
 len : T'.a.length = T.a.length
theorem made_of {T : St} (hT : StOk T) {k j : Nat} {g : Rn} {r b t : Int} (hE : headE r b t false = 0) (hG : FirstGap T.a (1 + r + b) j g) (hk : k < T.r.length) :
  Made T ⟨takenA T.a g r b t, T.r.set k g.loc, T.p, T.l⟩ k g r b t := by
 have hC := hT.arena
 have hgm := List.mem_of_getElem? hG.at_
 obtain ⟨i, m, rfl, hm1, hm2⟩ := gap_facts hC hgm
 have hgm2 : (⟨i, m⟩ : Rn) ∈ gapsL (spotsL T.a) := by unfold ggL at hgm; rwa [if_pos hC] at hgm
 obtain ⟨s, hs, e1, e2, e3⟩ := join_spot hC hgm2
 have hJ := join_ok hC
 obtain ⟨js, hjs⟩ := List.mem_iff_getElem?.1 hs
 have hlong : 1 + r + b ≤ s.long := by rw [e3]; exact hG.long
 have hTk := take_ok hJ.check hjs e2 hE hlong
 have hKp := (join_keeps hC).trans (take_keeps hJ.check hjs e2 hE hlong)
 have hTA : takeL (joinL T.a (gapsL (spotsL T.a))) s.loc.toNat s.long.toNat (1 + r + b).toNat (wordOf r b t false) = takenA T.a ⟨i, m⟩ r b t := by
  unfold takenA joined
  rw [e1, e3]
 rw [hTA] at hTk hKp
 have hlen : (takenA T.a ⟨i, m⟩ r b t).length = T.a.length := by rw [hTk.blen, hJ.len]
 have hi : s.loc.toNat = i := by rw [e1]; rfl
 rw [hi] at hTk
 obtain ⟨j2, hj2⟩ := hTk.spot
 have hsp := List.mem_of_getElem? hj2
 have hbeg : (i : Int) ∈ begsL (spotsL (takenA T.a ⟨i, m⟩ r b t)) := List.mem_map.2 ⟨_, List.mem_filter.2 ⟨hsp, rfl⟩, rfl⟩
 have hlive : ∀ x ∈ begsL (spotsL T.a), x ∈ begsL (spotsL (takenA T.a ⟨i, m⟩ r b t)) := fun x hx => by
  obtain ⟨u, hu, rfl⟩ := List.mem_map.1 hx
  obtain ⟨h1, h2⟩ := List.mem_filter.1 hu
  exact List.mem_map.2 ⟨u, List.mem_filter.2 ⟨(hKp u h1 (by simpa using h2)).1, h2⟩, rfl⟩
 have hfr : (i : Int) ∉ begsL (spotsL T.a) := by
  intro hx
  obtain ⟨u, hu, hul⟩ := List.mem_map.1 hx
  obtain ⟨h1, h2⟩ := List.mem_filter.1 hu
  have h3 := ((join_keeps hC) u h1 (by simpa using h2)).1
  obtain ⟨q, hq⟩ := List.mem_iff_getElem?.1 h3
  have hr := spots_rise (checkE_ok.1 hJ.check).1
  obtain ⟨a1, a2⟩ := List.getElem?_eq_some_iff.1 hq
  obtain ⟨b1, b2⟩ := List.getElem?_eq_some_iff.1 hjs
  have he : q = js := by
   rcases Nat.lt_trichotomy q js with h | h | h
   ·have := List.pairwise_iff_getElem.1 hr q js a1 b1 h
    rw [a2, b2, hul, e1] at this
    simp only at this
    omega
   ·exact h
   ·have := List.pairwise_iff_getElem.1 hr js q b1 a1 h
    rw [a2, b2, hul, e1] at this
    simp only at this
    omega
  subst he
  rw [hjs] at hq
  obtain rfl := Option.some.inj hq
  rw [e2] at h2
  simp at h2
 refine ⟨⟨hTk.bcheck, ?_, hT.pins, hT.hands, fun x hx => ?_⟩, hKp, List.getElem?_set_self hk, by simp, hsp, (hTk.refs _ rfl).2, (hTk.refs _ rfl).1, hfr, hlen⟩
 ·obtain ⟨q1, q2, q3, q4⟩ := rootE_ok hT.roots
  show rootE (T.r.set k (i : Int)) ((takenA T.a ⟨i, m⟩ r b t).length : Int) = 0
  rw [hlen]
  refine rootE_of q1 q2 (by rw [List.length_set]; exact q3) (fun v hv => ?_)
  rcases List.mem_or_eq_of_mem_set hv with hv | rfl
  ·exact q4 v hv
  ·omega
 ·rcases fromL_mem.1 hx with ⟨q1, q2⟩ | ⟨u, q1, q2, rfl⟩ | ⟨z, q1, rfl⟩
  ·rcases List.mem_or_eq_of_mem_set q1 with q1 | rfl
   ·exact hlive _ (hT.live _ (root_at q1 q2))
   ·exact hbeg
  ·exact hlive _ (hT.live _ (open_at q1 q2))
  ·exact hlive _ (hT.live _ (pin_at q1))
set_option maxHeartbeats 400000 in
theorem equal_int (A A2 : Option Addr) (n c m c2 B B2 : Nat) (xs ys : List Int) (w : World) (hr : Reads w B 1 A n (xs.map (.int .i64))) (hr2 : Reads w B2 1 A2 m (ys.map (.int .i64))) (hn : n ≤ 1000000000000000000) (hm : m ≤ 1000000000000000000) :
  Calls Tryz.prog 26 #[.slice A n c, .slice A2 m c2] w fun e w' => e = .returned (.bool (decide (xs = ys))) ∧ ∃ q, w' = w.drewN q := by
 have hxl : xs.length = n := by have := hr.1; simpa using this
 have hyl : ys.length = m := by have := hr2.1; simpa using this
 have HX := Lib.hid hxl
 have HY := Lib.hid hyl
 clear hxl hyl
 by_cases hnm : n = m
 ·subst hnm
  go_enter Tryz.func26, Tryz.ntmps26
  go_wp2
  go_loopw [13] (fun i wr => ∃ j : Nat, j ≤ n ∧ i = .int .i64 j ∧ xs.take j = ys.take j ∧ ∃ q, wr = w.drewN q) (fun i _ => n - (intOf i).toNat)
  case atStart => exact ⟨0, Nat.zero_le _, rfl, by simp, 0, rfl⟩
  case round =>
   obtain ⟨j, hj, rfl, ht, q, rfl⟩ := hrel
   have HT := Lib.hid ht
   clear ht
   by_cases hlt : j < n
   ·obtain ⟨ad, u, rfl, _, hx, hc⟩ := hr.at_ hlt
    obtain ⟨ad2, u2, rfl, _, hx2, hc2⟩ := hr2.at_ hlt
    have hl : j < xs.length := by rw [HX.out]; exact hlt
    have hl2 : j < ys.length := by rw [HY.out]; exact hlt
    rw [List.getElem?_map, List.getElem?_eq_getElem hl] at hx
    rw [List.getElem?_map, List.getElem?_eq_getElem hl2] at hx2
    obtain rfl : u = .int .i64 xs[j] := by simpa using hx.symm
    obtain rfl : u2 = .int .i64 ys[j] := by simpa using hx2.symm
    clear hx hx2
    have T : Hid (xs.take (j + 1) = ys.take (j + 1) ↔ xs[j] = ys[j]) := by
     show _ ↔ _
     rw [List.take_succ_eq_append_getElem hl, List.take_succ_eq_append_getElem hl2, HT.out]
     constructor
     ·intro h
      have := List.append_cancel_left h
      simpa using this
     ·intro h; rw [h]
    have hlt' : (j : Int) < n := by omega
    generalize hgx : xs[j] = x at *
    generalize hgy : ys[j] = y at *
    have HGX := Lib.hid hgx
    have HGY := Lib.hid hgy
    clear hgx hgy
    by_cases he : x = y
    ·subst he
     go_wp2
     go_quiet (fail)
     go_wp2
     go_roundw
     case rel => exact ⟨j + 1, by omega, by go_num, T.out.2 (by simp), _, rfl⟩
     case measure => simp [intOf]; omega
    ·have he2 : (x == y) = false := by simpa using he
     have he3 : (x != y) = true := by simpa using he
     go_wp2
     go_quiet (fail)
     go_wp2
     go_ret
     refine ⟨?_, _, drewN_add _ _ _⟩
     have : ¬ xs = ys := by
      intro h
      apply he
      rw [← HGX.out, ← HGY.out]
      subst h
      rfl
     rw [decide_eq_false this]
     rfl
   ·go_wp2
    go_ret
    have hjn : j = n := by omega
    subst hjn
    exact ⟨by rw [decide_eq_true (eq_of_takes _ _ _ HX.out HY.out HT.out)]; rfl, _, rfl⟩
 ·have hne : ¬ xs = ys := by
   intro h
   subst h
   exact hnm (HX.out.symm.trans HY.out)
  have e1 : ((n : Int) == (m : Int)) = false := by simp; omega
  have e2 : ((n : Int) != (m : Int)) = true := by simp; omega
  have e3 : (n == m) = false := by simpa using hnm
  have e4 : (n != m) = true := by simpa using hnm
  go_enter Tryz.func26, Tryz.ntmps26
  go_wp2
  go_ret
  exact ⟨by rw [decide_eq_false hne]; rfl, 0, rfl⟩
set_option maxRecDepth 100000 in
set_option maxHeartbeats 1000000 in
theorem equalOb_any (o1 o2 : Ob) (v1 v2 : ObV) (w : World) (h1 : ObR w w.heap.size o1 v1) (h2 : ObR w w.heap.size o2 v2) (hn1 : v1.n1 ≤ 1000000 ∧ v1.n2 ≤ 1000000) (hn2' : v2.n1 ≤ 1000000 ∧ v2.n2 ≤ 1000000) :
  Calls Tryz.prog 25 #[.agg #[.int .i64 v1.t, .slice v1.A1 v1.n1 v1.c1, .slice v1.A2 v1.n2 v1.c2, .bool v1.f], .agg #[.int .i64 v2.t, .slice v2.A1 v2.n1 v2.c1, .slice v2.A2 v2.n2 v2.c2, .bool v2.f]] w fun e w' => e = .returned (.bool (decide (o1 = o2))) ∧ Below w.heap.size w w' := by
 obtain ⟨a1, a2, -, -, -, -, a7, a8⟩ := h1
 obtain ⟨b1, b2, -, -, -, -, b7, b8⟩ := h2
 obtain ⟨t1, A1, n1, c1, A2, n2, c2, f1⟩ := v1
 obtain ⟨t2, B1, m1, d1, B2, m2, d2, f2⟩ := v2
 obtain ⟨s1, r1, y1, g1⟩ := o1
 obtain ⟨s2, r2, y2, g2⟩ := o2
 dsimp only at *
 subst a1 a2 b1 b2
 obtain ⟨hn1, hn2⟩ := hn1
 obtain ⟨hm1, hm2⟩ := hn2'
 have hbw := (below_new w (.cells #[.int .i64 t1, .slice A1 n1 c1, .slice A2 n2 c2, .bool f1] 45)).alloc (by simp) (.cells #[.int .i64 t2, .slice B1 m1 d1, .slice B2 m2 d2, .bool f2] 45)
 have HBW := Lib.hid hbw
 have HI := Lib.hid (fun W (hr : Below w.heap.size w W) => equal_int A1 B1 n1 c1 m1 d1 _ _ r1 r2 W (a7.below hr) (b7.below hr) (by omega) (by omega))
 have HU := Lib.hid (fun W (hr : Below w.heap.size w W) => equal_u64 A2 B2 n2 c2 m2 d2 _ _ y1 y2 W (a8.below hr) (b8.below hr) (by omega) (by omega))
 clear a7 a8 b7 b8 hbw hn1 hn2 hm1 hm2
 by_cases e1 : t1 = t2
 ·subst e1
  by_cases e2 : f1 = f2
  ·subst e2
   by_cases e3 : r1 = r2
   ·have HE3 : Hid (decide (r1 = r2) = true) := decide_eq_true e3
    by_cases e4 : y1 = y2
    ·have HE4 : Hid (decide (y1 = y2) = true) := decide_eq_true e4
     have HD : Hid (decide ((⟨t1, r1, y1, f1⟩ : Ob) = ⟨t1, r2, y2, f1⟩) = true) := by show _ = _; rw [e3, e4]; exact decide_eq_true rfl
     clear e3 e4
     go_enter Tryz.func25, Tryz.ntmps25
     go_wp2_with fail
     refine (HI.out _ HBW.out).mono ?_
     rw [HE3.out]
     rintro e w1 ⟨rfl, q, rfl⟩
     go_wp2_with fail
     refine (HU.out _ (below_drewN HBW.out q)).mono ?_
     rw [HE4.out]
     rintro e w1 ⟨rfl, q2, rfl⟩
     go_wp2
     go_ret
     exact ⟨by rw [HD.out]; rfl, below_drewN HBW.out _⟩
    ·have HE4 : Hid (decide (y1 = y2) = false) := decide_eq_false e4
     have HD : Hid (decide ((⟨t1, r1, y1, f1⟩ : Ob) = ⟨t1, r2, y2, f1⟩) = false) := by show _ = _; rw [decide_eq_false]; intro h; injection h with _ _ h _; exact e4 h
     clear e3 e4
     go_enter Tryz.func25, Tryz.ntmps25
     go_wp2_with fail
     refine (HI.out _ HBW.out).mono ?_
     rw [HE3.out]
     rintro e w1 ⟨rfl, q, rfl⟩
     go_wp2_with fail
     refine (HU.out _ (below_drewN HBW.out q)).mono ?_
     rw [HE4.out]
     rintro e w1 ⟨rfl, q2, rfl⟩
     go_wp2
     go_ret
     exact ⟨by rw [HD.out]; rfl, below_drewN HBW.out _⟩
   ·have HE3 : Hid (decide (r1 = r2) = false) := decide_eq_false e3
    have HD : Hid (decide ((⟨t1, r1, y1, f1⟩ : Ob) = ⟨t1, r2, y2, f1⟩) = false) := by show _ = _; rw [decide_eq_false]; intro h; injection h with _ h _ _; exact e3 h
    clear e3
    go_enter Tryz.func25, Tryz.ntmps25
    go_wp2_with fail
    refine (HI.out _ HBW.out).mono ?_
    rw [HE3.out]
    rintro e w1 ⟨rfl, q, rfl⟩
    go_wp2
    go_ret
    exact ⟨by rw [HD.out]; rfl, below_drewN HBW.out q⟩
  ·have HD : Hid (decide ((⟨t1, r1, y1, f1⟩ : Ob) = ⟨t1, r2, y2, f2⟩) = false) := by show _ = _; rw [decide_eq_false]; intro h; injection h with _ _ _ h; exact e2 h
   have e2' : (f1 == f2) = false := by simpa using e2
   clear e2
   go_enter Tryz.func25, Tryz.ntmps25
   go_wp2
   go_ret
   exact ⟨by rw [HD.out]; rfl, HBW.out⟩
 ·have HD : Hid (decide ((⟨t1, r1, y1, f1⟩ : Ob) = ⟨t2, r2, y2, f2⟩) = false) := by show _ = _; rw [decide_eq_false]; intro h; injection h with h; exact e1 h
  have e1' : (t1 == t2) = false := by simpa using e1
  clear e1
  go_enter Tryz.func25, Tryz.ntmps25
  go_wp2
  go_ret
  exact ⟨by rw [HD.out]; rfl, HBW.out⟩
theorem Reads.obv {w : World} {B : Nat} {A : Option Addr} {n j : Nat} {l : List ObV} (h : Reads w B 4 A n (l.flatMap obvC)) (hj : j < n) :
  ∃ ad s, A = some ad ∧ ad.block < B ∧ l[j]? = some s ∧ w.cell? (ad.add (j * 4)) = some (.int .i64 s.t) ∧ w.cell? ⟨(ad.add (j * 4)).block, (ad.add (j * 4)).off + 1, none⟩ = some (.slice s.A1 s.n1 s.c1) ∧
    w.cell? ⟨(ad.add (j * 4)).block, (ad.add (j * 4)).off + 2, none⟩ = some (.slice s.A2 s.n2 s.c2) ∧ w.cell? ⟨(ad.add (j * 4)).block, (ad.add (j * 4)).off + 3, none⟩ = some (.bool s.f) := by
 obtain ⟨ad, s, e, hb, hs, c0, cs⟩ := Reads.elem (f := obvC) (k := 4) (fun _ => rfl) h (by decide) hj
 exact ⟨ad, s, e, hb, hs, c0, cs 1 (by decide) (by decide), cs 2 (by decide) (by decide), cs 3 (by decide) (by decide)⟩
set_option maxRecDepth 100000 in
set_option maxHeartbeats 2000000 in
theorem equalObsF_any (F : Nat) (hP : Plain Tryz.prog F) (HC : ∀ (o1 o2 : Ob) (v1 v2 : ObV) (w : World), ObR w w.heap.size o1 v1 → ObR w w.heap.size o2 v2 → v1.n1 ≤ 1000000 ∧ v1.n2 ≤ 1000000 → v2.n1 ≤ 1000000 ∧ v2.n2 ≤ 1000000 →
  Calls Tryz.prog F #[.agg #[.int .i64 v1.t, .slice v1.A1 v1.n1 v1.c1, .slice v1.A2 v1.n2 v1.c2, .bool v1.f], .agg #[.int .i64 v2.t, .slice v2.A1 v2.n1 v2.c1, .slice v2.A2 v2.n2 v2.c2, .bool v2.f]] w fun e w' => e = .returned (.bool (decide (o1 = o2))) ∧ Below w.heap.size w w')
  (A1 A2 : Option Addr) (n c m d : Nat) (os1 os2 : List Ob) (vs1 vs2 : List ObV) (w : World) (hr1 : Reads w w.heap.size 4 A1 n (vs1.flatMap obvC)) (hr2 : Reads w w.heap.size 4 A2 m (vs2.flatMap obvC)) (h1 : ObsR w w.heap.size os1 vs1) (h2 : ObsR w w.heap.size os2 vs2)
  (l1 : os1.length = n) (l2 : os2.length = m) (hn : n ≤ 1000000) (hm : m ≤ 1000000) (b1 : ∀ o ∈ os1, o.refs.length ≤ 1000000 ∧ o.body.length ≤ 1000000) (b2 : ∀ o ∈ os2, o.refs.length ≤ 1000000 ∧ o.body.length ≤ 1000000) :
  Calls Tryz.prog 24 #[.slice A1 n c, .slice A2 m d, .func (.func F) #[] #[]] w fun e w' => e = .returned (.bool (decide (os1 = os2))) ∧ Below w.heap.size w w' := by
 have HCH := Lib.hid HC
 clear HC
 have hcf := fun (x y : Value) (w : World) => hP #[x, y] w
 by_cases hnm : n = m
 ·subst hnm
  have L1 := Lib.hid l1
  have L2 := Lib.hid l2
  have H1 := Lib.hid h1
  have H2 := Lib.hid h2
  have B1 := Lib.hid b1
  have B2 := Lib.hid b2
  have z1 : ((n : Int) != (n : Int)) = false := by simp
  clear l1 l2 h1 h2 b1 b2
  go_enter Tryz.func24, Tryz.ntmps24
  go_wp2
  go_loopw [17] (fun i wr => ∃ j : Nat, j ≤ n ∧ i = .int .i64 j ∧ Hid (os1.take j = os2.take j) ∧ Below w.heap.size w wr) (fun i _ => n - (intOf i).toNat)
  case atStart => exact ⟨0, Nat.zero_le _, rfl, by show _ = _; simp, Below.refl _ _⟩
  case round =>
   obtain ⟨j, hj, rfl, HD, hb⟩ := hrel
   by_cases hlt : j < n
   ·obtain ⟨ad, v1, rfl, had, hv1, c0, c1, c2, c3⟩ := (hr1.below hb).obv hlt
    obtain ⟨ad2, v2, rfl, had2, hv2, d0, d1, d2, d3⟩ := (hr2.below hb).obv hlt
    have ho1 : os1[j]? = some (os1[j]'(by rw [L1.out]; exact hlt)) := List.getElem?_eq_getElem _
    have ho2 : os2[j]? = some (os2[j]'(by rw [L2.out]; exact hlt)) := List.getElem?_eq_getElem _
    generalize os1[j]'(by rw [L1.out]; exact hlt) = o1 at ho1
    generalize os2[j]'(by rw [L2.out]; exact hlt) = o2 at ho2
    have r1 := H1.out.2 j o1 v1 ho1 hv1
    have r2 := H2.out.2 j o2 v2 ho2 hv2
    have q1 := B1.out o1 (List.mem_of_getElem? ho1)
    have q2 := B2.out o2 (List.mem_of_getElem? ho2)
    have e1 : v1.n1 = o1.refs.length ∧ v1.n2 = o1.body.length := ⟨r1.2.2.2.2.1, r1.2.2.2.2.2.1⟩
    have e2 : v2.n1 = o2.refs.length ∧ v2.n2 = o2.body.length := ⟨r2.2.2.2.2.1, r2.2.2.2.2.2.1⟩
    have hbx := (hb.alloc hb.size (.cells #[.int .i64 v1.t, .slice v1.A1 v1.n1 v1.c1, .slice v1.A2 v1.n2 v1.c2, .bool v1.f] 45)).alloc (by rw [World.size_alloc]; have := hb.size; omega) (.cells #[.int .i64 v2.t, .slice v2.A1 v2.n1 v2.c1, .slice v2.A2 v2.n2 v2.c2, .bool v2.f] 45)
    have HE := Lib.hid (HCH.out o1 o2 v1 v2 _ (r1.keep hbx hbx.size) (r2.keep hbx hbx.size) (by omega) (by omega))
    have D1 := (Blk.new wr 45 #[.int .i64 v1.t, .slice v1.A1 v1.n1 v1.c1, .slice v1.A2 v1.n2 v1.c2, .bool v1.f]).alloc (.cells #[.int .i64 v2.t, .slice v2.A1 v2.n1 v2.c1, .slice v2.A2 v2.n2 v2.c2, .bool v2.f] 45)
    have D2 := Blk.new (wr.alloc (.cells #[.int .i64 v1.t, .slice v1.A1 v1.n1 v1.c1, .slice v1.A2 v1.n2 v1.c2, .bool v1.f] 45)) 45 #[.int .i64 v2.t, .slice v2.A1 v2.n1 v2.c1, .slice v2.A2 v2.n2 v2.c2, .bool v2.f]
    simp only [World.size_alloc] at D2
    have x0 := D1.cell 0
    have x1 := D1.cell 1
    have x2 := D1.cell 2
    have x3 := D1.cell 3
    have y0 := D2.cell 0
    have y1 := D2.cell 1
    have y2 := D2.cell 2
    have y3 := D2.cell 3
    have sz := hb.size
    have D0 : ∀ i u, wr.cell? ⟨(ad2.add (j * 4)).block, i, none⟩ = some u → (wr.alloc (.cells #[.int .i64 v1.t, .slice v1.A1 v1.n1 v1.c1, .slice v1.A2 v1.n2 v1.c2, .bool v1.f] 45)).cell? ⟨(ad2.add (j * 4)).block, i, none⟩ = some u := fun i u h => by
     rw [World.cell?_alloc_lt wr _ _ (by unfold Addr.add; split <;> (first | omega | (dsimp only; omega)))]
     exact h
    have d0' : (wr.alloc (.cells #[.int .i64 v1.t, .slice v1.A1 v1.n1 v1.c1, .slice v1.A2 v1.n2 v1.c2, .bool v1.f] 45)).cell? (ad2.add (j * 4)) = some (.int .i64 v2.t) := by
     rw [World.cell?_alloc_lt wr _ _ (by unfold Addr.add; split <;> (first | omega | (dsimp only; omega)))]
     exact d0
    have d1' := D0 _ _ d1
    have d2' := D0 _ _ d2
    have d3' := D0 _ _ d3
    simp only [List.getElem?_toArray, List.getElem?_cons_zero, List.getElem?_cons_succ] at x0 x1 x2 x3 y0 y1 y2 y3
    have hj1 : j + 1 ≤ n := hlt
    have HO1 := Lib.hid ho1
    have HO2 := Lib.hid ho2
    have hjn : j < n := hlt
    clear hv1 hv2 ho1 ho2 r1 r2 q1 q2 e1 e2 D0 D1 D2
    by_cases heq : o1 = o2
    ·have HD2 : Hid (os1.take (j + 1) = os2.take (j + 1)) := by
      show _ = _
      obtain ⟨z1, z2⟩ := List.getElem?_eq_some_iff.1 HO1.out
      obtain ⟨z3, z4⟩ := List.getElem?_eq_some_iff.1 HO2.out
      rw [List.take_succ_eq_append_getElem z1, List.take_succ_eq_append_getElem z3, HD.out, z2, z4, heq]
     rw [decide_eq_true heq] at HE
     clear heq
     go_wp2_with fail
     refine HE.out.mono ?_
     rintro e w5 ⟨rfl, hb5⟩
     have hb6 := hbx.trans (hb5.mono hbx.size)
     go_wp2
     go_roundw
     case rel => exact ⟨j + 1, hj1, by go_num, HD2, hb6⟩
     case measure => simp [intOf]; omega
    ·have HN : Hid (decide (os1 = os2) = false) := decide_eq_false (fun h => by
      subst h
      exact heq (Option.some.inj (HO1.out.symm.trans HO2.out)))
     rw [decide_eq_false heq] at HE
     clear heq
     go_wp2_with fail
     refine HE.out.mono ?_
     rintro e w5 ⟨rfl, hb5⟩
     have hb6 := hbx.trans (hb5.mono hbx.size)
     go_wp2
     go_ret
     exact ⟨by rw [HN.out]; rfl, hb6⟩
   ·have hjn : j = n := by omega
    have HY : Hid (decide (os1 = os2) = true) := decide_eq_true (by
     have := HD.out
     rwa [hjn, List.take_of_length_le (by rw [L1.out]; exact Nat.le_refl _), List.take_of_length_le (by rw [L2.out]; exact Nat.le_refl _)] at this)
    have g0 : decide (j < n) = false := decide_eq_false hlt
    clear hjn HD
    go_wp2
    go_ret
    exact ⟨by rw [HY.out]; rfl, hb⟩
 ·have HN : Hid (decide (os1 = os2) = false) := decide_eq_false (fun h => hnm (by rw [← l1, ← l2, h]))
  have z1 : ((n : Int) != (m : Int)) = true := by simp; omega
  have z2 : (n != m) = true := by simpa using hnm
  clear hnm
  go_enter Tryz.func24, Tryz.ntmps24
  go_wp2
  go_ret
  exact ⟨by rw [HN.out]; rfl, Below.refl _ _⟩
theorem equalObs_any (A1 A2 : Option Addr) (n c m d : Nat) (os1 os2 : List Ob) (vs1 vs2 : List ObV) (w : World) (hr1 : Reads w w.heap.size 4 A1 n (vs1.flatMap obvC)) (hr2 : Reads w w.heap.size 4 A2 m (vs2.flatMap obvC)) (h1 : ObsR w w.heap.size os1 vs1) (h2 : ObsR w w.heap.size os2 vs2)
  (l1 : os1.length = n) (l2 : os2.length = m) (hn : n ≤ 1000000) (hm : m ≤ 1000000) (b1 : ∀ o ∈ os1, o.refs.length ≤ 1000000 ∧ o.body.length ≤ 1000000) (b2 : ∀ o ∈ os2, o.refs.length ≤ 1000000 ∧ o.body.length ≤ 1000000) :
  Calls Tryz.prog 24 #[.slice A1 n c, .slice A2 m d, .func (.func 25) #[] #[]] w fun e w' => e = .returned (.bool (decide (os1 = os2))) ∧ Below w.heap.size w w' :=
 equalObsF_any 25 (plain_of (fn := Tryz.f25) Tryz.func25 (by kernel_rfl) (by kernel_rfl)) equalOb_any A1 A2 n c m d os1 os2 vs1 vs2 w hr1 hr2 h1 h2 l1 l2 hn hm b1 b2
def AliveF (a f : List Int) : Prop := checkE a = 0 ∧ ∀ x ∈ f, x ∈ begsL (spotsL a)
set_option maxHeartbeats 1000000 in
theorem form_bad (A : Option Addr) (n c : Nat) (a : List Int) (A2 : Option Addr) (n2 c2 : Nat) (w : World) (hr : Reads w w.heap.size 1 A n (a.map (.int .u64))) (hnc : n ≤ c) (ha : ∀ x ∈ a, (Lit.int .u64 x).wf = true) (hE : checkE a ≠ 0) :
  Calls Tryz.prog 4 #[.slice A n c, .slice A2 n2 c2] w fun e w' => e = .returned (.tuple #[.agg #[.slice none 0 0, .slice none 0 0], .int .i64 (checkE a)]) ∧ Below w.heap.size w w' := by
 have H := Lib.hid (fun w hr => order_bad A n c a A2 n2 c2 w hr hnc ha hE)
 have hE1 : (checkE a != 0) = true := by simpa using hE
 have R0 := Blk.new w 26 #[.slice none 0 0, .slice none 0 0]
 have hb0 := below_new w (.cells #[.slice none 0 0, .slice none 0 0] 26)
 generalize checkE a = E at *
 clear hE
 go_enter Tryz.func4, Tryz.ntmps4
 go_wp2_with fail
 refine (H.out _ ((hr.below hb0).more hb0.size)).mono ?_
 rintro e w1 ⟨rfl, hb1⟩
 have R1 := R0.below hb1 R0.lt
 have r0 := R1.cell 0
 have r1 := R1.cell 1
 have f0 := R1.frozen 0
 have f1 := R1.frozen 1
 simp only [List.getElem?_toArray, List.getElem?_cons_zero, List.getElem?_cons_succ] at r0 r1
 have hb01 := below_step hb0 hb1
 go_wp2
 refine bodyPost_ret (v := .tuple #[.agg #[.slice none 0 0, .slice none 0 0], .int .i64 E]) ?_ rfl ⟨rfl, ?_⟩
 ·simp only [results, Tryz.results4]
  go_simp
 ·iterate 2 refine Below.setCell ?_ (by dsimp only; omega) _
  exact hb01
def FormPost (a f : List Int) (n2 : Nat) (w : World) (e : Ending) (w' : World) : Prop := Below w.heap.size w w' ∧
 ((AliveF a f ∧ ∃ (os : List Ob) (fr : List Int) (vs : List ObV) (Ao : Option Addr) (co : Nat) (Af : Option Addr) (cf : Nat), FormIs a f os fr ∧ os.length ≤ 256 ∧ fr.length = n2 ∧ e = .returned (.tuple #[.agg #[.slice Ao os.length co, .slice Af n2 cf], .int .i64 0]) ∧
    w'.ownsRow w.heap.size 45 4 (.slice Ao os.length co) os.length (vs.flatMap obvC) ∧ ObsO w' w.heap.size os vs ∧ w'.ownsRow w.heap.size 3 1 (.slice Af n2 cf) n2 (fr.map (.int .i64))) ∨
  (¬ AliveF a f ∧ ∃ er : Int, (er != 0) = true ∧ e = .returned (.tuple #[.agg #[.slice none 0 0, .slice none 0 0], .int .i64 er])))
theorem form_any (A : Option Addr) (n c : Nat) (a : List Int) (A2 : Option Addr) (n2 c2 : Nat) (f : List Int) (w : World) (hr : Reads w w.heap.size 1 A n (a.map (.int .u64))) (hnc : n ≤ c) (ha : ∀ x ∈ a, (Lit.int .u64 x).wf = true)
  (hr2 : Reads w w.heap.size 1 A2 n2 (f.map (.int .i64))) (hn2 : n2 * 8 ≤ 140737488355328) (hx2 : ∀ x ∈ f, (Lit.int .i64 x).wf = true) :
  Calls Tryz.prog 4 #[.slice A n c, .slice A2 n2 c2] w (FormPost a f n2 w) := by
 by_cases hE : checkE a = 0
 ·refine Calls.mono (form_ok A n c a A2 n2 c2 f w hr hnc ha hr2 hn2 hx2 hE) ?_
  rintro e w' ⟨hb, ⟨hall, h⟩ | ⟨hno, h⟩⟩
  ·exact ⟨hb, .inl ⟨⟨hE, hall⟩, h⟩⟩
  ·exact ⟨hb, .inr ⟨fun h => hno h.2, h⟩⟩
 ·refine Calls.mono (form_bad A n c a A2 n2 c2 w hr hnc ha hE) ?_
  rintro e w' ⟨rfl, hb⟩
  exact ⟨hb, .inr ⟨fun h => hE h.1, checkE a, by simpa using hE, rfl⟩⟩
theorem FormIs.short {a f : List Int} {os : List Ob} {fr : List Int} (h : FormIs a f os fr) (hE : checkE a = 0) : ∀ o ∈ os, o.refs.length ≤ 1000000 ∧ o.body.length ≤ 1000000 := by
 obtain ⟨L, -, rfl, -⟩ := h
 have hal := (parse_ok (checkE_ok.1 hE).1).1
 intro o ho
 obtain ⟨x, -, rfl⟩ := List.mem_map.1 ho
 unfold formO
 split
 ·rename_i s _
  have h2 : (refsOf a s).length ≤ a.length := by unfold refsOf; rw [List.length_take, List.length_drop]; omega
  have h3 : (bodyOf a s).length ≤ a.length := by unfold bodyOf; rw [List.length_take, List.length_drop]; omega
  dsimp only
  rw [List.length_map]
  omega
 ·simp
set_option maxRecDepth 100000 in
set_option maxHeartbeats 2000000 in
theorem alike_any (A : Option Addr) (n c : Nat) (a : List Int) (A2 : Option Addr) (n2 c2 : Nat) (f : List Int) (B : Option Addr) (m d : Nat) (b : List Int) (B2 : Option Addr) (m2 d2 : Nat) (g : List Int) (w : World) (hr : Reads w w.heap.size 1 A n (a.map (.int .u64))) (hnc : n ≤ c) (ha : ∀ x ∈ a, (Lit.int .u64 x).wf = true)
  (hr2 : Reads w w.heap.size 1 A2 n2 (f.map (.int .i64))) (hn2 : n2 * 8 ≤ 140737488355328) (hx2 : ∀ x ∈ f, (Lit.int .i64 x).wf = true) (hrb : Reads w w.heap.size 1 B m (b.map (.int .u64))) (hmd : m ≤ d) (hb : ∀ x ∈ b, (Lit.int .u64 x).wf = true)
  (hrb2 : Reads w w.heap.size 1 B2 m2 (g.map (.int .i64))) (hm2 : m2 * 8 ≤ 140737488355328) (hy2 : ∀ x ∈ g, (Lit.int .i64 x).wf = true) :
  Calls Tryz.prog 10 #[.slice A n c, .slice A2 n2 c2, .slice B m d, .slice B2 m2 d2] w fun e w' => Below w.heap.size w w' ∧
   ((AliveF a f ∧ AliveF b g ∧ ∃ os fr os' fr', FormIs a f os fr ∧ FormIs b g os' fr' ∧ e = .returned (.tuple #[.bool (decide (os = os') && decide (fr = fr')), .int .i64 0])) ∨
    (¬ (AliveF a f ∧ AliveF b g) ∧ ∃ er : Int, (er != 0) = true ∧ e = .returned (.tuple #[.bool false, .int .i64 er]))) := by
 have H1 := Lib.hid (form_any A n c a A2 n2 c2 f w hr hnc ha hr2 hn2 hx2)
 have H2 := Lib.hid (fun w hr hr2 => form_any B m d b B2 m2 d2 g w hr hmd hb hr2 hm2 hy2)
 clear ha hx2 hb hy2
 go_enter Tryz.func10, Tryz.ntmps10
 go_wp2_with fail
 refine H1.out.mono ?_
 rintro e w1 ⟨hb1, ⟨hA, os, fr, vs, Ao, co, Af, cf, hF, hos, hfr, rfl, hO, hI, hR⟩ | ⟨hno, er, her, rfl⟩⟩
 ·have G1 := Blk.new w1 26 #[.slice Ao os.length co, .slice Af n2 cf]
  have hbn := below_new w1 (.cells #[.slice Ao os.length co, .slice Af n2 cf] 26)
  have hb2 := below_step hb1 hbn
  have H2' := Lib.hid (H2.out _ ((hrb.below hb2).more hb2.size) ((hrb2.below hb2).more hb2.size))
  have HA := Lib.hid hA
  have HF := Lib.hid hF
  have hrO := ((Reads.of_own hO).below hbn).more hbn.size
  have hrR := ((Reads.of_own hR).below hbn).more hbn.size
  have HI1 := Lib.hid (hI.reads.keep hbn hbn.size)
  have HFL := Lib.hid hfr
  obtain ⟨k, hk⟩ : ∃ k, k = os.length := ⟨_, rfl⟩
  rw [← hk] at hrO G1 hos ⊢
  have HK := Lib.hid hk
  rw [← hk] at HI1 hb2 H2' hrR
  clear hA hF hO hI hR hk hfr hbn
  go_wp2_with fail
  refine H2'.out.mono ?_
  rintro e w3 ⟨hb3, ⟨hA', os', fr', vs', Ao', co', Af', cf', hF', hos', hfr', rfl, hO', hI', hR'⟩ | ⟨hno, er, her, rfl⟩⟩
  ·have G3 := Blk.new w3 26 #[.slice Ao' os'.length co', .slice Af' m2 cf']
   have hbn3 := below_new w3 (.cells #[.slice Ao' os'.length co', .slice Af' m2 cf'] 26)
   have hb34 := below_step hb3 hbn3
   have hb04 := below_step hb2 hb34
   have G14 := G1.below hb34 G1.lt
   have hrO4 := (hrO.below hb34).more hb34.size
   have hrR4 := hrR.below hb34
   have HI4 := Lib.hid (HI1.out.keep hb34 hb34.size)
   have hrO' := ((Reads.of_own hO').below hbn3).more hbn3.size
   have hrR' := (Reads.of_own hR').below hbn3
   have HI' := Lib.hid (hI'.reads.keep hbn3 hbn3.size)
   have HA' := Lib.hid hA'
   have HF' := Lib.hid hF'
   have hs1 := HF.out.short HA.out.1
   have hs2 := hF'.short hA'.1
   have HEq := Lib.hid (equalObs_any Ao Ao' k co os'.length co' os os' vs vs' _ hrO4 hrO' HI4.out HI'.out HK.out.symm rfl (by omega) (by omega) hs1 hs2)
   obtain ⟨k', hk'⟩ : ∃ k', k' = os'.length := ⟨_, rfl⟩
   rw [← hk'] at G3 hos' HEq ⊢
   have g0 := G14.cell 0
   have g1 := G14.cell 1
   have p0 := G3.cell 0
   have p1 := G3.cell 1
   rw [← hk'] at g0 g1 hrR4 hrR' hb04 hb34 G14
   simp only [List.getElem?_toArray, List.getElem?_cons_zero, List.getElem?_cons_succ] at g0 g1 p0 p1
   have hrR4' := fun W (hbW : Below (w3.alloc (.cells #[.slice Ao' k' co', .slice Af' m2 cf'] 26)).heap.size (w3.alloc (.cells #[.slice Ao' k' co', .slice Af' m2 cf'] 26)) W) => hrR4.below (hbW.mono hb34.size)
   have hrR'' := fun W (hbW : Below (w3.alloc (.cells #[.slice Ao' k' co', .slice Af' m2 cf'] 26)).heap.size (w3.alloc (.cells #[.slice Ao' k' co', .slice Af' m2 cf'] 26)) W) => hrR'.below (hbW.mono (by rw [World.size_alloc]; omega))
   have HE2 := Lib.hid (fun W hbW => equal_int Af Af' n2 cf m2 cf' _ _ fr fr' W (hrR4' W hbW) (hrR'' W hbW) (by omega) (by omega))
   have HG1 := Lib.hid G14
   have HG3 := Lib.hid G3
   clear hA' hF' hO' hI' hR' hk' hfr' hrR4' hrR'' hs1 hs2 hbn3 hb3
   cases hd : decide (os = os')
   ·rw [hd] at HEq
    have HD := Lib.hid hd
    clear hd
    go_wp2_with fail
    refine HEq.out.mono ?_
    rintro e w5 ⟨rfl, hb5⟩
    go_wp2
    go_ret2
    exact ⟨below_step hb04 hb5, .inl ⟨HA.out, HA'.out, os, fr, os', fr', HF.out, HF'.out, by rw [HD.out]; rfl⟩⟩
   ·rw [hd] at HEq
    have HD := Lib.hid hd
    clear hd g0 g1 p0 p1
    have g0 := HG1.out.cell 0
    have g1 := HG1.out.cell 1
    have p0 := HG3.out.cell 0
    have p1 := HG3.out.cell 1
    simp only [List.getElem?_toArray, List.getElem?_cons_zero, List.getElem?_cons_succ] at g0 g1 p0 p1
    go_wp2_with fail
    refine HEq.out.mono ?_
    rintro e w5 ⟨rfl, hb5⟩
    have G15 := HG1.out.below hb5 HG1.out.lt
    have G35 := HG3.out.below hb5 HG3.out.lt
    have q1 := G15.cell 1
    have q2 := G35.cell 1
    simp only [List.getElem?_toArray, List.getElem?_cons_zero, List.getElem?_cons_succ] at q1 q2
    obtain ⟨bf, hbf⟩ : ∃ bf, bf = decide (fr = fr') := ⟨_, rfl⟩
    have HBF := Lib.hid hbf
    have HE2' := HE2.out w5 hb5
    rw [← hbf] at HE2'
    have HE3 := Lib.hid HE2'
    clear hbf HE2' G15 G35 g0 g1 p0 p1
    go_wp2_with fail
    refine HE3.out.mono ?_
    rintro e w6 ⟨rfl, q6, rfl⟩
    go_wp2
    go_ret2
    exact ⟨below_drewN (below_step hb04 hb5) _, .inl ⟨HA.out, HA'.out, os, fr, os', fr', HF.out, HF'.out, by rw [HD.out, ← HBF.out]; rfl⟩⟩
  ·have HN : Hid (¬ (AliveF a f ∧ AliveF b g)) := fun h => hno h.2
   have her2 := her
   clear hno her
   go_wp2
   go_ret2
   exact ⟨(below_step hb2 hb3).alloc (below_step hb2 hb3).size _, .inr ⟨HN.out, er, her2, rfl⟩⟩
 ·have HN : Hid (¬ (AliveF a f ∧ AliveF b g)) := fun h => hno h.1
  have her2 := her
  clear hno her
  go_wp2
  go_ret2
  exact ⟨hb1.alloc hb1.size _, .inr ⟨HN.out, er, her2, rfl⟩⟩
section
variable {S S' : St} {fr : Int} {L Y now : List Int}
end
theorem StOk.lens {S : St} (h : StOk S) : S.a.length ≤ 256 ∧ S.r.length ≤ 32 ∧ S.p.length ≤ 16 ∧ S.l.length ≤ 16 ∧ (rootedL S).length ≤ 64 := by
 have h1 := (parse_ok (checkE_ok.1 h.arena).1).1
 have h2 := (rootE_ok h.roots).2.2.1
 have h3 := h.pins.len
 have h4 := (handE_ok.1 h.hands).1
 refine ⟨h1, h2, h3, h4, ?_⟩
 unfold rootedL openL pinsL
 have h5 := List.length_filter_le (fun v : Int => decide (0 ≤ v)) S.r
 have h6 := List.length_filter_le (fun s : Slot => s.opn) S.l
 rw [List.length_append, List.length_append, List.length_map, List.length_map]
 omega
theorem place_inv {S : List Spot} {v : Int} (h : (placeF S v).isSome = true) (h0 : v ≠ 0) : v - 1 ∈ begsL S := by
 rcases placeC_some.1 h with h | ⟨s, hs, hp⟩
 ·exact absurd h h0
 ·unfold isPlace at hp
  simp only [Bool.and_eq_true, Bool.not_eq_true', beq_iff_eq] at hp
  exact List.mem_map.2 ⟨s, List.mem_filter.2 ⟨hs, by simp [hp.1]⟩, by omega⟩
theorem longW_nn {a : List Int} (h : checkE a = 0) {x : Int} (hx : x ∈ begsL (spotsL a)) : 0 ≤ longW (spotsL a) x := by
 obtain ⟨s, hs⟩ := begsL_iff.1 hx
 have h1 := ((parse_mem (parse_ok (checkE_ok.1 h).1).2) s (spotAt_some hs).1).1
 unfold longW
 rw [hs]
 have := h1.r0
 have := h1.b0
 simp only [Spot.long]
 omega
theorem longs_nn {S : List Spot} {l : List Int} (h : ∀ x ∈ l, 0 ≤ longW S x) : 0 ≤ longsL S l := by
 induction l with
 | nil => simp [longsL]
 | cons x l ih =>
   have h1 := h x List.mem_cons_self
   have h2 := ih (fun y hy => h y (List.mem_cons_of_mem _ hy))
   simp only [longsL]
   omega
theorem Coll.free {S S' : St} {fr : Int} {L Y now : List Int} (h : Coll S S' fr L Y now) : 0 ≤ fr ∧ fr ≤ S.a.length ∧ S.a.length ≤ 256 ∧ fr + longsL (spotsL S.a) L = S.a.length ∧ fr = rsum (ggL S'.a) ∧ (∀ r ∈ ggL S'.a, 0 ≤ r.len ∧ r.len ≤ 256) ∧ (ggL S'.a).length ≤ S.p.length + 1 ∧ (ggL S'.a).length ≤ 257 := by
 obtain ⟨g1, g2, g3, g4, g5⟩ := (cleaned_of h.is).gaps h.is
 have h1 := longs_nn (S := spotsL S.a) (l := L) (fun x hx => longW_nn h.is.check (h.is.reached.begs x hx))
 have h2 := rsum_takeG g3 (ggL S'.a).length (Nat.le_refl _)
 rw [List.take_length] at h2
 have h3 := h.fr
 unfold freeL at h3
 unfold pinsL at g4
 rw [List.length_map] at g4
 exact ⟨by omega, by omega, (cleaned_of h.is).len256, by omega, h3, g3, g4, g5⟩
set_option maxRecDepth 100000 in
set_option maxHeartbeats 2000000 in
theorem hfree_any (A : Option Addr) (n c : Nat) (RA : Option Addr) (rn rc : Nat) (PA : Option Addr) (pn pc : Nat) (HA : Option Addr) (hn hc : Nat) (S : St) (w : World) (hR : StR w w.heap.size A n RA rn PA pn HA hn S) (hK : StK n c rn pn hn S) :
  Calls Tryz.prog 135 #[.agg #[.slice A n c, .slice RA rn rc, .slice PA pn pc, .slice HA hn hc]] w fun e w' => Below w.heap.size w w' ∧
   ((StOk S ∧ ∃ (S' : St) (fr : Int) (L Y now : List Int) (A1 : Option Addr) (c1 : Nat), Coll S S' fr L Y now ∧ e = .returned (.tuple #[.int .i64 fr, .slice A1 (ggL S'.a).length c1, .int .i64 0]) ∧
     w'.ownsRow w.heap.size 99 2 (.slice A1 (ggL S'.a).length c1) (ggL S'.a).length (runsC (ggL S'.a))) ∨
    (stE S ≠ 0 ∧ e = .returned (.tuple #[.int .i64 0, .slice none 0 0, .int .i64 (stE S)]))) := by
 have HCo := Lib.hid (fun w hR => collectFn_any A n c RA rn rc PA pn pc HA hn hc S w hR hK)
 have HE := Lib.hid (@stE_ok S)
 generalize stE S = E at *
 have hb1 := below_new w (.cells #[.slice A n c, .slice RA rn rc, .slice PA pn pc, .slice HA hn hc] 113)
 have DS := Blk.new w 113 #[.slice A n c, .slice RA rn rc, .slice PA pn pc, .slice HA hn hc]
 obtain ⟨s0, s1, s2, s3⟩ := DS.four
 go_enter Tryz.func135, Tryz.ntmps135
 go_wp2_with fail
 refine (HCo.out _ ((hR.below hb1).more hb1.size)).mono ?_
 rintro e w2 ⟨hb2, ⟨hOK, S', fr, L, Y, now, A1, c1, A2, c2, A3, c3, A4, c4, hC, rfl, hO⟩ | ⟨h0, rfl⟩⟩
 ·have hb02 := below_step hb1 hb2
  have hb03 := hb02.alloc hb02.size (.cells #[.slice A1 n c1, .slice A2 rn c2, .slice A3 pn c3, .slice A4 hn c4] 113)
  have DG := Blk.new w2 113 #[.slice A1 n c1, .slice A2 rn c2, .slice A3 pn c3, .slice A4 hn c4]
  obtain ⟨o0, o1, o2, o3⟩ := DG.four
  have HGp := Lib.hid (fun w hr => ggapsE_any A1 n c1 S'.a w hr (own_cap hO.a) (hC.wf hK.wf))
  have hrB := Reads.of_own (own_below hO.a (below_new w2 (.cells #[.slice A1 n c1, .slice A2 rn c2, .slice A3 pn c3, .slice A4 hn c4] 113)))
  obtain ⟨G, hG⟩ : ∃ G, G = ggL S'.a := ⟨_, rfl⟩
  have HG := Lib.hid hG
  rw [← hG] at HGp
  have HC := Lib.hid hC
  clear s0 s1 s2 s3 hO hC hG
  go_wp2_with fail
  refine (HGp.out _ hrB).mono ?_
  rintro e w4 ⟨hb4, A5, c5, rfl, hown⟩
  have hb04 := below_step hb03 hb4
  have HOW := Lib.hid (own_mono hown hb03.size)
  clear hown
  obtain ⟨g, hg⟩ : ∃ g, g = G.length := ⟨_, rfl⟩
  rw [← hg] at HOW
  have HGL := Lib.hid hg
  rw [← hg]
  clear hg
  go_wp2_with fail
  go_ret3
  refine ⟨hb04, .inl ⟨hOK, S', fr, L, Y, now, A5, c5, HC.out, ?_, ?_⟩⟩
  ·rw [← HG.out, ← HGL.out]; rfl
  ·rw [← HG.out, ← HGL.out]
   exact HOW.out
 ·have g1 : (E != 0) = true := by simpa using h0
  have hb02 := (below_step hb1 hb2)
  have hb03 := hb02.alloc hb02.size (.cells #[.slice none 0 0, .slice none 0 0, .slice none 0 0, .slice none 0 0] 113)
  go_wp2_with fail
  go_ret3
  exact ⟨hb03, .inr ⟨h0, rfl⟩⟩
def argE (N : Int) : Int := if N < 1 ∨ 256 < N then 1 else 0
def NeverRet (S : St) (N : Int) (e : Ending) : Prop := ∃ (S' : St) (fr : Int) (L Y now : List Int), Coll S S' fr L Y now ∧ e = .returned (.tuple #[.bool (decide (argE N = 0) && decide (fr < N)), .int .i64 (argE N)])
def SureRet (S : St) (pn : Nat) (N : Int) (e : Ending) : Prop := ∃ (S' : St) (fr : Int) (L Y now : List Int), Coll S S' fr L Y now ∧ e = .returned (.tuple #[.bool (decide (argE N = 0) && decide ((pn + 1) * N ≤ fr)), .int .i64 (argE N)])
set_option maxRecDepth 100000 in
set_option maxHeartbeats 2000000 in
theorem live_any (A : Option Addr) (n c : Nat) (RA : Option Addr) (rn rc : Nat) (PA : Option Addr) (pn pc : Nat) (HA : Option Addr) (hn hc : Nat) (S : St) (w : World) (hR : StR w w.heap.size A n RA rn PA pn HA hn S) (hK : StK n c rn pn hn S) :
  Calls Tryz.prog 102 #[.agg #[.slice A n c, .slice RA rn rc, .slice PA pn pc, .slice HA hn hc]] w fun e w' => Below w.heap.size w w' ∧
   ((StOk S ∧ ∃ (S' : St) (fr : Int) (L Y now : List Int), Coll S S' fr L Y now ∧ e = .returned (.tuple #[.int .i64 (n - fr), .int .i64 0])) ∨
    (stE S ≠ 0 ∧ e = .returned (.tuple #[.int .i64 0, .int .i64 (stE S)]))) := by
 have HF := Lib.hid (fun w hR => hfree_any A n c RA rn rc PA pn pc HA hn hc S w hR hK)
 have HL := Lib.hid hR.lens.1
 generalize stE S = E at *
 have hb1 := below_new w (.cells #[.slice A n c, .slice RA rn rc, .slice PA pn pc, .slice HA hn hc] 113)
 have DS := Blk.new w 113 #[.slice A n c, .slice RA rn rc, .slice PA pn pc, .slice HA hn hc]
 obtain ⟨s0, s1, s2, s3⟩ := DS.four
 go_enter Tryz.func102, Tryz.ntmps102
 go_wp2_with fail
 refine (HF.out _ ((hR.below hb1).more hb1.size)).mono ?_
 rintro e w2 ⟨hb2, ⟨hOK, S', fr, L, Y, now, A1, c1, hC, rfl, hO⟩ | ⟨h0, rfl⟩⟩
 ·have hb02 := below_step hb1 hb2
  have DS := DS.below hb2 DS.lt
  obtain ⟨s0, s1, s2, s3⟩ := DS.four
  obtain ⟨f0, f1, f2, -⟩ := hC.free
  have HC := Lib.hid hC
  rw [HL.out] at f1 f2
  have hw : IntKind.i64.wrap ((n : Int) - fr) = n - fr := IntWalk.i64_in _ (by omega)
  generalize (ggL S'.a).length = g at *
  clear hC hO
  go_wp2_with fail
  go_ret2
  exact ⟨hb02, .inl ⟨hOK, S', fr, L, Y, now, HC.out, rfl⟩⟩
 ·have g1 : (E != 0) = true := by simpa using h0
  have hb02 := (below_step hb1 hb2)
  clear s0 s1 s2 s3
  go_wp2_with fail
  go_ret2
  exact ⟨hb02, .inr ⟨h0, rfl⟩⟩
def mostL : Int → List Rn → Int
 | m, [] => m
 | m, r :: l => mostL (max m r.len) l
open Classical in
noncomputable def roomOf (S : St) : Int := if h : ∃ fr, ∃ (S' : St) (L Y now : List Int), Coll S S' fr L Y now then h.choose else 0
def holdE (S : St) (N : Int) : Int := if stE S ≠ 0 then stE S else argE N
noncomputable def neverB (S : St) (N : Int) : Bool := decide (holdE S N = 0) && decide (roomOf S < N)
noncomputable def sureB (S : St) (pn : Nat) (N : Int) : Bool := decide (holdE S N = 0) && decide (((pn : Int) + 1) * N ≤ roomOf S)
def nfW : List Chk → Int
 | [] => 0
 | c :: cs => (if c.f then 0 else (c.len : Int)) + nfW cs
theorem makeE_zero {S : St} {slot r b t : Int} {f : Bool} (h : makeE S slot r b t f = 0) : StOk S ∧ f = false ∧ headE r b t false = 0 ∧ ∃ k : Nat, slot = k ∧ k < S.r.length := by
 unfold makeE at h
 split at h
 ·rename_i h0; exact absurd h h0
 ·rename_i h0
  split at h
  ·cases h
  ·rename_i h1
   split at h
   ·rename_i h2; exact absurd h h2
   ·rename_i h2
    split at h
    ·cases h
    ·rename_i h3
     have hf : f = false := by simpa using h3
     subst hf
     exact ⟨stE_ok.1 (by simpa using h0), rfl, by simpa using h2, slot.toNat, by omega, by omega⟩
theorem taken_wf {a : List Int} (hc : checkE a = 0) (ha : W64 a) {j : Nat} {g : Rn} {r b t : Int} (hG : FirstGap a (1 + r + b) j g) (hE : headE r b t false = 0) : W64 (takenA a g r b t) := by
 obtain ⟨i, m, rfl, h1, h2⟩ := gap_facts hc (List.mem_of_getElem? hG.at_)
 have h256 := (parse_ok (checkE_ok.1 hc).1).1
 have hJ := join_ok hc
 have hwj : W64 (joined a) := by
  refine joinL_w64 _ _ ha (fun q hq => ?_)
  obtain ⟨i, k, rfl, h1, h2⟩ := hJ.runs q hq
  simp only [Int.toNat_natCast]
  omega
 unfold takenA takeL
 refine layL_w64 (set_w64 (fillL_w64 hwj) (word_wf hE)) ?_
 simp only [Int.toNat_natCast]
 omega
structure FreshIs (S T : St) (k : Nat) (r b t : Int) (x : Int) : Prop where
 ok : StOk T
 root : T.r[k]? = some x
 loc : 0 ≤ x
 spot : (⟨x, r, b, t, false⟩ : Spot) ∈ spotsL T.a
 zero : ∀ v ∈ bodyOf T.a ⟨x, r, b, t, false⟩, v = 0
 alike : ∀ (os os' : List Ob) (fo fo' : List Int), FormIs S.a (rootedL ⟨S.a, S.r.set k (-1), S.p, S.l⟩) os fo → FormIs T.a (rootedL ⟨T.a, T.r.set k (-1), T.p, T.l⟩) os' fo' → os = os' ∧ fo = fo'
def FullIs (S : St) (r b : Int) : Prop := ∃ (S' : St) (fr : Int) (L Y now : List Int), Coll S S' fr L Y now ∧ mostL 0 (ggL S'.a) < 1 + r + b
theorem there_of {S : St} (hS : StOk S) {X : Int} (hX : X ∈ S.begs) : thereB X = true := by
 have h1 := begs_lt hS.arena (hS.live X hX)
 have h2 := (parse_ok (checkE_ok.1 hS.arena).1).1
 simp [thereB]
 omega
theorem countP_nn {l : List Rn} (h : PinsOk l) (x : Int) : 0 ≤ countP l x := by
 by_cases hx : ∃ y ∈ l, y.loc = x
 ·obtain ⟨y, hy, rfl⟩ := hx
  rw [countP_some h hy]
  have := bad_no.1 (h.ok y hy)
  omega
 ·rw [countP_none (fun y hy e => hx ⟨y, hy, e⟩)]
  omega
theorem pin_law {S : St} (hS : StOk S) {X : Int} (hX : X ∈ S.begs) {j : Nat} (h : PinOk S X j) : StOk ⟨S.a, S.r, moreP S.p X j (countP S.p X + 1), S.l⟩ := by
 obtain ⟨h1, h2, h3⟩ := h
 have h0 := countP_nn hS.pins X
 have hp := hS.pins.more h1 (there_of hS hX) (v := countP S.p X + 1) (by omega) (by omega) h3
 refine hS.pinsSet hp (fun y hy => ?_)
 rcases (moreP_mem h1 hS.pins.rise y).1 hy with rfl | ⟨hy, -⟩
 ·exact hX
 ·exact pin_at hy
theorem body_ix {a : List Int} {s : Spot} {K : Nat} (hK : (K : Int) < s.b) : (bodyOf a s)[K]? = a[s.loc.toNat + 1 + s.r.toNat + K]? := by
 unfold bodyOf
 rw [List.getElem?_take, if_pos (by omega), List.getElem?_drop]
end Go.Proofs.YtblkhipbhahmeaaGreatDoor
