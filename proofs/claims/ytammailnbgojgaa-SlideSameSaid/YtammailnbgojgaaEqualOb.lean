/-
  package same: equal.
-/
import Derived.Test.YtammailnbgojgaaObjects
import Derived.Test.YtammailnbgojgaaSlices
import Derived.Test.YtammailnbgojgaaSlicesInt
namespace Go.Proofs.Ytammailnbgojgaa
open Go.RowKit

set_option maxRecDepth 100000 in
set_option maxHeartbeats 1000000 in
theorem equalOb_any (o1 o2 : Ob) (v1 v2 : ObV) (w : World) (h1 : ObR w w.heap.size o1 v1) (h2 : ObR w w.heap.size o2 v2) (hn1 : v1.n1 ≤ 1000000 ∧ v1.n2 ≤ 1000000) (hn2' : v2.n1 ≤ 1000000 ∧ v2.n2 ≤ 1000000) :
    Calls Try.prog 30 #[.agg #[.int .i64 v1.t, .slice v1.A1 v1.n1 v1.c1, .slice v1.A2 v1.n2 v1.c2, .bool v1.f], .agg #[.int .i64 v2.t, .slice v2.A1 v2.n1 v2.c1, .slice v2.A2 v2.n2 v2.c2, .bool v2.f]] w fun e w' => e = .returned (.bool (decide (o1 = o2))) ∧ Below w.heap.size w w' := by
  obtain ⟨a1, a2, -, -, -, -, a7, a8⟩ := h1
  obtain ⟨b1, b2, -, -, -, -, b7, b8⟩ := h2
  obtain ⟨t1, A1, n1, c1, A2, n2, c2, f1⟩ := v1
  obtain ⟨t2, B1, m1, d1, B2, m2, d2, f2⟩ := v2
  obtain ⟨s1, r1, y1, g1⟩ := o1
  obtain ⟨s2, r2, y2, g2⟩ := o2
  dsimp only at *
  subst a1 a2 b1 b2
  obtain ⟨hn1, hn2⟩ := hn1
  obtain ⟨hm1, hm2⟩ := hn2'
  have hbw := (below_new w (.cells #[.int .i64 t1, .slice A1 n1 c1, .slice A2 n2 c2, .bool f1] 63)).alloc (by simp) (.cells #[.int .i64 t2, .slice B1 m1 d1, .slice B2 m2 d2, .bool f2] 63)
  have HBW := Lib.hid hbw
  have HI := Lib.hid (fun W (hr : Below w.heap.size w W) => equal_int A1 B1 n1 c1 m1 d1 _ _ r1 r2 W (a7.below hr) (b7.below hr) (by omega) (by omega))
  have HU := Lib.hid (fun W (hr : Below w.heap.size w W) => equal_u64 A2 B2 n2 c2 m2 d2 _ _ y1 y2 W (a8.below hr) (b8.below hr) (by omega) (by omega))
  clear a7 a8 b7 b8 hbw hn1 hn2 hm1 hm2
  by_cases e1 : t1 = t2
  · subst e1
    by_cases e2 : f1 = f2
    · subst e2
      by_cases e3 : r1 = r2
      · have HE3 : Hid (decide (r1 = r2) = true) := decide_eq_true e3
        by_cases e4 : y1 = y2
        · have HE4 : Hid (decide (y1 = y2) = true) := decide_eq_true e4
          have HD : Hid (decide ((⟨t1, r1, y1, f1⟩ : Ob) = ⟨t1, r2, y2, f1⟩) = true) := by show _ = _; rw [e3, e4]; exact decide_eq_true rfl
          clear e3 e4
          go_enter Try.func30, Try.ntmps30
          go_wp2_with fail
          refine (HI.out _ HBW.out).mono ?_
          rw [HE3.out]
          rintro e w1 ⟨rfl, q, rfl⟩
          go_wp2_with fail
          refine (HU.out _ (below_drewN HBW.out q)).mono ?_
          rw [HE4.out]
          rintro e w1 ⟨rfl, q2, rfl⟩
          go_wp2
          go_ret
          exact ⟨by rw [HD.out]; rfl, below_drewN HBW.out _⟩
        · have HE4 : Hid (decide (y1 = y2) = false) := decide_eq_false e4
          have HD : Hid (decide ((⟨t1, r1, y1, f1⟩ : Ob) = ⟨t1, r2, y2, f1⟩) = false) := by show _ = _; rw [decide_eq_false]; intro h; injection h with _ _ h _; exact e4 h
          clear e3 e4
          go_enter Try.func30, Try.ntmps30
          go_wp2_with fail
          refine (HI.out _ HBW.out).mono ?_
          rw [HE3.out]
          rintro e w1 ⟨rfl, q, rfl⟩
          go_wp2_with fail
          refine (HU.out _ (below_drewN HBW.out q)).mono ?_
          rw [HE4.out]
          rintro e w1 ⟨rfl, q2, rfl⟩
          go_wp2
          go_ret
          exact ⟨by rw [HD.out]; rfl, below_drewN HBW.out _⟩
      · have HE3 : Hid (decide (r1 = r2) = false) := decide_eq_false e3
        have HD : Hid (decide ((⟨t1, r1, y1, f1⟩ : Ob) = ⟨t1, r2, y2, f1⟩) = false) := by show _ = _; rw [decide_eq_false]; intro h; injection h with _ h _ _; exact e3 h
        clear e3
        go_enter Try.func30, Try.ntmps30
        go_wp2_with fail
        refine (HI.out _ HBW.out).mono ?_
        rw [HE3.out]
        rintro e w1 ⟨rfl, q, rfl⟩
        go_wp2
        go_ret
        exact ⟨by rw [HD.out]; rfl, below_drewN HBW.out q⟩
    · have HD : Hid (decide ((⟨t1, r1, y1, f1⟩ : Ob) = ⟨t1, r2, y2, f2⟩) = false) := by show _ = _; rw [decide_eq_false]; intro h; injection h with _ _ _ h; exact e2 h
      have e2' : (f1 == f2) = false := by simpa using e2
      clear e2
      go_enter Try.func30, Try.ntmps30
      go_wp2
      go_ret
      exact ⟨by rw [HD.out]; rfl, HBW.out⟩
  · have HD : Hid (decide ((⟨t1, r1, y1, f1⟩ : Ob) = ⟨t2, r2, y2, f2⟩) = false) := by show _ = _; rw [decide_eq_false]; intro h; injection h with h; exact e1 h
    have e1' : (t1 == t2) = false := by simpa using e1
    clear e1
    go_enter Try.func30, Try.ntmps30
    go_wp2
    go_ret
    exact ⟨by rw [HD.out]; rfl, HBW.out⟩
end Go.Proofs.Ytammailnbgojgaa
