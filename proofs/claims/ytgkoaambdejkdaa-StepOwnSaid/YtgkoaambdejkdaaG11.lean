/-
  Texts joined: YoungFns AgeLaw YoungCheck YoungCome.
-/
import Derived.Deep.RegionHeld3
import Derived.StillTailTactics
import Derived.IntWalk
import Derived.Test.YtgkoaambdejkdaaG1
import Derived.Test.YtgkoaambdejkdaaG2
import Derived.Test.YtgkoaambdejkdaaG3
import Derived.Test.YtgkoaambdejkdaaG4
import Derived.Test.YtgkoaambdejkdaaG7
import Derived.Test.YtgkoaambdejkdaaG9
namespace Go.Proofs.Ytgkoaambdejkdaa
open Go.RowKit
set_option maxRecDepth 100000 in
set_option maxHeartbeats 1000000 in
theorem youngObjects_any (A : Option Addr) (n c : Nat) (a : List Int) (w : World) (hr : Reads w w.heap.size 1 A n (a.map (.int .u64))) (ha : ∀ x ∈ a, (Lit.int .u64 x).wf = true) (h0 : spotsE a = 0) :
    Calls Try.prog 59 #[.slice A n c] w fun e w' => ∃ b, e = .returned (.map (some b)) ∧ w.heap.size ≤ b ∧ MapIs w' Try.prog 3 .i64 b 300 (headF (spotsL a)) ∧ Below w.heap.size w w' := by
  have H2 := Lib.hid (spots_any A n c a w hr ha)
  rw [h0] at H2
  have hrise := spots_rise h0
  have hbnd := spots_bounds h0
  have hm256 := spotsL_length a
  generalize spotsL a = S at *
  obtain ⟨m, hm⟩ : ∃ m, m = S.length := ⟨_, rfl⟩
  rw [← hm] at H2 hm256
  have HM := Lib.hid hm
  have HR := Lib.hid hrise
  have HB := Lib.hid hbnd
  have hmm := @run_makeMap Try.prog
  clear h0 hm hrise hbnd ha
  go_enter Try.func59, Try.ntmps59
  go_wp2_with fail
  refine H2.out.mono ?_
  rintro e w1 ⟨hb1, A3, c3, rfl, hown⟩
  have hw1 := hb1.size
  have hM0 := MapIs.made w1 Try.prog 3 .i64
  have hb2 := below_step hb1 (below_new w1 (.map #[] 0))
  have HS0 := Lib.hid (hown.alloc (.map #[] 0))
  clear hown hb1
  go_wp2
  go_loopw [16] (fun i wr => ∃ (j : Nat), j ≤ m ∧ i = .int .i64 j ∧ MapIs wr Try.prog 3 .i64 w1.heap.size j (headF (S.take j)) ∧ Below w.heap.size w wr ∧ Hid (wr.ownsRow w.heap.size 89 5 (.slice A3 m c3) m (spotsC S))) (fun i _ => m - (intOf i).toNat)
  case atStart => exact ⟨0, Nat.zero_le _, rfl, hM0, hb2, HS0⟩
  case round =>
    obtain ⟨j, hj, rfl, hM, hb, HRS⟩ := hrel
    by_cases hlt : j < m
    · obtain ⟨ad, s, rfl, had, hs, c0, c1, c2', c3', c4⟩ := (Reads.of_own HRS.out).spot hlt
      have hq := HB.out s (List.mem_of_getElem? hs)
      have HT : Hid (S.take (j + 1) = S.take j ++ [s]) := by
        show _ = _
        obtain ⟨h1, rfl⟩ := List.getElem?_eq_some_iff.1 hs
        exact List.take_succ_eq_append_getElem h1
      have HJ : Hid (∀ x ∈ S.take j, x.loc < s.loc) := by
        intro x hx
        rw [List.mem_take_iff_getElem] at hx
        obtain ⟨i, hi, rfl⟩ := hx
        obtain ⟨h1, rfl⟩ := List.getElem?_eq_some_iff.1 hs
        exact List.pairwise_iff_getElem.1 HR.out i j (by omega) h1 (by omega)
      obtain ⟨loc, r, b, t, fr⟩ := s
      dsimp only at c0 c1 c2' c3' c4 hq
      have hMx := hM.alloc (.cells #[.int .i64 loc, .int .i64 r, .int .i64 b, .int .i64 t, .bool fr] 89)
      have hbx := hb.alloc hb.size (.cells #[.int .i64 loc, .int .i64 r, .int .i64 b, .int .i64 t, .bool fr] 89)
      have hSx := Blk.new wr 89 #[.int .i64 loc, .int .i64 r, .int .i64 b, .int .i64 t, .bool fr]
      have HRx := Lib.hid (HRS.out.alloc (.cells #[.int .i64 loc, .int .i64 r, .int .i64 b, .int .i64 t, .bool fr] 89))
      have hj1 : j + 1 ≤ m := hlt
      have hws := hb.size
      have s0 := hSx.cell 0
      have s1 := hSx.cell 1
      have s2 := hSx.cell 2
      have s3 := hSx.cell 3
      have s4 := hSx.cell 4
      simp only [List.getElem?_toArray, List.getElem?_cons_zero, List.getElem?_cons_succ] at s0 s1 s2 s3 s4
      clear hs HRS
      cases fr
      · have HP := Lib.hid (headF_snoc (l := S.take j) (s := ⟨loc, r, b, t, false⟩) rfl HJ.out)
        rw [← HT.out] at HP
        have hwl := hM.lt
        obtain ⟨w3, hupd, hM3, hg3⟩ := hMx.store (k := 3) (t := 79) Try.underlying3 Try.underlying79 (by unfold maxLen; omega) (x := loc) (by simp [Lit.wf, IntKind.min, IntKind.max, IntKind.signed, IntKind.bits]; omega) (.agg #[.int .i64 r, .int .i64 b, .int .i64 t, .bool false])
        have hb3 := hbx.grown hg3 (by exact hbx.size) (fun g hg => by injection hg with hg; omega)
        have HR3 : Hid (w3.ownsRow w.heap.size 89 5 (.slice (some ad) m c3) m (spotsC S)) := own_grown HRx.out hg3 (fun g hg h => by
          injection h with h
          subst h
          rcases HRx.out.2 with ⟨h2, -⟩ | ⟨g1, cap, cur, h2, -, hh, -⟩
          · cases h2
          · rw [h2] at hg
            simp only [Value.ownBlock, Option.some.injEq] at hg
            obtain ⟨D, ⟨es, ck, hmap, -⟩, -⟩ := hMx
            rw [hg, hmap] at hh
            cases hh)
        have HM3 := Lib.hid hM3
        clear hM hb hMx hbx HRx hM3
        go_wp2
        go_roundw
        case rel => exact ⟨j + 1, hj1, by go_num, by rw [HP.out]; exact HM3.out, hb3, HR3⟩
        case measure => simp [intOf]; omega
      · have HP : Hid (headF (S.take (j + 1)) = headF (S.take j)) := by show _ = _; rw [HT.out]; exact headF_free rfl
        clear hM hb
        go_wp2
        go_roundw
        case rel => exact ⟨j + 1, hj1, by go_num, by rw [HP.out]; exact hMx.mono (by omega), hbx, HRx⟩
        case measure => simp [intOf]; omega
    · have hjm : j = m := by omega
      have HMf : Hid (MapIs wr Try.prog 3 .i64 w1.heap.size 300 (headF S)) := by
        rw [hjm, List.take_of_length_le (by rw [HM.out]; exact Nat.le_refl _)] at hM
        exact hM.mono (by omega)
      have g0 : decide (j < m) = false := decide_eq_false hlt
      clear hjm hM HRS
      go_wp2
      go_ret
      exact ⟨_, rfl, hw1, HMf.out, hb⟩
set_option maxRecDepth 100000 in
set_option maxHeartbeats 1000000 in
theorem youngNamed_any (A : Option Addr) (n c : Nat) (a : List Int) (s : Spot) (fr : Bool) (w : World) (hr : Reads w w.heap.size 1 A n (a.map (.int .u64))) (hnc : n ≤ c) (hn : n ≤ 256) (hok : SpotOk a s)
    (hlk : ∀ v ∈ refsOf a s, v = 0 ∨ 1 ≤ v ∧ v ≤ 256) :
    Calls Try.prog 68 #[.slice A n c, .int .i64 s.loc, .agg #[.int .i64 s.r, .int .i64 s.b, .int .i64 s.t, .bool fr]] w fun e w' => Below w.heap.size w w' ∧ ∃ A' c', e = .returned (.slice A' (linksL a s).length c') ∧ w'.ownsRow w.heap.size 3 1 (.slice A' (linksL a s).length c') (linksL a s).length ((linksL a s).map (.int .i64)) := by
  have hal : a.length = n := by have := hr.1; simpa using this
  have hrl := refsOf_length hok
  have HLd : Hid (linksL a s = linksP (refsOf a s)) := rfl
  rw [HLd.out]
  have HRS : Hid (refsOf a s = (a.drop (s.loc.toNat + 1)).take s.r.toNat) := rfl
  have l0 := hok.loc0
  have r0 := hok.r0
  have b0 := hok.b0
  have ft := hok.fits
  generalize refsOf a s = rs at *
  obtain ⟨loc, r, bb, t, fr0⟩ := s
  simp only [Spot.long] at ft l0 r0 b0 hrl HRS ⊢
  obtain ⟨I, rfl⟩ := Int.eq_ofNat_of_zero_le l0
  obtain ⟨m, rfl⟩ := Int.eq_ofNat_of_zero_le r0
  simp only [Int.toNat_natCast] at hrl HRS
  rw [hal] at ft
  obtain ⟨p1, hp1⟩ : ∃ p1, p1 = I + 1 := ⟨_, rfl⟩
  obtain ⟨p2, hp2⟩ : ∃ p2, p2 = p1 + m := ⟨_, rfl⟩
  have w1 : IntKind.i64.wrap ((I : Int) + 1) = p1 := by rw [IntWalk.i64_in _ (by omega)]; omega
  have w2 : IntKind.i64.wrap ((p1 : Int) + m) = p2 := by rw [IntWalk.i64_in _ (by omega)]; omega
  have q1 : p1 ≤ p2 := by omega
  have q2 : p2 ≤ n := by omega
  have q3 : p2 ≤ c := by omega
  have q4 : p1 ≤ c := by omega
  have q5 : p2 - p1 = m := by omega
  rw [← hp1] at HRS
  obtain ⟨ad, rfl, had, -⟩ := hr.2 (by omega)
  have HLK := Lib.hid hlk
  have HRL := Lib.hid hrl
  have hk0 := (Blk.new w 78 #[.int .i64 m, .int .i64 bb, .int .i64 t, .bool fr]).cell 0
  simp only [List.getElem?_toArray, List.getElem?_cons_zero] at hk0
  have hb1 := below_new w (.cells #[.int .i64 m, .int .i64 bb, .int .i64 t, .bool fr] 78)
  obtain ⟨i0, hi, hz0, hz1, hz2⟩ := info_parts info_int
  clear hrl hlk hp1 hp2 hal hok
  by_cases hci : c = p1
  · have hci2 : (c == p1) = true := by simpa using hci
    have hm0 : m = 0 := by omega
    have hrs : rs = [] := List.eq_nil_of_length_eq_zero (by rw [HRL.out]; exact hm0)
    subst hrs
    have g0 : decide (0 < m) = false := decide_eq_false (by omega)
    clear hm0
    go_enter Try.func68, Try.ntmps68
    go_wp2
    go_loopw [7, 9, 20] (fun o _ i wr => o = .slice none 0 0 ∧ i = .int .i64 0 ∧ Below w.heap.size w wr) (fun _ _ _ _ => 0)
    case atStart => exact ⟨rfl, by first | rfl | simp, hb1⟩
    case round =>
      obtain ⟨rfl, rfl, hb⟩ := hrel
      go_wp2
      go_ret
      exact ⟨hb, none, 0, rfl, World.ownsRow_nil _ _ _ _⟩
  · have HG : Hid (∀ (wr : World) (j : Nat), j < m → Below w.heap.size w wr → ∃ v, rs[j]? = some v ∧ wr.cell? ((ad.add p1).add j) = some (.int .u64 v)) := by
      intro wr j hj hbw
      have h1 := (hr.below hbw).sub (lo := p1) (hi := p2) q1 q2 hnc
      rw [if_neg hci, q5] at h1
      have h2 : ((a.map (Value.int .u64)).drop p1).take m = rs.map (Value.int .u64) := by rw [HRS.out, List.map_take, List.map_drop]
      rw [h2] at h1
      obtain ⟨ad2, v, e2, -, hv, hc⟩ := h1.num hj
      simp only [Option.map_some, Option.some.injEq] at e2
      subst e2
      exact ⟨v, hv, hc⟩
    go_enter Try.func68, Try.ntmps68
    go_wp2
    go_loopw [7, 9, 20] (fun o _ i wr => ∃ (j k co : Nat) (Ao : Option Addr), j ≤ m ∧ i = .int .i64 j ∧ o = .slice Ao k co ∧ k ≤ j ∧ Hid (k = (linksP (rs.take j)).length) ∧ wr.ownsRow w.heap.size 3 1 (.slice Ao k co) k ((linksP (rs.take j)).map (.int .i64)) ∧ Below w.heap.size w wr) (fun _ _ i _ => m - (intOf i).toNat)
    case atStart => exact ⟨0, 0, 0, none, Nat.zero_le _, rfl, rfl, Nat.zero_le _, rfl, World.ownsRow_nil _ _ _ _, hb1⟩
    case round =>
      obtain ⟨j, k, co, Ao, hj, rfl, rfl, hkj, HK, HO, hb⟩ := hrel
      by_cases hlt : j < m
      · obtain ⟨v, hv, hc⟩ := HG.out wr j hlt hb
        have hlk := HLK.out v (List.mem_of_getElem? hv)
        have hj1 : j + 1 ≤ m := hlt
        by_cases h0 : v = 0
        · subst h0
          have HZ := Lib.hid (linksP_zero hv)
          clear hv
          go_wp2
          go_roundw
          case rel => exact ⟨j + 1, k, co, Ao, hj1, by go_num, rfl, by omega, by show _ = _; rw [HZ.out]; exact HK.out, by rw [HZ.out]; exact HO, hb⟩
          case measure => simp [intOf]; omega
        · obtain ⟨V, rfl⟩ : ∃ V : Nat, v = V := ⟨v.toNat, by omega⟩
          obtain ⟨z, hz⟩ : ∃ z : Nat, V = z + 1 := ⟨V - 1, by omega⟩
          have HZ := linksP_succ hv h0
          rw [show ((V : Int) - 1) = (z : Int) by omega] at HZ
          have HZ := Lib.hid HZ
          have z1 : ((V : Int) != 0) = true := by simp; omega
          have z2 : (V != 0) = true := by simp; omega
          have z3 : ¬ V = 0 := by omega
          have w4 : IntKind.i64.wrap (V : Int) = V := IntWalk.i64_in _ (by omega)
          have w5 : (V : Int) - 1 = z := by omega
          have w6 : IntKind.i64.wrap (z : Int) = z := IntWalk.i64_in _ (by omega)
          have hrn := reads_new wr [.int .i64 z] 3 1 1 rfl
          have hOy := HO.alloc (.cells #[.int .i64 z] 3)
          have hby := hb.alloc hb.size (.cells #[.int .i64 z] 3)
          have hws := hb.size
          clear hv hz HO hlk
          go_wp2_with (at_builtin; refine wpList_append_any _ rfl (.tmp 26) (.tmp 30) 23 rfl w.heap.size 3 i0 (.int .i64 0) 1 8 Try.underlying23 hi hz0 hz1 hz2 rfl (by decide) (.slice Ao k co) k _ rfl hOy _ (some ⟨wr.heap.size, 0, none⟩) 1 1 [.int .i64 z] rfl hrn (by simp [Value.oneCell']) (by unfold maxLen; omega) (by omega) (by simp; omega) ?_; rintro v' w3 hown3 hgr - -; obtain ⟨A5, c5, rfl⟩ := own_slice hown3)
          go_roundw
          case rel =>
            refine ⟨j + 1, k + 1, c5, A5, hj1, by go_num, rfl, by omega, ?_, ?_, hby.grown hgr hby.size (fun g hg => by have := (hOy.lt g hg).1; omega)⟩
            · show _ = _
              rw [HZ.out, List.length_append, ← HK.out]
              rfl
            · rw [HZ.out, List.map_append]
              exact hown3
          case measure => simp [intOf]; omega
      · have hjm : j = m := by omega
        rw [hjm, List.take_of_length_le (by rw [HRL.out]; exact Nat.le_refl _)] at HK HO
        have HO2 := Lib.hid HO
        have g0 : decide (j < m) = false := decide_eq_false hlt
        clear hjm HO
        go_wp2
        go_ret
        exact ⟨hb, Ao, co, by rw [← HK.out]; rfl, by rw [← HK.out]; exact HO2.out⟩
set_option maxRecDepth 100000 in
set_option maxHeartbeats 1000000 in
theorem youngRises_any (A : Option Addr) (n c B : Nat) (l : List Int) (w : World) (hr : Reads w B 1 A n (l.map (.int .i64))) (hn : n ≤ 1000000000000000000) (b : Bool) (hb : decide (l.Pairwise (fun x y => x < y)) = b) :
    Calls Try.prog 67 #[.slice A n c] w fun e w' => e = .returned (.bool b) ∧ Below w.heap.size w w' := by
  have hll : l.length = n := by have := hr.1; simpa using this
  have HL := Lib.hid hll
  have HB := Lib.hid hb
  clear hll hb
  go_enter Try.func67, Try.ntmps67
  go_wp2
  go_loopw [3, 4] (fun i _ wr => ∃ (j : Nat), 1 ≤ j ∧ (j ≤ n ∨ j = 1) ∧ i = .int .i64 j ∧ Hid (∀ k, k + 1 < j → ∀ x y, l[k]? = some x → l[k + 1]? = some y → x < y) ∧ ∃ q, wr = w.drewN q) (fun i _ _ => n - (intOf i).toNat)
  case atStart => exact ⟨1, Nat.le_refl _, .inr rfl, rfl, fun k hk => by omega, 0, rfl⟩
  case round =>
    obtain ⟨j, hj, hjn, rfl, HP, q, rfl⟩ := hrel
    by_cases hlt : j < n
    · obtain ⟨p, hjp⟩ : ∃ p, j = p + 1 := ⟨j - 1, by omega⟩
      have HJ := Lib.hid hjp
      obtain ⟨ad, x, rfl, had, hx, cx⟩ := hr.num (k := p) (by omega)
      obtain ⟨ad2, y, e2, -, hy, cy⟩ := hr.num (k := j) hlt
      obtain rfl : ad = ad2 := by injection e2
      have w1 : IntKind.i64.wrap ((j : Int) - 1) = p := by rw [IntWalk.i64_in _ (by omega)]; omega
      have w2 : (j : Int) - 1 = p := by omega
      have hpn : p < n := by omega
      have hj1 : j + 1 ≤ n := hlt
      have HX := Lib.hid hx
      have HY := Lib.hid hy
      clear hx hy hjp e2
      by_cases hge : y ≤ x
      · have HF : Hid (b = false) := by
          show _ = _
          rw [← HB.out]
          refine decide_eq_false (fun h => ?_)
          have := List.pairwise_iff_getElem.1 h p j (List.getElem?_eq_some_iff.1 HX.out).1 (List.getElem?_eq_some_iff.1 HY.out).1 (by have := HJ.out; omega)
          rw [(List.getElem?_eq_some_iff.1 HX.out).2, (List.getElem?_eq_some_iff.1 HY.out).2] at this
          omega
        have g0 : decide (y ≤ x) = true := decide_eq_true hge
        obtain rfl := HF.out
        go_wp2
        go_quiet (fail)
        go_wp2
        go_ret
        exact ⟨rfl, below_drewN (below_drewN (Below.refl _ _) _) _⟩
      · have g0 : decide (y ≤ x) = false := decide_eq_false hge
        have HP2 : Hid (∀ k, k + 1 < j + 1 → ∀ x y, l[k]? = some x → l[k + 1]? = some y → x < y) := by
          intro k hk u v hu hv
          by_cases hkp : k = p
          · subst hkp
            rw [← HJ.out] at hv
            obtain rfl := Option.some.inj (hu.symm.trans HX.out)
            obtain rfl := Option.some.inj (hv.symm.trans HY.out)
            omega
          · exact HP.out k (by have := HJ.out; omega) u v hu hv
        go_wp2
        go_quiet (fail)
        go_wp2
        go_roundw
        case rel => exact ⟨j + 1, by omega, .inl hj1, by go_num, HP2, _, rfl⟩
        case measure => simp [intOf]; omega
    · have HF : Hid (b = true) := by
        show _ = _
        rw [← HB.out]
        refine decide_eq_true (rise_adj fun k x y hx hy => ?_)
        have := (List.getElem?_eq_some_iff.1 hy).1
        exact HP.out k (by have := HL.out; omega) x y hx hy
      have g0 : decide (j < n) = false := decide_eq_false hlt
      obtain rfl := HF.out
      go_wp2
      go_ret
      exact ⟨rfl, below_drewN (Below.refl _ _) _⟩
end Go.Proofs.Ytgkoaambdejkdaa

namespace Go.Proofs.Ytgkoaambdejkdaa
open Go.RowKit
structure AgesOk (a o t : List Int) : Prop where
  ok : checkE a = 0
  orr : o.Pairwise (fun x y => x < y)
  nr : t.Pairwise (fun x y => x < y)
  ob : ∀ x ∈ o, x ∈ begsL (spotsL a)
  nb : ∀ x ∈ t, x ∈ o
  held : ∀ x ∈ o, x ∉ t → ∀ y ∈ linksAt a (spotsL a) x, y ∈ o
theorem AgesOk.lens {a o t : List Int} (h : AgesOk a o t) : o.length ≤ 256 ∧ t.length ≤ 256 ∧ a.length ≤ 256 := by
  have h0 := (checkE_ok.1 h.ok).1
  have h2 : (begsL (spotsL a)).length ≤ 256 := by
    unfold begsL
    rw [List.length_map]
    have := List.length_filter_le (fun s : Spot => !s.f) (spotsL a)
    have := spotsL_length a
    omega
  have h3 := nodup_len (rise_nodup h.orr) h.ob
  have h4 := nodup_len (rise_nodup h.nr) h.nb
  exact ⟨by omega, by omega, (parse_ok h0).1⟩
def noteL (o t : List Int) (x y : Int) : List Int := if 0 ≤ y ∧ x ∈ o ∧ y ∉ o then putL t x else t
theorem noteL_sub {o t : List Int} {x y z : Int} (h : z ∈ t) : z ∈ noteL o t x y := by
  unfold noteL
  split
  · exact putL_mem.2 (.inl h)
  · exact h
theorem ages_write {a o t : List Int} (h : AgesOk a o t) {s : Spot} (hs : spotAt (spotsL a) s.loc = some s) {ref : Nat} (hk : (ref : Int) < s.r) {y : Int} (hy : y = -1 ∨ y ∈ begsL (spotsL a)) :
    AgesOk (writeL a s ref y) o (noteL o t s.loc y) := by
  obtain ⟨hm, -, -⟩ := spotAt_some hs
  obtain ⟨w1, w2, w3, w4⟩ := write_law h.ok hm hk hy
  have hyb := begsL_bounds (checkE_ok.1 h.ok).1
  refine ⟨w1, h.orr, ?_, by rw [w3]; exact h.ob, fun z hz => ?_, fun x hx hnt z hz => ?_⟩
  · unfold noteL
    split
    · exact putL_rise h.nr
    · exact h.nr
  · unfold noteL at hz
    split at hz
    · rename_i hc
      rcases putL_mem.1 hz with h1 | rfl
      · exact h.nb z h1
      · exact hc.2.1
    · exact h.nb z hz
  · rw [w3] at hz
    have hnt2 : x ∉ t := fun h2 => hnt (noteL_sub h2)
    rcases w4 x z hz with h1 | ⟨rfl, rfl, h2⟩
    · exact h.held x hx hnt2 z h1
    · have hz0 : 0 ≤ z := by
        rcases hy with h3 | h3
        · exact absurd h3 h2
        · exact (hyb z h3).1
      by_cases hzo : z ∈ o
      · exact hzo
      · refine absurd ?_ hnt
        unfold noteL
        rw [if_pos ⟨hz0, hx, hzo⟩]
        exact putL_mem.2 (.inr rfl)
def comeL (o out : List Int) (x : Int) : List Int := if x ∈ o ∨ x ∈ out then out else out ++ [x]
theorem comeL_sub {o out : List Int} {x y : Int} (h : y ∈ out) : y ∈ comeL o out x := by
  unfold comeL
  split
  · exact h
  · exact List.mem_append_left _ h
theorem comeL_has (o out : List Int) (x : Int) : x ∈ o ∨ x ∈ comeL o out x := by
  unfold comeL
  split
  · rename_i h; exact h
  · exact .inr (by simp)
theorem comeL_mem {o out : List Int} {x y : Int} (h : y ∈ comeL o out x) : y ∈ out ∨ (y = x ∧ x ∉ o) := by
  unfold comeL at h
  split at h
  · exact .inl h
  · rename_i hn
    rcases List.mem_append.1 h with h1 | h1
    · exact .inl h1
    · exact .inr ⟨by simpa using h1, fun h2 => hn (.inl h2)⟩
theorem comeL_get {o out : List Int} {x y : Int} {k : Nat} (h : out[k]? = some y) : (comeL o out x)[k]? = some y := by
  unfold comeL
  split
  · exact h
  · rw [List.getElem?_append_left (List.getElem?_eq_some_iff.1 h).1]; exact h
theorem comeL_back {o out : List Int} {x y : Int} {k : Nat} (hk : k < out.length) (h : (comeL o out x)[k]? = some y) : out[k]? = some y := by
  unfold comeL at h
  split at h
  · exact h
  · rwa [List.getElem?_append_left hk] at h
theorem comeL_nodup {o out : List Int} {x : Int} (h : out.Nodup) : (comeL o out x).Nodup := by
  unfold comeL
  split
  · exact h
  · rename_i hx
    exact List.nodup_append.2 ⟨h, by simp, by rintro a ha b hb rfl; simp at hb; subst hb; exact hx (.inr ha)⟩
theorem comeL_len (o out : List Int) (x : Int) : out.length ≤ (comeL o out x).length := by unfold comeL; split <;> simp
structure Coming (a o out : List Int) (i : Nat) : Prop where
  begs : ∀ x ∈ out, x ∈ begsL (spotsL a)
  young : ∀ x ∈ out, x ∉ o
  once : out.Nodup
  seen : ∀ k x, k < i → out[k]? = some x → ∀ y ∈ linksAt a (spotsL a) x, y ∈ o ∨ y ∈ out
theorem Coming.nil (a o : List Int) : Coming a o [] 0 := ⟨by simp, by simp, by simp, by simp⟩
theorem Coming.come {a o out : List Int} {i : Nat} (h : Coming a o out i) (hi : i ≤ out.length) {x : Int} (hx : x ∈ begsL (spotsL a)) : Coming a o (comeL o out x) i :=
  ⟨fun y hy => (comeL_mem hy).elim (h.begs y) (fun e => by rw [e.1]; exact hx), fun y hy => (comeL_mem hy).elim (h.young y) (fun e => by rw [e.1]; exact e.2), comeL_nodup h.once,
   fun k y hk hy z hz => (h.seen k y hk (comeL_back (by omega) hy) z hz).imp id comeL_sub⟩
theorem Coming.len {a o out : List Int} {i : Nat} (h : Coming a o out i) (ha : spotsE a = 0) : out.length ≤ 256 := nodup_bound 256 out h.once (fun x hx => begsL_bounds ha x (h.begs x hx))
theorem Coming.comes {a o : List Int} {i : Nat} : ∀ (l out : List Int), Coming a o out i → i ≤ out.length → (∀ y ∈ l, y ∈ begsL (spotsL a)) →
    Coming a o (l.foldl (comeL o) out) i ∧ out.length ≤ (l.foldl (comeL o) out).length ∧ (∀ y ∈ out, y ∈ l.foldl (comeL o) out) ∧ (∀ y ∈ l, y ∈ o ∨ y ∈ l.foldl (comeL o) out) ∧ ∀ (k : Nat) (x : Int), out[k]? = some x → (l.foldl (comeL o) out)[k]? = some x
  | [], out, h, hi, _ => ⟨h, Nat.le_refl _, fun y hy => hy, by simp, fun k x hx => hx⟩
  | y :: l, out, h, hi, hl => by
    have hlen := comeL_len o out y
    obtain ⟨i1, i2, i3, i4, i5⟩ := Coming.comes l (comeL o out y) (h.come hi (hl y List.mem_cons_self)) (by omega) (fun z hz => hl z (List.mem_cons_of_mem _ hz))
    refine ⟨i1, by simp only [List.foldl_cons]; omega, fun z hz => i3 z (comeL_sub hz), fun z hz => ?_, fun k x hx => i5 k x (comeL_get hx)⟩
    rcases List.mem_cons.1 hz with rfl | hz
    · exact (comeL_has o out z).imp id (i3 z)
    · exact i4 z hz
theorem Coming.next {a o out : List Int} {i : Nat} {x : Int} (h : Coming a o out i) (hx : out[i]? = some x) (hc : ∀ y ∈ linksAt a (spotsL a) x, y ∈ o ∨ y ∈ out) : Coming a o out (i + 1) :=
  ⟨h.begs, h.young, h.once, fun k z hk hz y hy => by
    by_cases hki : k = i
    · subst hki
      obtain rfl := Option.some.inj (hx.symm.trans hz)
      exact hc y hy
    · exact h.seen k z (by omega) hz y hy⟩
structure KeptY (a o t f L : List Int) : Prop where
  begs : ∀ x ∈ L, x ∈ begsL (spotsL a)
  young : ∀ x ∈ L, x ∉ o
  roots : ∀ x ∈ f, x ∈ o ∨ x ∈ L
  noted : ∀ x ∈ t, ∀ y ∈ linksAt a (spotsL a) x, y ∈ o ∨ y ∈ L
  closed : ∀ x ∈ L, ∀ y ∈ linksAt a (spotsL a) x, y ∈ o ∨ y ∈ L
  once : L.Nodup
theorem Coming.done {a o t f out : List Int} (h : Coming a o out out.length) (hf : ∀ x ∈ f, x ∈ o ∨ x ∈ out) (ht : ∀ x ∈ t, ∀ y ∈ linksAt a (spotsL a) x, y ∈ o ∨ y ∈ out) : KeptY a o t f (sortL out) :=
  ⟨fun x hx => h.begs x (sortL_mem.1 hx), fun x hx => h.young x (sortL_mem.1 hx), fun x hx => (hf x hx).imp id sortL_mem.2, fun x hx y hy => (ht x hx y hy).imp id sortL_mem.2, fun x hx y hy => by
    obtain ⟨k, hk⟩ := List.mem_iff_getElem?.1 (sortL_mem.1 hx)
    exact (h.seen k x (List.getElem?_eq_some_iff.1 hk).1 hk y hy).imp id sortL_mem.2, (sortL_perm out).nodup_iff.2 h.once⟩
def olderL (o L : List Int) : List Int := sortL (o ++ L)
theorem olderL_mem {o L : List Int} {x : Int} : x ∈ olderL o L ↔ x ∈ o ∨ x ∈ L := by unfold olderL; rw [sortL_mem, List.mem_append]
theorem KeptY.older {a o t f L : List Int} (h : KeptY a o t f L) (hA : AgesOk a o t) : (olderL o L).Pairwise (fun x y => x < y) ∧ (∀ x ∈ olderL o L, x ∈ begsL (spotsL a)) ∧ (∀ x ∈ olderL o L, ∀ y ∈ linksAt a (spotsL a) x, y ∈ olderL o L) := by
  refine ⟨rise_of (sortL_sorted _) ((sortL_perm _).nodup_iff.2 (List.nodup_append.2 ⟨rise_nodup hA.orr, h.once, fun x hx y hy e => by subst e; exact h.young x hy hx⟩)), fun x hx => ?_, fun x hx y hy => olderL_mem.2 ?_⟩
  · rcases olderL_mem.1 hx with h1 | h1
    · exact hA.ob x h1
    · exact h.begs x h1
  · rcases olderL_mem.1 hx with h1 | h1
    · by_cases hxt : x ∈ t
      · exact h.noted x hxt y hy
      · exact .inl (hA.held x h1 hxt y hy)
    · exact h.closed x h1 y hy
end Go.Proofs.Ytgkoaambdejkdaa

namespace Go.Proofs.Ytgkoaambdejkdaa
open Go.RowKit
def AgeRet (a g b : List Int) (e : Ending) : Prop := ∃ E, e = .returned (.int .i64 E) ∧ (E = 0 ↔ AgesOk a g b)
set_option maxHeartbeats 400000 in
theorem youngCheck1_any (x : Int) (bt : Nat) (A : Option Addr) (n c : Nat) (G : Option Addr) (gn gc : Nat) (K : Option Addr) (kn kc B : Nat) (g : List Int) (w : World) (hb : Blk w bt 52 #[.slice A n c, .slice G gn gc, .slice K kn kc]) (hg : Reads w B 1 G gn (g.map (.int .i64))) (hgn : gn ≤ 1000000000000000000) :
    Calls Try.prog 69 #[.int .i64 x, .pointer (some ⟨bt, 0, none⟩)] w fun e w' => e = .returned (.bool (!decide (x ∈ g))) ∧ Below w.heap.size w w' := by
  have k1 := hb.cell 1
  simp only [List.getElem?_toArray, List.getElem?_cons_zero, List.getElem?_cons_succ] at k1
  cases hx : decide (x ∈ g)
  · have H := Lib.hid (contains_int G gn gc B g x false w hg hgn hx)
    clear hx hg hb
    go_enter Try.func69, Try.ntmps69
    go_wp2_with (go_at_call 20; refine H.out.mono ?_; rintro e w' ⟨rfl, rfl⟩)
    go_ret
    exact ⟨by first | rfl | simp, Below.refl _ _⟩
  · have H := Lib.hid (contains_int G gn gc B g x true w hg hgn hx)
    clear hx hg hb
    go_enter Try.func69, Try.ntmps69
    go_wp2_with (go_at_call 20; refine H.out.mono ?_; rintro e w' ⟨rfl, rfl⟩)
    go_ret
    exact ⟨by first | rfl | simp, Below.refl _ _⟩
set_option maxRecDepth 100000 in
set_option maxHeartbeats 2000000 in
theorem youngCheck_any (A : Option Addr) (n c : Nat) (G : Option Addr) (gn gc : Nat) (K : Option Addr) (kn kc : Nat) (a g b : List Int) (w : World) (hr : Reads w w.heap.size 1 A n (a.map (.int .u64))) (hnc : n ≤ c) (ha : ∀ x ∈ a, (Lit.int .u64 x).wf = true)
    (hg : Reads w w.heap.size 1 G gn (g.map (.int .i64))) (hgx : ∀ x ∈ g, (Lit.int .i64 x).wf = true) (hk : Reads w w.heap.size 1 K kn (b.map (.int .i64))) (hkx : ∀ x ∈ b, (Lit.int .i64 x).wf = true) (hgn : gn ≤ 1000000000000000000) (hkn : kn ≤ 1000000000000000000) :
    Calls Try.prog 27 #[.agg #[.slice A n c, .slice G gn gc, .slice K kn kc]] w fun e w' => AgeRet a g b e ∧ Below w.heap.size w w' := by
  have hb0 := below_new w (.cells #[.slice A n c, .slice G gn gc, .slice K kn kc] 52)
  have hBt := Blk.new w 52 #[.slice A n c, .slice G gn gc, .slice K kn kc]
  have k0 := hBt.cell 0
  have k1 := hBt.cell 1
  have k2 := hBt.cell 2
  simp only [List.getElem?_toArray, List.getElem?_cons_zero, List.getElem?_cons_succ] at k0 k1 k2
  have H := Lib.hid (checkFn_any A n c a _ ((hr.below hb0).more hb0.size) hnc ha)
  by_cases hE : checkE a = 0
  · have h0 := (checkE_ok.1 hE).1
    have hal := (parse_ok h0).1
    have hn : n ≤ 256 := by have := hr.1; simp at this; omega
    rw [hE] at H
    have HO := Lib.hid (fun w hr => youngObjects_any A n c a w hr ha h0)
    have HE := Lib.hid hE
    have HR1 := Lib.hid (fun w B hr => youngRises_any G gn gc B g w hr (by omega))
    have HR2 := Lib.hid (fun w B hr => youngRises_any K kn kc B b w hr (by omega))
    have HA := Lib.hid ha
    have HGX := Lib.hid hgx
    have HKX := Lib.hid hkx
    have HH0 := Lib.hid h0
    clear hE ha hgx hkx h0 hal
    go_enter Try.func27, Try.ntmps27
    go_wp2_with fail
    refine H.out.mono ?_
    rintro e w1 ⟨rfl, hb1⟩
    have hb01 := below_step hb0 hb1
    have hBt := hBt.below hb1 hBt.lt
    have k0 := hBt.cell 0
    have k1 := hBt.cell 1
    have k2 := hBt.cell 2
    simp only [List.getElem?_toArray, List.getElem?_cons_zero, List.getElem?_cons_succ] at k0 k1 k2
    have HR1 := HR1.out w1 w.heap.size (hg.below hb01)
    by_cases hgr : g.Pairwise (fun x y => x < y)
    · have HR1 := Lib.hid (HR1 true (decide_eq_true hgr))
      have HGR := Lib.hid hgr
      clear hgr
      go_wp2_with fail
      refine HR1.out.mono ?_
      rintro e w2 ⟨rfl, hb2⟩
      have hb02 := below_step hb01 hb2
      have hBt := hBt.below hb2 hBt.lt
      have k0 := hBt.cell 0
      have k1 := hBt.cell 1
      have k2 := hBt.cell 2
      simp only [List.getElem?_toArray, List.getElem?_cons_zero, List.getElem?_cons_succ] at k0 k1 k2
      have HR2 := HR2.out w2 w.heap.size (hk.below hb02)
      by_cases hbr : b.Pairwise (fun x y => x < y)
      · have HR2 := Lib.hid (HR2 true (decide_eq_true hbr))
        have HBR := Lib.hid hbr
        clear hbr
        go_wp2_with fail
        refine HR2.out.mono ?_
        rintro e w3 ⟨rfl, hb3⟩
        have hb03 := below_step hb02 hb3
        have hBt := hBt.below hb3 hBt.lt
        have k0 := hBt.cell 0
        have k1 := hBt.cell 1
        have k2 := hBt.cell 2
        simp only [List.getElem?_toArray, List.getElem?_cons_zero, List.getElem?_cons_succ] at k0 k1 k2
        have HO := HO.out w3 ((hr.below hb03).more hb03.size)
        have HO := Lib.hid HO
        clear HR1 HR2 hb1 hb2 hb3 hb01 hb02
        go_wp2_with fail
        refine HO.out.mono ?_
        rintro e w4 ⟨bm, rfl, hbm, hM, hb4⟩
        have hb04 := below_step hb03 hb4
        have hBt := hBt.below hb4 hBt.lt
        have k0 := hBt.cell 0
        have k1 := hBt.cell 1
        have k2 := hBt.cell 2
        simp only [List.getElem?_toArray, List.getElem?_cons_zero, List.getElem?_cons_succ] at k0 k1 k2
        have hbmlt := hM.lt
        have hbtlt := hBt.lt
        clear HO hb4 hb03 hb0
        go_wp2
        go_loopw [6, 7, 8, 35] (fun _ _ _ i wr => ∃ j : Nat, j ≤ gn ∧ i = .int .i64 j ∧ Hid (∀ x ∈ g.take j, x ∈ begsL (spotsL a)) ∧ Below w4.heap.size w4 wr) (fun _ _ _ i _ => gn - (intOf i).toNat)
        case atStart => exact ⟨0, Nat.zero_le _, rfl, by intro x hx; simp at hx, Below.refl _ _⟩
        case round =>
          obtain ⟨j, hj, rfl, HF, hb⟩ := hrel
          have hMr := hM.below hb hbmlt
          have hbw := below_step hb04 hb
          by_cases hlt : j < gn
          · obtain ⟨ad, x, rfl, had, hx, cx⟩ := (hg.below hbw).num hlt
            have hxm := List.mem_of_getElem? hx
            have hxw : (Lit.int .i64 x).wf = true := HGX.out x hxm
            have hlook := hMr.look_ok (k := 3) (t := 79) Try.underlying3 Try.underlying79 (zero_head _) hxw
            have hj1 : j + 1 ≤ gn := hlt
            by_cases hmem : x ∈ begsL (spotsL a)
            · obtain ⟨s, hs⟩ := begsL_iff.1 hmem
              have e1 : headF (spotsL a) x = some (headC s) := by unfold headF; rw [hs]; rfl
              rw [e1] at hlook
              obtain ⟨loc, r, bb, t, fr⟩ := s
              have hlook2 : (Instr.lookup 79 (.map (some bm)) (.int .i64 x) true).run Try.prog wr = .ok (.tuple #[.agg #[.int .i64 r, .int .i64 bb, .int .i64 t, .bool fr], .bool true]) wr := hlook
              have HF2 : Hid (∀ y ∈ g.take (j + 1), y ∈ begsL (spotsL a)) := by
                intro y hy
                rcases take_succ_mem hx y hy with h | rfl
                · exact HF.out y h
                · exact hmem
              have hbx := hb.alloc hb.size (.cells #[.int .i64 r, .int .i64 bb, .int .i64 t, .bool fr] 78)
              clear hlook hx hs e1 HF hxm hmem
              go_wp2
              go_roundw
              case rel => exact ⟨j + 1, hj1, by go_num, HF2, hbx⟩
              case measure => simp [intOf]; omega
            · have e1 : headF (spotsL a) x = none := by
                have : ¬ (headF (spotsL a) x).isSome = true := fun h => hmem (headF_isSome.1 h)
                simpa using this
              rw [e1] at hlook
              have hlook2 : (Instr.lookup 79 (.map (some bm)) (.int .i64 x) true).run Try.prog wr = .ok (.tuple #[.agg #[.int .i64 0, .int .i64 0, .int .i64 0, .bool false], .bool false]) wr := hlook
              have HN : Hid (¬ AgesOk a g b) := fun h => hmem (h.ob x hxm)
              have hbx := hb.alloc hb.size (.cells #[.int .i64 0, .int .i64 0, .int .i64 0, .bool false] 78)
              clear hlook hx e1 HF hxm hmem
              go_wp2
              go_ret
              exact ⟨⟨5, rfl, fun h => by omega, fun h => absurd h HN.out⟩, below_step hb04 hbx⟩
          · have HF2 : Hid (∀ y ∈ g, y ∈ begsL (spotsL a)) := by
              have := HF.out
              rw [List.take_of_length_le (by have h1 := hg.1; simp only [List.length_map, Nat.mul_one] at h1; omega)] at this
              exact this
            have g0 : decide (j < gn) = false := decide_eq_false hlt
            have hBr := hBt.below hb hbtlt
            have k0 := hBr.cell 0
            have k1 := hBr.cell 1
            have k2 := hBr.cell 2
            simp only [List.getElem?_toArray, List.getElem?_cons_zero, List.getElem?_cons_succ] at k0 k1 k2
            obtain ⟨wo, hwo⟩ : ∃ x, x = wr := ⟨wr, rfl⟩
            subst hwo
            have hbrl := hBr.lt
            have hmrl := hMr.lt
            clear HF hM hBt hb
            go_wp2
            go_loopw [10, 51] (fun _ i wr => ∃ j : Nat, j ≤ kn ∧ i = .int .i64 j ∧ Hid (∀ x ∈ b.take j, x ∈ g) ∧ Below wo.heap.size wo wr) (fun _ i _ => kn - (intOf i).toNat)
            case atStart => exact ⟨0, Nat.zero_le _, rfl, by intro x hx; simp at hx, Below.refl _ _⟩
            case round =>
              obtain ⟨j2, hj2, rfl, HN, hb⟩ := hrel
              have hbx := below_step hbw hb
              have hBw := hBr.below hb hbrl
              have k0 := hBw.cell 0
              have k1 := hBw.cell 1
              have k2 := hBw.cell 2
              simp only [List.getElem?_toArray, List.getElem?_cons_zero, List.getElem?_cons_succ] at k0 k1 k2
              by_cases hlt2 : j2 < kn
              · obtain ⟨ad, x, rfl, had, hx, cx⟩ := (hk.below hbx).num hlt2
                have hxm := List.mem_of_getElem? hx
                have hj1 : j2 + 1 ≤ kn := hlt2
                by_cases hmem : x ∈ g
                · have HCo := Lib.hid (contains_int G gn gc w.heap.size g x true wr (hg.below hbx) hgn (decide_eq_true hmem))
                  have HN2 : Hid (∀ y ∈ b.take (j2 + 1), y ∈ g) := by
                    intro y hy
                    rcases take_succ_mem hx y hy with h | rfl
                    · exact HN.out y h
                    · exact hmem
                  clear hx hxm hmem HN
                  go_wp2_with (go_at_call 20; refine HCo.out.mono ?_; rintro e w' ⟨rfl, rfl⟩)
                  go_roundw
                  case rel => exact ⟨j2 + 1, hj1, by go_num, HN2, hb⟩
                  case measure => simp [intOf]; omega
                · have HCo := Lib.hid (contains_int G gn gc w.heap.size g x false wr (hg.below hbx) hgn (decide_eq_false hmem))
                  have HNo : Hid (¬ AgesOk a g b) := fun h => hmem (h.nb x hxm)
                  clear hx hxm hmem HN
                  go_wp2_with (go_at_call 20; refine HCo.out.mono ?_; rintro e w' ⟨rfl, rfl⟩)
                  go_ret
                  exact ⟨⟨5, rfl, fun h => by omega, fun h => absurd h HNo.out⟩, hbx⟩
              · have HNt : Hid (∀ y ∈ b, y ∈ g) := by
                  have := HN.out
                  rw [List.take_of_length_le (by have h1 := hk.1; simp only [List.length_map, Nat.mul_one] at h1; omega)] at this
                  exact this
                have g1 : decide (j2 < kn) = false := decide_eq_false hlt2
                have hMx := hMr.below hb hmrl
                have hbxl := hBw.lt
                have hmxl := hMx.lt
                obtain ⟨w6, hw6⟩ : ∃ x, x = wr := ⟨wr, rfl⟩
                subst hw6
                clear HN hMr hBr hb
                go_wp2
                go_loopw [12, 64] (fun _ i wr => ∃ j : Nat, j ≤ gn ∧ i = .int .i64 j ∧ Hid (∀ x ∈ g.take j, x ∉ b → ∀ y ∈ linksAt a (spotsL a) x, y ∈ g) ∧ Below w6.heap.size w6 wr) (fun _ i _ => gn - (intOf i).toNat)
                case atStart => exact ⟨0, Nat.zero_le _, rfl, by intro x hx; simp at hx, Below.refl _ _⟩
                case round =>
                  obtain ⟨j, hj, rfl, HF, hb⟩ := hrel
                  have hMw := hMx.below hb hmxl
                  have hBw := hBw.below hb hbxl
                  have hb0w := below_step hbx hb
                  have k0 := hBw.cell 0
                  have k1 := hBw.cell 1
                  have k2 := hBw.cell 2
                  simp only [List.getElem?_toArray, List.getElem?_cons_zero, List.getElem?_cons_succ] at k0 k1 k2
                  by_cases hlt : j < gn
                  · obtain ⟨ad, x, rfl, had, hx, cx⟩ := (hg.below hb0w).num hlt
                    have hxg := List.mem_of_getElem? hx
                    have hxw := HGX.out x hxg
                    have hj1 : j + 1 ≤ gn := hlt
                    have HT : Hid (g.take (j + 1) = g.take j ++ [x]) := by
                      show _ = _
                      obtain ⟨h1, rfl⟩ := List.getElem?_eq_some_iff.1 hx
                      exact List.take_succ_eq_append_getElem h1
                    by_cases hxb : x ∈ b
                    · have HCo := Lib.hid (contains_int K kn kc w.heap.size b x true wr (hk.below hb0w) hkn (decide_eq_true hxb))
                      have HHeld : Hid (∀ z ∈ g.take (j + 1), z ∉ b → ∀ y ∈ linksAt a (spotsL a) z, y ∈ g) := by
                        intro z hz hzb
                        rw [HT.out, List.mem_append, List.mem_singleton] at hz
                        rcases hz with hz | rfl
                        · exact HF.out z hz hzb
                        · exact absurd hxb hzb
                      clear hx hxg hxb HF
                      go_wp2_with (go_at_call 20; refine HCo.out.mono ?_; rintro e w' ⟨rfl, rfl⟩)
                      go_roundw
                      case rel => exact ⟨j + 1, hj1, by go_num, HHeld, hb⟩
                      case measure => simp [intOf]; omega
                    · have HCo := Lib.hid (contains_int K kn kc w.heap.size b x false wr (hk.below hb0w) hkn (decide_eq_false hxb))
                      have hlook := hMw.look (k := 3) (t := 79) Try.underlying3 Try.underlying79 (zero_head _) hxw
                      obtain ⟨s, hs⟩ := begsL_iff.1 (HF2.out x hxg)
                      have e1 : headF (spotsL a) x = some (headC s) := by unfold headF; rw [hs]; rfl
                      rw [e1] at hlook
                      obtain ⟨hsS, -, hsl⟩ := spotAt_some hs
                      have hok := (parse_mem (parse_ok HH0.out).2 s hsS).1
                      have hlk : linksAt a (spotsL a) x = linksL a s := by unfold linksAt; rw [hs]
                      have hbd : ∀ v ∈ refsOf a s, v = 0 ∨ 1 ≤ v ∧ v ≤ 256 := fun v hv => by
                        by_cases hv0 : v = 0
                        · exact .inl hv0
                        · have h1 : v - 1 ∈ linksL a s := List.mem_map.2 ⟨v, List.mem_filter.2 ⟨hv, by simpa using hv0⟩, rfl⟩
                          have := begsL_bounds HH0.out _ (links_begs HE.out hsS _ h1)
                          exact .inr (by omega)
                      have HN := youngNamed_any A n c a s s.f wr ((hr.below hb0w).more hb0w.size) hnc hn hok hbd
                      rw [hsl] at HN
                      have hlen : (linksL a s).length ≤ 256 := by
                        have h1 : (linksL a s).length ≤ (refsOf a s).length := by
                          unfold linksL
                          rw [List.length_map]
                          exact List.length_filter_le _ _
                        have h2 := refsOf_length hok
                        have h3 := hok.fits
                        have h4 := (parse_ok HH0.out).1
                        have h5 := hok.loc0
                        have h6 := hok.b0
                        unfold Spot.long at h3
                        omega
                      have HLK := Lib.hid hlk
                      have HXG := Lib.hid hxg
                      have HXB := Lib.hid hxb
                      generalize linksL a s = L at *
                      obtain ⟨loc, r, bb, t, fr⟩ := s
                      dsimp only at HN
                      have HN := Lib.hid HN
                      have hlook2 : (Instr.lookup 79 (.map (some bm)) (.int .i64 x) false).run Try.prog wr = .ok (.agg #[.int .i64 r, .int .i64 bb, .int .i64 t, .bool fr]) wr := hlook
                      clear hlook hx hs hsS hsl hok hlk hbd e1 hxg hxw hxb
                      go_wp2_with (go_at_call 20; refine HCo.out.mono ?_; rintro e w' ⟨rfl, rfl⟩)
                      refine HN.out.mono ?_
                      rintro e w8 ⟨hb8, A8, c8, rfl, hown8⟩
                      have hb08 := below_step hb0w hb8
                      have hB8 := hBw.below hb8 hBw.lt
                      have HCF := Lib.hid (containsIntF_any 69 (.pointer (some ⟨w.heap.size, 0, none⟩)) A8 L.length c8 _ L (fun y => !decide (y ∈ g)) w8 (Reads.of_own hown8) (Nat.le_refl _) (by omega) (plain_of (fn := Try.f69) Try.func69 (by kernel_rfl) (by kernel_rfl)) (fun w' y hb' _ =>
                        youngCheck1_any y w.heap.size A n c (some ad) gn gc K kn kc w.heap.size g w' (hB8.below hb' hB8.lt) ((hg.below hb08).below (hb'.mono hb08.size)) hgn))
                      clear hown8 HN hB8
                      go_wp2_with fail
                      refine HCF.out.mono ?_
                      rintro e w9 ⟨rfl, hb9⟩
                      have hbx2 := hb.trans ((below_step hb8 hb9).mono hb.size)
                      clear HCF hb9 hb8 hb08
                      by_cases hmt : (L.any fun y => !decide (y ∈ g)) = true
                      · have HNo : Hid (¬ AgesOk a g b) := fun h => by
                          obtain ⟨y, h1, h2⟩ := List.any_eq_true.1 hmt
                          have h3 := h.held x HXG.out HXB.out y (by rw [HLK.out]; exact h1)
                          simp [h3] at h2
                        generalize (L.any fun y => !decide (y ∈ g)) = r at *
                        subst hmt
                        go_wp2
                        go_ret
                        exact ⟨⟨8, rfl, fun h => by omega, fun h => absurd h HNo.out⟩, below_step hbx hbx2⟩
                      · have HHeld : Hid (∀ z ∈ g.take (j + 1), z ∉ b → ∀ y ∈ linksAt a (spotsL a) z, y ∈ g) := by
                          intro z hz hzb y hy
                          rw [HT.out, List.mem_append, List.mem_singleton] at hz
                          rcases hz with hz | rfl
                          · exact HF.out z hz hzb y hy
                          · rw [HLK.out] at hy
                            by_cases h1 : y ∈ g
                            · exact h1
                            · exact absurd (List.any_eq_true.2 ⟨y, hy, by simp [h1]⟩) hmt
                        have hmt : (L.any fun y => !decide (y ∈ g)) = false := by simpa using hmt
                        generalize (L.any fun y => !decide (y ∈ g)) = r at *
                        subst hmt
                        go_wp2
                        go_roundw
                        case rel => exact ⟨j + 1, hj1, by go_num, HHeld, hbx2⟩
                        case measure => simp [intOf]; omega
                  · have HT : Hid (AgesOk a g b) := by
                      have h1 := HF.out
                      rw [List.take_of_length_le (by have h2 := hg.1; simp only [List.length_map, Nat.mul_one] at h2; omega)] at h1
                      exact ⟨HE.out, HGR.out, HBR.out, HF2.out, HNt.out, h1⟩
                    have g2 : decide (j < gn) = false := decide_eq_false hlt
                    go_wp2
                    go_ret
                    exact ⟨⟨0, rfl, fun _ => HT.out, fun _ => rfl⟩, hb0w⟩
      · have HR2 := Lib.hid (HR2 false (decide_eq_false hbr))
        go_wp2_with fail
        refine HR2.out.mono ?_
        rintro e w3 ⟨rfl, hb3⟩
        go_wp2
        go_ret
        exact ⟨⟨3, rfl, by simp; exact fun h => hbr h.nr⟩, below_step hb02 hb3⟩
    · have HR1 := Lib.hid (HR1 false (decide_eq_false hgr))
      go_wp2_with fail
      refine HR1.out.mono ?_
      rintro e w2 ⟨rfl, hb2⟩
      go_wp2
      go_ret
      exact ⟨⟨3, rfl, by simp; exact fun h => hgr h.orr⟩, below_step hb01 hb2⟩
  · have hE1 : (checkE a != 0) = true := by simpa using hE
    have HF : Hid (¬ AgesOk a g b) := fun h => hE h.ok
    have HE : Hid (checkE a ≠ 0) := hE
    generalize checkE a = E at *
    clear hE
    go_enter Try.func27, Try.ntmps27
    go_wp2_with fail
    refine H.out.mono ?_
    rintro e w1 ⟨rfl, hb1⟩
    go_wp2
    go_ret
    exact ⟨⟨E, rfl, fun h => absurd h HE.out, fun h => absurd h HF.out⟩, below_step hb0 hb1⟩
end Go.Proofs.Ytgkoaambdejkdaa

namespace Go.Proofs.Ytgkoaambdejkdaa
open Go.RowKit
def ComeY (W0 : World) (kb : Option (Nat × Obj)) (out : List Int) (w : World) : Prop :=
  ∃ Ao co, Blk w W0.heap.size 23 #[.slice Ao out.length co] ∧ w.ownsRow (W0.heap.size + 1) 3 1 (.slice Ao out.length co) out.length (out.map (.int .i64)) ∧ Below W0.heap.size W0 w ∧
    ∀ k ob, kb = some (k, ob) → w.heap[k]? = some ob ∧ k ≠ W0.heap.size ∧ (Value.slice Ao out.length co).ownBlock ≠ some k
theorem ComeY.low {W0 w : World} {kb : Option (Nat × Obj)} {out : List Int} (h : ComeY W0 kb out w) : Below W0.heap.size W0 w := by obtain ⟨_, _, _, _, h, _⟩ := h; exact h
theorem ComeY.below {W0 w w' : World} {kb : Option (Nat × Obj)} {out : List Int} (h : ComeY W0 kb out w) (hb : Below w.heap.size w w') : ComeY W0 kb out w' := by
  obtain ⟨Ao, co, h1, h2, h3, h4⟩ := h
  refine ⟨Ao, co, h1.below hb h1.lt, own_below h2 hb, below_step h3 hb, fun k ob e => ?_⟩
  obtain ⟨a1, a2, a3⟩ := h4 k ob e
  exact ⟨(hb.block k (Array.getElem?_eq_some_iff.1 a1).1).trans a1, a2, a3⟩
theorem ComeY.forget {W0 w : World} {kb : Option (Nat × Obj)} {out : List Int} (h : ComeY W0 kb out w) : ComeY W0 none out w := by
  obtain ⟨Ao, co, h1, h2, h3, h4⟩ := h
  exact ⟨Ao, co, h1, h2, h3, fun k ob e => by cases e⟩
def keepOf (v : Value) (w : World) : Option (Nat × Obj) := match v.ownBlock with | some g => (w.heap[g]?).map fun o => (g, o) | none => none
theorem keepOf_some {v : Value} {w : World} {k : Nat} {ob : Obj} (h : keepOf v w = some (k, ob)) : v.ownBlock = some k ∧ w.heap[k]? = some ob := by
  unfold keepOf at h
  cases hv : v.ownBlock with
  | none => rw [hv] at h; cases h
  | some g =>
    rw [hv] at h
    obtain ⟨o, h1, h2⟩ := Option.map_eq_some_iff.1 h
    injection h2 with h2 h3
    subst h2 h3
    exact ⟨rfl, h1⟩
theorem ComeY.guard {W0 w w' : World} {out : List Int} {e : TypeId} {size n : Nat} {v : Value} {xs : List Value} (h : ComeY W0 none out w) (hb : Below w.heap.size w w') (ho : w'.ownsRow w.heap.size e size v n xs) : ComeY W0 (keepOf v w') out w' := by
  obtain ⟨Ao, co, h1, h2, h3, -⟩ := h
  refine ⟨Ao, co, h1.below hb h1.lt, own_below h2 hb, below_step h3 hb, fun k ob e => ?_⟩
  obtain ⟨a1, a2⟩ := keepOf_some e
  have a3 := (ho.lt k a1).1
  have a4 := h1.lt
  refine ⟨a2, by omega, fun a5 => ?_⟩
  have := (h2.lt k a5).2
  omega
theorem ComeY.row {W0 W w : World} {out : List Int} {base : Nat} {e : TypeId} {size n : Nat} {v : Value} {xs : List Value} (h : ComeY W0 (keepOf v W) out w) (ho : W.ownsRow base e size v n xs) : w.ownsRow base e size v n xs := by
  obtain ⟨Ao, co, -, -, -, h4⟩ := h
  refine ⟨ho.1, ?_⟩
  rcases ho.2 with h0 | ⟨g, cap, cur, rfl, hb, hg, r⟩
  · exact .inl h0
  · refine .inr ⟨g, cap, cur, rfl, hb, ?_, r⟩
    exact (h4 g _ (by simp [keepOf, Value.ownBlock, hg])).1
set_option maxRecDepth 100000 in
set_option maxHeartbeats 1000000 in
theorem comeY_any (W0 : World) (kb : Option (Nat × Obj)) (bt : Nat) (A : Option Addr) (n c : Nat) (G : Option Addr) (gn gc : Nat) (K : Option Addr) (kn kc B : Nat) (o out : List Int) (x : Int) (w : World) (hbt : Blk W0 bt 52 #[.slice A n c, .slice G gn gc, .slice K kn kc]) (hg : Reads W0 B 1 G gn (o.map (.int .i64))) (hgn : gn ≤ 1000000000000000000) (hB : B ≤ W0.heap.size)
    (h : ComeY W0 kb out w) (hl : out.length ≤ 100000) :
    Calls Try.prog 72 #[.int .i64 x, .pointer (some ⟨bt, 0, none⟩), .pointer (some ⟨W0.heap.size, 0, none⟩)] w fun e w' => e = .returned (.tuple #[]) ∧ ComeY W0 kb (comeL o out x) w' := by
  obtain ⟨Ao, co, h1, h2, h3, h4⟩ := h
  have DS := hbt.below h3 hbt.lt
  obtain ⟨s0, s1, s2⟩ := DS.three
  have k0 := h1.cell 0
  simp only [List.getElem?_toArray, List.getElem?_cons_zero] at k0
  have hgw := hg.below (h3.mono hB)
  have hro := Reads.of_own h2
  by_cases hxo : x ∈ o
  · have HC1 := Lib.hid (contains_int G gn gc B o x true w hgw hgn (decide_eq_true hxo))
    have e2 : comeL o out x = out := by unfold comeL; rw [if_pos (.inl hxo)]
    have HS : Hid (ComeY W0 kb out w) := ⟨Ao, co, h1, h2, h3, h4⟩
    rw [e2]
    clear hxo e2 h1 h2 h3 h4 hgw hg hro
    go_enter Try.func72, Try.ntmps72
    go_wp2_with (go_at_call 20; refine HC1.out.mono ?_; rintro e w' ⟨rfl, rfl⟩)
    go_end0
    exact ⟨rfl, HS.out⟩
  · have HC1 := Lib.hid (contains_int G gn gc B o x false w hgw hgn (decide_eq_false hxo))
    by_cases hxt : x ∈ out
    · have HC2 := Lib.hid (contains_int Ao out.length co _ out x true w hro (by omega) (decide_eq_true hxt))
      have e2 : comeL o out x = out := by unfold comeL; rw [if_pos (.inr hxt)]
      have HS : Hid (ComeY W0 kb out w) := ⟨Ao, co, h1, h2, h3, h4⟩
      rw [e2]
      clear hxo hxt e2 h1 h2 h3 h4 hgw hg hro
      generalize out.length = k at *
      go_enter Try.func72, Try.ntmps72
      go_wp2_with (go_at_call 20; (first | (with_reducible refine HC1.out.mono ?_) | (with_reducible refine HC2.out.mono ?_)); rintro e w' ⟨rfl, rfl⟩)
      go_end0
      exact ⟨rfl, HS.out⟩
    · have HC2 := Lib.hid (contains_int Ao out.length co _ out x false w hro (by omega) (decide_eq_false hxt))
      have e2 : comeL o out x = out ++ [x] := by unfold comeL; rw [if_neg (fun h => h.elim hxo hxt)]
      rw [e2]
      have hO2 := h2.alloc (.cells #[.int .i64 x] 3)
      have hD2 := h1.alloc (.cells #[.int .i64 x] 3)
      have hb2 := h3.alloc h3.size (.cells #[.int .i64 x] 3)
      have hws := h3.size
      have hlt := h1.lt
      obtain ⟨i0, hi, hz0, hz1, hz2⟩ := info_parts info_int
      generalize hk : out.length = k at *
      have HK := Lib.hid hk
      have HD2 := Lib.hid hD2
      have H4 := Lib.hid h4
      clear hxo hxt e2 h1 h2 h3 h4 hgw hg hro hk hD2
      go_enter Try.func72, Try.ntmps72
      go_wp2_with (first
        | (go_at_call 20; (first | (with_reducible refine HC1.out.mono ?_) | (with_reducible refine HC2.out.mono ?_)); rintro e w' ⟨rfl, rfl⟩)
        | (at_builtin; refine wpList_append_any _ rfl (.tmp 15) (.tmp 17) 23 rfl (W0.heap.size + 1) 3 i0 (.int .i64 0) 1 8 Try.underlying23 hi hz0 hz1 hz2 rfl (by decide) (.slice Ao k co) k _ rfl hO2 (w.heap.size + 1) (some ⟨w.heap.size, 0, none⟩) 1 1 [.int .i64 x] rfl (reads_new w [.int .i64 x] 3 1 1 rfl) (by simp [Value.oneCell']) (by unfold maxLen; omega) (by omega) (by simp; omega) ?_; rintro v' w3 hown3 hgr hbl -; obtain ⟨A5, c5, rfl⟩ := own_slice hown3; have hD3 := HD2.out.grown hgr (fun h => own_off hO2 (by omega) h.symm); have p0 := hD3.cell 0; have pf := hD3.frozen 0; simp only [List.getElem?_toArray, List.getElem?_cons_zero] at p0))
      go_end0
      have hb3 := hb2.grown hgr hb2.size (fun g hg => by have := (hO2.lt g hg).1; omega)
      have hD4 : Blk (w3.setCell ⟨W0.heap.size, 0, none⟩ (.slice A5 (k + 1) c5)) W0.heap.size 23 #[.slice A5 (k + 1) c5] := by simpa using hD3.set_ 0 (.slice A5 (k + 1) c5)
      refine ⟨rfl, A5, c5, ?_, ?_, hb3.setCell (p := ⟨W0.heap.size, 0, none⟩) (Nat.le_refl _) _, fun k' ob e => ?_⟩
      · rw [List.length_append, List.length_singleton, HK.out]
        exact hD4
      · rw [List.length_append, List.length_singleton, HK.out, List.map_append]
        exact own_apart hown3 (own_off hown3 (by dsimp only; omega)) _
      · obtain ⟨a1, a2, a3⟩ := H4.out k' ob e
        have a4 := (Array.getElem?_eq_some_iff.1 a1).1
        have a5 : w3.heap[k']? = some ob := (hgr.block k' (by simp; omega) (fun e => a3 e.symm)).trans ((Below.heap_alloc _ _ k' a4).trans a1)
        refine ⟨(Below.heap_setCell _ _ _ k' a2).trans a5, a2, fun a6 => ?_⟩
        rw [List.length_append, List.length_singleton, HK.out] at a6
        rcases hbl with hbl | hbl
        · rw [hbl] at a6; exact a3 a6
        · rw [hbl] at a6; injection a6 with a6; simp at a6; omega
end Go.Proofs.Ytgkoaambdejkdaa
