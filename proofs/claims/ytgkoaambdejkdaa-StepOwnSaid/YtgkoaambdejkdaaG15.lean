/-
  Texts joined: SlicesInt StepOwnC OwnTold FullK OwnLoop.
-/
import Derived.Test.YtgkoaambdejkdaaRows
import Derived.Test.YtgkoaambdejkdaaG0
import Derived.Test.YtgkoaambdejkdaaG1
import Derived.Test.YtgkoaambdejkdaaG2
import Derived.Test.YtgkoaambdejkdaaG8
import Derived.Test.YtgkoaambdejkdaaG10
import Derived.Test.YtgkoaambdejkdaaG12
import Derived.Test.YtgkoaambdejkdaaG13
import Derived.Test.YtgkoaambdejkdaaG14
namespace Go.Proofs.Ytgkoaambdejkdaa
open Go.RowKit
set_option maxHeartbeats 400000 in
theorem equal_int (A A2 : Option Addr) (n c m c2 B B2 : Nat) (xs ys : List Int) (w : World) (hr : Reads w B 1 A n (xs.map (.int .i64))) (hr2 : Reads w B2 1 A2 m (ys.map (.int .i64))) (hn : n ≤ 1000000000000000000) (hm : m ≤ 1000000000000000000) :
    Calls Try.prog 34 #[.slice A n c, .slice A2 m c2] w fun e w' => e = .returned (.bool (decide (xs = ys))) ∧ ∃ q, w' = w.drewN q := by
  have hxl : xs.length = n := by have := hr.1; simpa using this
  have hyl : ys.length = m := by have := hr2.1; simpa using this
  have HX := Lib.hid hxl
  have HY := Lib.hid hyl
  clear hxl hyl
  by_cases hnm : n = m
  · subst hnm
    go_enter Try.func34, Try.ntmps34
    go_wp2
    go_loopw [13] (fun i wr => ∃ j : Nat, j ≤ n ∧ i = .int .i64 j ∧ xs.take j = ys.take j ∧ ∃ q, wr = w.drewN q) (fun i _ => n - (intOf i).toNat)
    case atStart => exact ⟨0, Nat.zero_le _, rfl, by simp, 0, rfl⟩
    case round =>
      obtain ⟨j, hj, rfl, ht, q, rfl⟩ := hrel
      have HT := Lib.hid ht
      clear ht
      by_cases hlt : j < n
      · obtain ⟨ad, u, rfl, _, hx, hc⟩ := hr.at_ hlt
        obtain ⟨ad2, u2, rfl, _, hx2, hc2⟩ := hr2.at_ hlt
        have hl : j < xs.length := by rw [HX.out]; exact hlt
        have hl2 : j < ys.length := by rw [HY.out]; exact hlt
        rw [List.getElem?_map, List.getElem?_eq_getElem hl] at hx
        rw [List.getElem?_map, List.getElem?_eq_getElem hl2] at hx2
        obtain rfl : u = .int .i64 xs[j] := by simpa using hx.symm
        obtain rfl : u2 = .int .i64 ys[j] := by simpa using hx2.symm
        clear hx hx2
        have T : Hid (xs.take (j + 1) = ys.take (j + 1) ↔ xs[j] = ys[j]) := by
          show _ ↔ _
          rw [List.take_succ_eq_append_getElem hl, List.take_succ_eq_append_getElem hl2, HT.out]
          constructor
          · intro h
            have := List.append_cancel_left h
            simpa using this
          · intro h; rw [h]
        have hlt' : (j : Int) < n := by omega
        generalize hgx : xs[j] = x at *
        generalize hgy : ys[j] = y at *
        have HGX := Lib.hid hgx
        have HGY := Lib.hid hgy
        clear hgx hgy
        by_cases he : x = y
        · subst he
          go_wp2
          go_quiet (fail)
          go_wp2
          go_roundw
          case rel => exact ⟨j + 1, by omega, by go_num, T.out.2 (by simp), _, rfl⟩
          case measure => simp [intOf]; omega
        · have he2 : (x == y) = false := by simpa using he
          have he3 : (x != y) = true := by simpa using he
          go_wp2
          go_quiet (fail)
          go_wp2
          go_ret
          refine ⟨?_, _, drewN_add _ _ _⟩
          have : ¬ xs = ys := by
            intro h
            apply he
            rw [← HGX.out, ← HGY.out]
            subst h
            rfl
          rw [decide_eq_false this]
          rfl
      · go_wp2
        go_ret
        have hjn : j = n := by omega
        subst hjn
        exact ⟨by rw [decide_eq_true (eq_of_takes _ _ _ HX.out HY.out HT.out)]; rfl, _, rfl⟩
  · have hne : ¬ xs = ys := by
      intro h
      subst h
      exact hnm (HX.out.symm.trans HY.out)
    have e1 : ((n : Int) == (m : Int)) = false := by simp; omega
    have e2 : ((n : Int) != (m : Int)) = true := by simp; omega
    have e3 : (n == m) = false := by simpa using hnm
    have e4 : (n != m) = true := by simpa using hnm
    go_enter Try.func34, Try.ntmps34
    go_wp2
    go_ret
    exact ⟨by rw [decide_eq_false hne]; rfl, 0, rfl⟩
end Go.Proofs.Ytgkoaambdejkdaa

namespace Go.Proofs.Ytgkoaambdejkdaa
open Go.RowKit
set_option maxRecDepth 100000 in
set_option maxHeartbeats 1000000 in
theorem stepOwnC_any (pt p1 p2 p3 py p4 p5 p6 : Nat) (A : Option Addr) (n c : Nat) (G : Option Addr) (gn gc : Nat) (K : Option Addr) (kn kc : Nat) (a g b : List Int) (A' : Option Addr) (n' c' : Nat) (G' : Option Addr) (gn' gc' : Nat) (K' : Option Addr) (kn' kc' : Nat) (a' g' b' : List Int)
    (A1 : Option Addr) (d1 : Nat) (A2 : Option Addr) (d2 : Nat) (A3 : Option Addr) (d3 : Nat) (A4 : Option Addr) (d4 : Nat) (A5 : Option Addr) (d5 : Nat) (A6 : Option Addr) (d6 : Nat) (W : World)
    (DT : Blk W pt 25 #[.slice A n c, .slice G gn gc, .slice K kn kc]) (DY : Blk W py 52 #[.slice A' n' c', .slice G' gn' gc', .slice K' kn' kc'])
    (B1 : Blk W p1 22 #[.slice A1 n d1]) (B2 : Blk W p2 23 #[.slice A2 gn d2]) (B3 : Blk W p3 23 #[.slice A3 kn d3]) (B4 : Blk W p4 22 #[.slice A4 n' d4]) (B5 : Blk W p5 23 #[.slice A5 gn' d5]) (B6 : Blk W p6 23 #[.slice A6 kn' d6])
    (hR : TriR W W.heap.size A n c G gn K kn a g b) (hR' : TriR W W.heap.size A' n' c' G' gn' K' kn' a' g' b')
    (r1 : Reads W W.heap.size 1 A1 n (a.map (.int .u64))) (r2 : Reads W W.heap.size 1 A2 gn (g.map (.int .i64))) (r3 : Reads W W.heap.size 1 A3 kn (b.map (.int .i64))) (r4 : Reads W W.heap.size 1 A4 n' (a'.map (.int .u64))) (r5 : Reads W W.heap.size 1 A5 gn' (g'.map (.int .i64))) (r6 : Reads W W.heap.size 1 A6 kn' (b'.map (.int .i64)))
    (hn : n ≤ 1000000000000000000) (hg : gn ≤ 1000000000000000000) (hk : kn ≤ 1000000000000000000) (hn' : n' ≤ 1000000000000000000) (hg' : gn' ≤ 1000000000000000000) (hk' : kn' ≤ 1000000000000000000) :
    Calls Try.prog 33 #[.pointer (some ⟨pt, 0, none⟩), .pointer (some ⟨p1, 0, none⟩), .pointer (some ⟨p2, 0, none⟩), .pointer (some ⟨p3, 0, none⟩), .pointer (some ⟨py, 0, none⟩), .pointer (some ⟨p4, 0, none⟩), .pointer (some ⟨p5, 0, none⟩), .pointer (some ⟨p6, 0, none⟩)] W fun e w' => e = .returned (.bool true) ∧ Below W.heap.size W w' := by
  have E1 := Lib.hid (fun W2 (h : Below W.heap.size W W2) => equal_u64 A A1 n c n d1 _ _ a a W2 (hR.ra.below h) (r1.below h) hn hn)
  have E2 := Lib.hid (fun W2 (h : Below W.heap.size W W2) => equal_int G A2 gn gc gn d2 _ _ g g W2 (hR.rg.below h) (r2.below h) hg hg)
  have E3 := Lib.hid (fun W2 (h : Below W.heap.size W W2) => equal_int K A3 kn kc kn d3 _ _ b b W2 (hR.rb.below h) (r3.below h) hk hk)
  have E4 := Lib.hid (fun W2 (h : Below W.heap.size W W2) => equal_u64 A' A4 n' c' n' d4 _ _ a' a' W2 (hR'.ra.below h) (r4.below h) hn' hn')
  have E5 := Lib.hid (fun W2 (h : Below W.heap.size W W2) => equal_int G' A5 gn' gc' gn' d5 _ _ g' g' W2 (hR'.rg.below h) (r5.below h) hg' hg')
  have E6 := Lib.hid (fun W2 (h : Below W.heap.size W W2) => equal_int K' A6 kn' kc' kn' d6 _ _ b' b' W2 (hR'.rb.below h) (r6.below h) hk' hk')
  rw [decide_eq_true rfl] at E1 E2 E3 E4 E5 E6
  obtain ⟨t0, t1, t2⟩ := DT.three
  obtain ⟨y0, y1, y2⟩ := DY.three
  have q1 := B1.cell 0
  have q2 := B2.cell 0
  have q3 := B3.cell 0
  have q4 := B4.cell 0
  have q5 := B5.cell 0
  have q6 := B6.cell 0
  simp only [List.getElem?_toArray, List.getElem?_cons_zero] at q1 q2 q3 q4 q5 q6
  have F1 := Lib.hid (E1.out W (Below.refl _ _))
  have F2 := Lib.hid (fun q => E2.out (W.drewN q) (below_drewN (Below.refl _ _) q))
  have F3 := Lib.hid (fun q => E3.out (W.drewN q) (below_drewN (Below.refl _ _) q))
  have F4 := Lib.hid (fun q => E4.out (W.drewN q) (below_drewN (Below.refl _ _) q))
  have F5 := Lib.hid (fun q => E5.out (W.drewN q) (below_drewN (Below.refl _ _) q))
  have F6 := Lib.hid (fun q => E6.out (W.drewN q) (below_drewN (Below.refl _ _) q))
  clear E1 E2 E3 E4 E5 E6 hR hR' r1 r2 r3 r4 r5 r6 DT DY B1 B2 B3 B4 B5 B6
  go_enter Try.func33, Try.ntmps33
  go_wp2_with (first
    | (go_at_call 19; (first | (with_reducible refine F1.out.mono ?_) | (with_reducible refine (F4.out _).mono ?_)); rintro e w' ⟨rfl, q, rfl⟩)
    | (go_at_call 34; (first | (with_reducible refine (F2.out _).mono ?_) | (with_reducible refine (F3.out _).mono ?_) | (with_reducible refine (F5.out _).mono ?_) | (with_reducible refine (F6.out _).mono ?_)); rintro e w' ⟨rfl, q, rfl⟩))
  go_ret
  exact ⟨by first | rfl | simp, below_drewN (Below.refl _ _) _⟩
end Go.Proofs.Ytgkoaambdejkdaa

namespace Go.Proofs.Ytgkoaambdejkdaa
open Go.RowKit
def Told3 (base : Nat) (v : Value) (w' : World) : Prop := ∃ (A1 : Option Addr) (n1 c1 : Nat) (A2 : Option Addr) (n2 c2 : Nat) (A3 : Option Addr) (n3 c3 : Nat) (a g b : List Int), v = .agg #[.slice A1 n1 c1, .slice A2 n2 c2, .slice A3 n3 c3] ∧ TriO w' base A1 n1 c1 A2 n2 c2 A3 n3 c3 a g b
theorem Told3.nil (base : Nat) (w' : World) : Told3 base (.agg #[.slice none 0 0, .slice none 0 0, .slice none 0 0]) w' :=
  ⟨none, 0, 0, none, 0, 0, none, 0, 0, [], [], [], rfl, OwnT.nil _ _ _ _ _, OwnT.nil _ _ _ _ _, OwnT.nil _ _ _ _ _, fun k h => by simp [Value.ownBlock] at h⟩
theorem step_told (A : Option Addr) (n c : Nat) (G : Option Addr) (gn gc : Nat) (K : Option Addr) (kn kc : Nat) (a g b : List Int) (w : World) (hR : TriR w w.heap.size A n c G gn K kn a g b) (hq : gn + kn ≤ 35184372088832) :
    Calls Try.prog 10 #[.agg #[.slice A n c, .slice G gn gc, .slice K kn kc]] w fun e w' => Below w.heap.size w w' ∧ ∃ v m E, e = .returned (.tuple #[v, .bool m, .int .i64 E]) ∧ Told3 w.heap.size v w' := by
  by_cases hT : TriOk a g b
  · cases g with
    | nil =>
      have h0 : gn = 0 := by have := hR.rg.1; simpa using this.symm
      subst h0
      refine Calls.mono (stepStep_done A n c G 0 gc K kn kc a b w hR.ra hR.nc hR.aw hR.rg hR.rb hR.bw hT) ?_
      rintro e w' ⟨hb, A1, c1, A2, c2, A3, c3, rfl, hO⟩
      exact ⟨hb, _, _, _, rfl, _, _, _, _, _, _, _, _, _, _, _, _, rfl, hO⟩
    | cons x gt =>
      refine Calls.mono (stepStep_ok A n c G gn gc K kn kc a x gt b w hR.ra hR.nc hR.aw hR.rg hR.gw hR.rb hR.bw hT) ?_
      rintro e w' ⟨hb, A1, c1, A2, c2, A3, c3, rfl, hO⟩
      exact ⟨hb, _, _, _, rfl, _, _, _, _, _, _, _, _, _, _, _, _, rfl, hO⟩
  · refine Calls.mono (stepStep_bad A n c G gn gc K kn kc a g b w hR.ra hR.nc hR.aw hR.rg hR.gw hR.rb hR.bw hq hT) ?_
    rintro e w' ⟨hb, E, -, rfl⟩
    exact ⟨hb, _, _, _, rfl, Told3.nil _ _⟩
theorem write_told (A : Option Addr) (n c : Nat) (G : Option Addr) (gn gc : Nat) (K : Option Addr) (kn kc : Nat) (a g b : List Int) (x y z : Int) (w : World) (hR : TriR w w.heap.size A n c G gn K kn a g b) (hq : gn + kn ≤ 35184372088832) (hx : (Lit.int .i64 x).wf = true) (hy : (Lit.int .i64 y).wf = true) (hz : (Lit.int .i64 z).wf = true) :
    Calls Try.prog 21 #[.agg #[.slice A n c, .slice G gn gc, .slice K kn kc], .int .i64 x, .int .i64 y, .int .i64 z] w fun e w' => Below w.heap.size w w' ∧ ∃ v E, e = .returned (.tuple #[v, .int .i64 E]) ∧ Told3 w.heap.size v w' := by
  refine Calls.mono (stepWrite_any A n c G gn gc K kn kc a g b x y z w hR.ra hR.nc hR.aw hR.rg hR.gw hR.rb hR.bw hq hx hy hz) ?_
  rintro e w' ⟨hb, ⟨E, -, rfl⟩ | ⟨-, s, k, -, -, -, -, -, A1, n1, c1, A2, n2, c2, A3, n3, c3, rfl, hO⟩⟩
  · exact ⟨hb, _, _, rfl, Told3.nil _ _⟩
  · exact ⟨hb, _, _, rfl, _, _, _, _, _, _, _, _, _, _, _, _, rfl, hO⟩
theorem ywrite_told (A : Option Addr) (n c : Nat) (G : Option Addr) (gn gc : Nat) (K : Option Addr) (kn kc : Nat) (a g b : List Int) (x y z : Int) (w : World) (hR : TriR w w.heap.size A n c G gn K kn a g b) (hgn : gn ≤ 1000000000000000000) (hkn : kn ≤ 1000000000000000000) (hx : (Lit.int .i64 x).wf = true) (hy : (Lit.int .i64 y).wf = true) (hz : (Lit.int .i64 z).wf = true) :
    Calls Try.prog 28 #[.agg #[.slice A n c, .slice G gn gc, .slice K kn kc], .int .i64 x, .int .i64 y, .int .i64 z] w fun e w' => Below w.heap.size w w' ∧ ∃ v E, e = .returned (.tuple #[v, .int .i64 E]) ∧ Told3 w.heap.size v w' := by
  refine Calls.mono (youngWrite_any A n c G gn gc K kn kc a g b x y z w hR.ra hR.nc hR.aw hR.rg hR.gw hR.rb hR.bw hgn hkn hx hy hz) ?_
  rintro e w' ⟨hb, ⟨E, -, rfl⟩ | ⟨-, s, k, -, -, -, -, -, A1, n1, c1, A2, n2, c2, A3, n3, c3, rfl, hO⟩⟩
  · exact ⟨hb, _, _, rfl, Told3.nil _ _⟩
  · exact ⟨hb, _, _, rfl, _, _, _, _, _, _, _, _, _, _, _, _, rfl, hO⟩
theorem grow_told (A : Option Addr) (n c : Nat) (G : Option Addr) (gn gc : Nat) (K : Option Addr) (kn kc : Nat) (a g b : List Int) (w : World) (hR : TriR w w.heap.size A n c G gn K kn a g b) (hgn : gn ≤ 1000000000000000000) (hkn : kn ≤ 1000000000000000000) :
    Calls Try.prog 25 #[.agg #[.slice A n c, .slice G gn gc, .slice K kn kc], .slice none 0 0] w fun e w' => Below w.heap.size w w' ∧ ∃ v E, e = .returned (.tuple #[v, .int .i64 E]) ∧ Told3 w.heap.size v w' := by
  by_cases hT : AgesOk a g b
  · refine Calls.mono (youngGrow_ok A n c G gn gc K kn kc a g b none 0 0 [] w hR.ra hR.nc hR.aw hR.rg hR.gw hR.rb hR.bw Reads.none_ (by decide) (by simp) hT) ?_
    rintro e w' ⟨hb, ⟨-, rfl⟩ | ⟨-, L, a', D, A1, n1, c1, A2, n2, c2, -, -, -, rfl, hO⟩⟩
    · exact ⟨hb, _, _, rfl, Told3.nil _ _⟩
    · exact ⟨hb, _, _, rfl, _, _, _, _, _, _, _, _, _, _, _, _, rfl, hO⟩
  · refine Calls.mono (youngGrow_bad A n c G gn gc K kn kc a g b none 0 0 w hR.ra hR.nc hR.aw hR.rg hR.gw hR.rb hR.bw hgn hkn hT) ?_
    rintro e w' ⟨hb, E, -, rfl⟩
    exact ⟨hb, _, _, rfl, Told3.nil _ _⟩
end Go.Proofs.Ytgkoaambdejkdaa

namespace Go.Proofs.Ytgkoaambdejkdaa
open Go.RowKit
section
variable {W W' : World} {base : Nat} {e : TypeId} {ok : Nat → Value → Prop} {A : Option Addr} {n c : Nat} {xs : List Value}
theorem OwnT.fullK (h : OwnT W base e 1 ok (.slice A n c) n xs) : ∃ ys, OwnT W base e 1 ok (.slice A c c) c ys := by
  rcases h.1.2 with ⟨h1, h2⟩ | ⟨g, cap, cur, h1, -⟩
  · injection h1 with a1 a2 a3
    subst a1 a2 a3
    exact ⟨xs, h⟩
  · injection h1 with a1 a2 a3
    subst a1 a3
    obtain ⟨cur, h1, h2, h3, h4, h5, -, h7⟩ := h.open
    exact ⟨_, OwnT.close cur h1 h2 (Nat.le_refl _) h4 h5 h7⟩
theorem OwnT.wroteK {base' n' c' g i : Nat} {u : Value} {ys : List Value} (h : OwnT W base e 1 ok (.slice A n c) n xs) (h' : OwnT W base' e 1 ok (.slice (some ⟨g, 0, none⟩) n' c') n' ys) (hi : i < c') (hu : ok 0 u) :
    ∃ zs, OwnT (W.setCell ⟨g, i, none⟩ u) base e 1 ok (.slice A n c) n zs := by
  by_cases hb : (Value.slice A n c).ownBlock = some g
  · rcases h.1.2 with ⟨h1, h2⟩ | ⟨g2, cap, cur0, h1, -⟩
    · rw [h1] at hb
      simp [Value.ownBlock] at hb
    · injection h1 with a1 a2 a3
      subst a1 a3
      simp only [Value.ownBlock, Option.some.injEq] at hb
      subst hb
      obtain ⟨cur, b1, b2, b3, b4, b5, -, b7⟩ := h.open
      obtain ⟨cur', -, d2, -, -, d5, -, -⟩ := h'.open
      have hcur : cur.toArray = cur'.toArray := by
        rw [b2] at d2
        simp only [Option.some.injEq, Obj.cells.injEq] at d2
        exact d2.1
      have hlen : cur.length = cur'.length := by have := congrArg Array.size hcur; simpa using this
      have hB : Blk W g2 e cur.toArray := b2
      have hs := hB.set_ i u
      rw [List.setIfInBounds_toArray] at hs
      refine ⟨_, OwnT.close (w := W.setCell ⟨g2, i, none⟩ u) (n := n) (cur.set i u) b1 hs b3 b4 (by rw [List.length_set]; exact b5) (fun j v hj => ?_)⟩
      by_cases hji : i = j
      · subst hji
        rw [List.getElem?_set_self (by omega)] at hj
        obtain rfl := Option.some.inj hj
        rw [Nat.mod_one]
        exact hu
      · rw [List.getElem?_set_ne hji] at hj
        exact b7 j v hj
  · exact ⟨xs, h.apart (p := ⟨g, i, none⟩) hb u⟩
end
def FullK (kd : IntKind) (t : TypeId) (W : World) (base : Nat) (A : Option Addr) (c : Nat) : Prop := ∃ ys, OwnT W base t 1 (isNum kd) (.slice A c c) c ys
section
variable {kd kd' : IntKind} {t t' : TypeId} {W W' : World} {base base' c c' : Nat} {A : Option Addr}
theorem FullK.below (h : FullK kd t W base A c) (hb : Below W.heap.size W W') : FullK kd t W' base A c := by
  obtain ⟨ys, h⟩ := h
  exact ⟨ys, h.below hb⟩
theorem FullK.of {n : Nat} {xs : List Value} (h : OwnT W base' t 1 (isNum kd) (.slice A n c) n xs) (hb : base ≤ base') : FullK kd t W base A c := by
  obtain ⟨ys, h⟩ := h.fullK
  exact ⟨ys, h.mono hb⟩
theorem FullK.cap (h : FullK kd t W base A c) : c ≤ 9223372036854775807 := by
  obtain ⟨ys, h⟩ := h
  rcases h.1.2 with ⟨h1, h2⟩ | ⟨g, cap, cur, h1, -, -, -, h3, -⟩
  · omega
  · injection h1 with a1 a2 a3
    unfold maxLen at h3
    omega
theorem FullK.cell {j : Nat} (h : FullK kd t W base A c) (hj : j < c) (h0 : (Lit.int kd 0).wf = true) : ∃ (g : Nat) (x : Int), A = some ⟨g, 0, none⟩ ∧ base ≤ g ∧ W.cell? ⟨g, j, none⟩ = some (.int kd x) ∧ W.frozen? ⟨g, j, none⟩ = false := by
  obtain ⟨ys, h⟩ := h
  obtain ⟨g, rfl, hg⟩ := own_ptr h.1 (by omega)
  obtain ⟨-, ⟨v, hv⟩, hf⟩ := h.setElem hj (u := .int kd 0) ⟨0, rfl, h0⟩
  obtain ⟨cur, b1, b2, b3, b4, b5, -, b7⟩ := h.open
  have hB : Blk W g t cur.toArray := b2
  have hv2 := hv
  rw [hB.cell] at hv2
  obtain ⟨x, rfl, -⟩ := b7 j v (by simpa using hv2)
  exact ⟨g, x, rfl, hg, hv, hf⟩
theorem FullK.put {g j : Nat} {x : Int} (h : FullK kd t W base A c) (h' : FullK kd t W base' (some ⟨g, 0, none⟩) c') (hj : j < c') (hx : (Lit.int kd x).wf = true) : FullK kd t (W.setCell ⟨g, j, none⟩ (.int kd x)) base A c := by
  obtain ⟨ys, h⟩ := h
  obtain ⟨zs, h'⟩ := h'
  exact h.wroteK h' hj ⟨x, rfl, hx⟩
theorem FullK.far {g j : Nat} {u : Value} (h : FullK kd t W base A c) (h' : FullK kd' t' W base' (some ⟨g, 0, none⟩) c') (ht : t' ≠ t) : FullK kd t (W.setCell ⟨g, j, none⟩ u) base A c := by
  obtain ⟨ys, h⟩ := h
  obtain ⟨zs, h'⟩ := h'
  exact ⟨ys, h.apart (p := ⟨g, j, none⟩) (own_kinds (g := g) h'.1 h.1 ht rfl) u⟩
end
end Go.Proofs.Ytgkoaambdejkdaa

namespace Go.Proofs.Ytgkoaambdejkdaa
open Go.RowKit
structure RowsK (W : World) (base : Nat) (us is : List (Option Addr × Nat)) (bs : List (Nat × TypeId × Array Value)) : Prop where
  u : ∀ p ∈ us, FullK .u64 43 W base p.1 p.2
  i : ∀ p ∈ is, FullK .i64 3 W base p.1 p.2
  b : ∀ q ∈ bs, Blk W q.1 q.2.1 q.2.2 ∧ 43 ≠ q.2.1 ∧ 3 ≠ q.2.1
section
variable {W W' : World} {base : Nat} {us is : List (Option Addr × Nat)} {bs : List (Nat × TypeId × Array Value)}
theorem RowsK.below (h : RowsK W base us is bs) (hb : Below W.heap.size W W') : RowsK W' base us is bs := ⟨fun p hp => (h.u p hp).below hb, fun p hp => (h.i p hp).below hb, fun q hq => ⟨(h.b q hq).1.below hb (h.b q hq).1.lt, (h.b q hq).2⟩⟩
theorem FullK.ne {kd : IntKind} {t t' : TypeId} {W : World} {base c g q : Nat} {cs : Array Value} (h : FullK kd t W base (some ⟨g, 0, none⟩) c) (hB : Blk W q t' cs) (ht : t ≠ t') : q ≠ g := by
  obtain ⟨ys, h⟩ := h
  have := own_blk_ne h.1 hB ht
  simp only [Value.ownBlock, ne_eq, Option.some.injEq] at this
  exact fun e => this e.symm
theorem RowsK.putU {g j c : Nat} {x : Int} (h : RowsK W base us is bs) (hp : (some ⟨g, 0, none⟩, c) ∈ us) (hj : j < c) (hx : (Lit.int .u64 x).wf = true) : RowsK (W.setCell ⟨g, j, none⟩ (.int .u64 x)) base us is bs :=
  ⟨fun p hq => (h.u p hq).put (h.u _ hp) hj hx, fun p hq => (h.i p hq).far (h.u _ hp) (by decide), fun q hq => ⟨(h.b q hq).1.far (p := ⟨g, j, none⟩) ((h.u _ hp).ne (h.b q hq).1 (h.b q hq).2.1) _, (h.b q hq).2⟩⟩
theorem RowsK.putI {g j c : Nat} {x : Int} (h : RowsK W base us is bs) (hp : (some ⟨g, 0, none⟩, c) ∈ is) (hj : j < c) (hx : (Lit.int .i64 x).wf = true) : RowsK (W.setCell ⟨g, j, none⟩ (.int .i64 x)) base us is bs :=
  ⟨fun p hq => (h.u p hq).far (h.i _ hp) (by decide), fun p hq => (h.i p hq).put (h.i _ hp) hj hx, fun q hq => ⟨(h.b q hq).1.far (p := ⟨g, j, none⟩) ((h.i _ hp).ne (h.b q hq).1 (h.b q hq).2.2) _, (h.b q hq).2⟩⟩
end
theorem size_ofK {t : TypeId} (h : (Try.prog.info? t).map (·.size) = some 1) (w : World) : (sizeOf t).run Try.prog w = .ok 1 w := by
  obtain ⟨i, hi, h1⟩ := Option.map_eq_some_iff.1 h
  simp [sizeOf, run_typeInfo w hi, h1]
theorem idxK (N : Nat) (t el sl : TypeId) (h : Try.prog.underlying t = some (.array N el)) (he : Try.prog.underlying el = some (.slice sl)) (hs : ∀ w, (sizeOf el).run Try.prog w = .ok 1 w) (vs : Array Value) (k : Nat) (hk : k < N) (hv : vs.size = N) (w : World) : (Instr.index t (.agg vs) (.int .i64 k)).run Try.prog w = .ok (vs[k]!) w := by
  have h1 : (0 : Int) ≤ k ∧ (k : Int) < N := by omega
  have h2 : k < vs.size := by omega
  simp [Instr.index, asIntOf, run_underlying h, run_underlying he, isAgg, hs, hk, h1, h2, go_sem]
end Go.Proofs.Ytgkoaambdejkdaa
