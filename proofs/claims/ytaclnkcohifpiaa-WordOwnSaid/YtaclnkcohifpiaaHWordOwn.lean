/-
  WordOwn answers true for all arenas and numbers, and changes no argument: what is handed in stays as it was, and what is told shares nothing with it.
-/
import Derived.OpenShut
import Derived.Test.YtaclnkcohifpiaaG3
import Derived.Test.YtaclnkcohifpiaaG4
namespace Go.Proofs.Ytaclnkcohifpiaa
open Go.RowKit

theorem k_u64_bytes : Try.prog.bytesOf 25 = 8 := by kernel_rfl

section
variable {W W' : World} {base : Nat} {e : TypeId} {ok : Nat → Value → Prop} {A : Option Addr} {n c : Nat} {xs : List Value}
/-- A row to its end. -/
theorem OwnT.full (h : OwnT W base e 1 ok (.slice A n c) n xs) : ∃ ys, OwnT W base e 1 ok (.slice A c c) c ys := by
  rcases h.1.2 with ⟨h1, h2⟩ | ⟨g, cap, cur, h1, -⟩
  · injection h1 with a1 a2 a3
    subst a1 a2 a3
    exact ⟨xs, h⟩
  · injection h1 with a1 a2 a3
    subst a1 a3
    obtain ⟨cur, h1, h2, h3, h4, h5, -, h7⟩ := h.open
    exact ⟨_, OwnT.close cur h1 h2 (Nat.le_refl _) h4 h5 h7⟩
/-- A cell of one row is written: the other stays a row. -/
theorem OwnT.wrote {base' n' c' g i : Nat} {u : Value} {ys : List Value} (h : OwnT W base e 1 ok (.slice A n c) n xs) (h' : OwnT W base' e 1 ok (.slice (some ⟨g, 0, none⟩) n' c') n' ys) (hi : i < c') (hu : ok 0 u) :
    ∃ zs, OwnT (W.setCell ⟨g, i, none⟩ u) base e 1 ok (.slice A n c) n zs := by
  by_cases hb : (Value.slice A n c).ownBlock = some g
  · rcases h.1.2 with ⟨h1, h2⟩ | ⟨g2, cap, cur0, h1, -⟩
    · rw [h1] at hb
      simp [Value.ownBlock] at hb
    · injection h1 with a1 a2 a3
      subst a1 a3
      simp only [Value.ownBlock, Option.some.injEq] at hb
      subst hb
      obtain ⟨cur, b1, b2, b3, b4, b5, -, b7⟩ := h.open
      obtain ⟨cur', -, d2, -, -, d5, -, -⟩ := h'.open
      have hcur : cur.toArray = cur'.toArray := by
        rw [b2] at d2
        simp only [Option.some.injEq, Obj.cells.injEq] at d2
        exact d2.1
      have hlen : cur.length = cur'.length := by have := congrArg Array.size hcur; simpa using this
      have hB : Blk W g2 e cur.toArray := b2
      have hs := hB.set_ i u
      rw [List.setIfInBounds_toArray] at hs
      refine ⟨_, OwnT.close (w := W.setCell ⟨g2, i, none⟩ u) (n := n) (cur.set i u) b1 hs b3 b4 (by rw [List.length_set]; exact b5) (fun j v hj => ?_)⟩
      by_cases hji : i = j
      · subst hji
        rw [List.getElem?_set_self (by omega)] at hj
        obtain rfl := Option.some.inj hj
        rw [Nat.mod_one]
        exact hu
      · rw [List.getElem?_set_ne hji] at hj
        exact b7 j v hj
  · exact ⟨xs, h.apart (p := ⟨g, i, none⟩) hb u⟩
end
theorem size_of {t : TypeId} (h : (Try.prog.info? t).map (·.size) = some 1) (w : World) : (sizeOf t).run Try.prog w = .ok 1 w := by
  obtain ⟨i, hi, h1⟩ := Option.map_eq_some_iff.1 h
  simp [sizeOf, run_typeInfo w hi, h1]
theorem idx4 (t el : TypeId) (h : Try.prog.underlying t = some (.array 4 el)) (he : Try.prog.underlying el = some (.slice 25)) (hs : ∀ w, (sizeOf el).run Try.prog w = .ok 1 w) (vs : Array Value) (k : Nat) (hk : k < 4) (hv : vs.size = 4) (w : World) : (Instr.index t (.agg vs) (.int .i64 k)).run Try.prog w = .ok (vs[k]!) w := by
  have h1 : (0 : Int) ≤ k ∧ (k : Int) < 4 := by omega
  have h2 : k < vs.size := by omega
  simp [Instr.index, asIntOf, run_underlying h, run_underlying he, isAgg, hs, hk, h1, h2, go_sem]

/-- A row of words to its end. -/
def Full (W : World) (base : Nat) (A : Option Addr) (c : Nat) : Prop := ∃ ys, OwnT W base 25 1 (isNum .u64) (.slice A c c) c ys
theorem Full.below {W W' : World} {base c : Nat} {A : Option Addr} (h : Full W base A c) (hb : Below W.heap.size W W') : Full W' base A c := by
  obtain ⟨ys, h⟩ := h
  exact ⟨ys, h.below hb⟩
theorem Full.of {W : World} {base base' n c : Nat} {A : Option Addr} {xs : List Value} (h : OwnT W base' 25 1 (isNum .u64) (.slice A n c) n xs) (hb : base ≤ base') : Full W base A c := by
  obtain ⟨ys, h⟩ := h.full
  exact ⟨ys, h.mono hb⟩
/-- A cell of a row of words. -/
theorem Full.cell {W : World} {base c j : Nat} {A : Option Addr} (h : Full W base A c) (hj : j < c) : ∃ (g : Nat) (x : Int), A = some ⟨g, 0, none⟩ ∧ base ≤ g ∧ W.cell? ⟨g, j, none⟩ = some (.int .u64 x) ∧ W.frozen? ⟨g, j, none⟩ = false := by
  obtain ⟨ys, h⟩ := h
  obtain ⟨g, rfl, hg⟩ := own_ptr h.1 (by omega)
  obtain ⟨-, ⟨v, hv⟩, hf⟩ := h.setElem hj (u := .int .u64 0) ⟨0, rfl, rfl⟩
  obtain ⟨cur, b1, b2, b3, b4, b5, -, b7⟩ := h.open
  have hB : Blk W g 25 cur.toArray := b2
  have hv2 := hv
  rw [hB.cell] at hv2
  obtain ⟨x, rfl, -⟩ := b7 j v (by simpa using hv2)
  exact ⟨g, x, rfl, hg, hv, hf⟩
theorem Full.put {W : World} {base base' c c' g j : Nat} {A : Option Addr} {x : Int} (h : Full W base A c) (h' : Full W base' (some ⟨g, 0, none⟩) c') (hj : j < c') (hx : (Lit.int .u64 x).wf = true) : Full (W.setCell ⟨g, j, none⟩ (.int .u64 x)) base A c := by
  obtain ⟨ys, h⟩ := h
  obtain ⟨zs, h'⟩ := h'
  exact h.wrote h' hj ⟨x, rfl, hx⟩

theorem Full.cap {W : World} {base c : Nat} {A : Option Addr} (h : Full W base A c) : c ≤ 9223372036854775807 := by
  obtain ⟨ys, h⟩ := h
  rcases h.1.2 with ⟨h1, h2⟩ | ⟨g, cap, cur, h1, -, -, -, h3, -⟩
  · omega
  · injection h1 with a1 a2 a3
    unfold maxLen at h3
    omega

set_option maxRecDepth 100000 in
set_option maxHeartbeats 8000000 in
theorem wordOwn_any (A : Option Addr) (n c : Nat) (a : List Int) (x y z : Int) (w : World) (hr : Reads w w.heap.size 1 A n (a.map (.int .u64))) (hnc : n ≤ c) (hc : c ≤ maxLen) (ha : ∀ x ∈ a, (Lit.int .u64 x).wf = true) (hm : n * 8 ≤ 140737488351232)
    (hx : (Lit.int .i64 x).wf = true) (hy : (Lit.int .i64 y).wf = true) (hz : (Lit.int .i64 z).wf = true) :
    Calls Try.prog 3 #[.slice A n c, .int .i64 x, .int .i64 y, .int .i64 z] w fun e w' => e = .returned (.bool true) ∧ Below w.heap.size w w' := by
  have hc' : c ≤ 9223372036854775807 := by unfold maxLen at hc; omega
  have HCl := Lib.hid (fun W hr hB => clone_u64 A n c w.heap.size (a.map (.int .u64)) W hr hB (u64s_one a) (by omega))
  have HMv := Lib.hid (fun W hr => move_anyT A n c a x y z W hr hnc hc' ha hx hy hz)
  have HFi := Lib.hid (fun W hr => fill_anyT A n c a x z 7 W hr ha hx hz rfl)
  have HJo := Lib.hid (fun W hr => gjoin_anyT A n c a W hr hnc ha)
  have HGi := Lib.hid (fun W hr => give_any A n c a x W hr hnc ha)
  have HEq := Lib.hid (fun W A1 c1 r1 r2 => equal_u64 A A1 n c n c1 w.heap.size W.heap.size a a W r1 r2 (by omega) (by omega))
  rw [decide_eq_true rfl] at HEq
  clear ha hx hy hz hc hc'
  go_enter Try.func3, Try.ntmps3
  go_wp2_with fail
  refine (words_true _).mono ?_
  rintro e w1 ⟨rfl, hb1⟩
  have HC1 := Lib.hid (HCl.out w1 (hr.below hb1) hb1.size)
  go_wp2_with fail
  refine HC1.out.mono ?_
  rintro e w2 ⟨A5, c5, rfl, hown5, hb12⟩
  have hb2 := below_step hb1 hb12
  have hr5 := Reads.of_own hown5
  have HM2 := Lib.hid (HMv.out w2 ((hr.below hb2).more hb2.size))
  clear hown5 hb12 HC1 HCl HMv hb1
  go_wp2_with fail
  refine HM2.out.mono ?_
  rintro e w3 ⟨hb23, B1, n1, c1, E1, xs1, rfl, o1⟩
  have F1 := Full.of o1 (Nat.le_refl _)
  have hb3 := below_step hb2 hb23
  have HF3 := Lib.hid (HFi.out w3 ((hr.below hb3).more hb3.size))
  clear o1 HM2 HFi
  go_wp2_with fail
  refine HF3.out.mono ?_
  rintro e w4 ⟨hb34, B2, n2, c2, E2, xs2, rfl, o2⟩
  have F1 := F1.below hb34
  have F2 := Full.of o2 hb23.size
  have hb24 := below_step hb23 hb34
  have hb4 := below_step hb2 hb24
  have HJ4 := Lib.hid (HJo.out w4 ((hr.below hb4).more hb4.size))
  clear o2 HF3 HJo hb34 hb23 hb3
  go_wp2_with fail
  refine HJ4.out.mono ?_
  rintro e w5 ⟨hb45, B3, n3, c3, E3, xs3, rfl, o3⟩
  have F1 := F1.below hb45
  have F2 := F2.below hb45
  have F3 := Full.of o3 hb24.size
  have hb25 := below_step hb24 hb45
  have hb5 := below_step hb2 hb25
  have HG5 := Lib.hid (HGi.out w5 ((hr.below hb5).more hb5.size))
  clear o3 HJ4 HGi hb45 hb24 hb4
  go_wp2_with fail
  refine HG5.out.mono ?_
  rintro e w6 ⟨hb56, B4, n4, c4, E4, xs4, rfl, o4⟩
  have F1 := F1.below hb56
  have F2 := F2.below hb56
  have F3 := F3.below hb56
  have F4 := Full.of o4 hb25.size
  have hb26 := below_step hb25 hb56
  have hb6 := below_step hb2 hb26
  have HE6 := Lib.hid (HEq.out w6 A5 c5 (hr.below hb6) ((hr5.below hb26).more hb26.size))
  clear o4 HG5 hb56 hb25 hb5
  go_wp2_with fail
  refine HE6.out.mono ?_
  rintro e w7 ⟨rfl, q7, rfl⟩
  have hq7 : Below w6.heap.size w6 (w6.drewN q7) := below_drewN (Below.refl _ _) q7
  have F1 := F1.below hq7
  have F2 := F2.below hq7
  have F3 := F3.below hq7
  have F4 := F4.below hq7
  have hb27 := below_step hb26 hq7
  generalize w6.drewN q7 = w7 at *
  clear HE6 hq7 hb26 hb6
  go_wp2
  go_loopw [20, 21, 60] (fun _ _ i wr => ∃ j : Nat, j ≤ 4 ∧ i = .int .i64 j ∧ Below w2.heap.size w2 wr ∧ Full wr w2.heap.size B1 c1 ∧ Full wr w2.heap.size B2 c2 ∧ Full wr w2.heap.size B3 c3 ∧ Full wr w2.heap.size B4 c4) (fun _ _ i _ => 4 - (intOf i).toNat)
  case atStart => exact ⟨0, by omega, rfl, hb27, F1, F2, F3, F4⟩
  case round =>
    obtain ⟨j, hj, rfl, hb, F1, F2, F3, F4⟩ := hrel
    have hj5 : j = 0 ∨ j = 1 ∨ j = 2 ∨ j = 3 ∨ j = 4 := by omega
    rcases hj5 with rfl | rfl | rfl | rfl | rfl
    · clear hj
      have hX : (Instr.index 33 (.agg #[.slice B1 n1 c1, .slice B2 n2 c2, .slice B3 n3 c3, .slice B4 n4 c4]) (.int .i64 0)).run Try.prog wr = .ok (.slice B1 n1 c1) wr := idx4 33 22 Try.underlying33 Try.underlying22 (size_of (by kernel_rfl)) #[.slice B1 n1 c1, .slice B2 n2 c2, .slice B3 n3 c3, .slice B4 n4 c4] 0 (by decide) rfl wr
      go_wp2
      go_loopw [21, 69] (fun _ i wr => ∃ j2 : Nat, j2 ≤ c1 ∧ i = .int .i64 j2 ∧ Below w2.heap.size w2 wr ∧ Full wr w2.heap.size B1 c1 ∧ Full wr w2.heap.size B2 c2 ∧ Full wr w2.heap.size B3 c3 ∧ Full wr w2.heap.size B4 c4) (fun _ i _ => c1 - (intOf i).toNat)
      case atStart => exact ⟨0, Nat.zero_le _, rfl, hb, F1, F2, F3, F4⟩
      case round =>
        obtain ⟨j2, hj2, rfl, hb, F1, F2, F3, F4⟩ := hrel
        have hcap := F1.cap
        by_cases hlt : j2 < c1
        · obtain ⟨g, v, hB, hg, hcell, hfr⟩ := F1.cell hlt
          subst hB
          have F1x := F1
          have HWf : Hid ((Lit.int .u64 (IntKind.u64.wrap (v + 1))).wf = true) := wf_wrap _ _
          have hj3 : j2 + 1 ≤ c1 := hlt
          have hbz := hb.setCell (p := ⟨g, j2, none⟩) hg (.int .u64 (IntKind.u64.wrap (v + 1)))
          go_wp2
          go_roundw
          case rel => exact ⟨j2 + 1, hj3, by go_num, hbz, F1.put F1x hlt HWf.out, F2.put F1x hlt HWf.out, F3.put F1x hlt HWf.out, F4.put F1x hlt HWf.out⟩
          case measure => simp [intOf]; omega
        · have g0 : decide (j2 < c1) = false := decide_eq_false hlt
          go_wp2
          go_roundw
          case rel => exact ⟨1, by omega, by go_num, hb, F1, F2, F3, F4⟩
          case measure => simp [intOf]; try omega
    · clear hj
      have hX : (Instr.index 33 (.agg #[.slice B1 n1 c1, .slice B2 n2 c2, .slice B3 n3 c3, .slice B4 n4 c4]) (.int .i64 1)).run Try.prog wr = .ok (.slice B2 n2 c2) wr := idx4 33 22 Try.underlying33 Try.underlying22 (size_of (by kernel_rfl)) #[.slice B1 n1 c1, .slice B2 n2 c2, .slice B3 n3 c3, .slice B4 n4 c4] 1 (by decide) rfl wr
      go_wp2
      go_loopw [21, 69] (fun _ i wr => ∃ j2 : Nat, j2 ≤ c2 ∧ i = .int .i64 j2 ∧ Below w2.heap.size w2 wr ∧ Full wr w2.heap.size B1 c1 ∧ Full wr w2.heap.size B2 c2 ∧ Full wr w2.heap.size B3 c3 ∧ Full wr w2.heap.size B4 c4) (fun _ i _ => c2 - (intOf i).toNat)
      case atStart => exact ⟨0, Nat.zero_le _, rfl, hb, F1, F2, F3, F4⟩
      case round =>
        obtain ⟨j2, hj2, rfl, hb, F1, F2, F3, F4⟩ := hrel
        have hcap := F2.cap
        by_cases hlt : j2 < c2
        · obtain ⟨g, v, hB, hg, hcell, hfr⟩ := F2.cell hlt
          subst hB
          have F2x := F2
          have HWf : Hid ((Lit.int .u64 (IntKind.u64.wrap (v + 1))).wf = true) := wf_wrap _ _
          have hj3 : j2 + 1 ≤ c2 := hlt
          have hbz := hb.setCell (p := ⟨g, j2, none⟩) hg (.int .u64 (IntKind.u64.wrap (v + 1)))
          go_wp2
          go_roundw
          case rel => exact ⟨j2 + 1, hj3, by go_num, hbz, F1.put F2x hlt HWf.out, F2.put F2x hlt HWf.out, F3.put F2x hlt HWf.out, F4.put F2x hlt HWf.out⟩
          case measure => simp [intOf]; omega
        · have g0 : decide (j2 < c2) = false := decide_eq_false hlt
          go_wp2
          go_roundw
          case rel => exact ⟨2, by omega, by go_num, hb, F1, F2, F3, F4⟩
          case measure => simp [intOf]; try omega
    · clear hj
      have hX : (Instr.index 33 (.agg #[.slice B1 n1 c1, .slice B2 n2 c2, .slice B3 n3 c3, .slice B4 n4 c4]) (.int .i64 2)).run Try.prog wr = .ok (.slice B3 n3 c3) wr := idx4 33 22 Try.underlying33 Try.underlying22 (size_of (by kernel_rfl)) #[.slice B1 n1 c1, .slice B2 n2 c2, .slice B3 n3 c3, .slice B4 n4 c4] 2 (by decide) rfl wr
      go_wp2
      go_loopw [21, 69] (fun _ i wr => ∃ j2 : Nat, j2 ≤ c3 ∧ i = .int .i64 j2 ∧ Below w2.heap.size w2 wr ∧ Full wr w2.heap.size B1 c1 ∧ Full wr w2.heap.size B2 c2 ∧ Full wr w2.heap.size B3 c3 ∧ Full wr w2.heap.size B4 c4) (fun _ i _ => c3 - (intOf i).toNat)
      case atStart => exact ⟨0, Nat.zero_le _, rfl, hb, F1, F2, F3, F4⟩
      case round =>
        obtain ⟨j2, hj2, rfl, hb, F1, F2, F3, F4⟩ := hrel
        have hcap := F3.cap
        by_cases hlt : j2 < c3
        · obtain ⟨g, v, hB, hg, hcell, hfr⟩ := F3.cell hlt
          subst hB
          have F3x := F3
          have HWf : Hid ((Lit.int .u64 (IntKind.u64.wrap (v + 1))).wf = true) := wf_wrap _ _
          have hj3 : j2 + 1 ≤ c3 := hlt
          have hbz := hb.setCell (p := ⟨g, j2, none⟩) hg (.int .u64 (IntKind.u64.wrap (v + 1)))
          go_wp2
          go_roundw
          case rel => exact ⟨j2 + 1, hj3, by go_num, hbz, F1.put F3x hlt HWf.out, F2.put F3x hlt HWf.out, F3.put F3x hlt HWf.out, F4.put F3x hlt HWf.out⟩
          case measure => simp [intOf]; omega
        · have g0 : decide (j2 < c3) = false := decide_eq_false hlt
          go_wp2
          go_roundw
          case rel => exact ⟨3, by omega, by go_num, hb, F1, F2, F3, F4⟩
          case measure => simp [intOf]; try omega
    · clear hj
      have hX : (Instr.index 33 (.agg #[.slice B1 n1 c1, .slice B2 n2 c2, .slice B3 n3 c3, .slice B4 n4 c4]) (.int .i64 3)).run Try.prog wr = .ok (.slice B4 n4 c4) wr := idx4 33 22 Try.underlying33 Try.underlying22 (size_of (by kernel_rfl)) #[.slice B1 n1 c1, .slice B2 n2 c2, .slice B3 n3 c3, .slice B4 n4 c4] 3 (by decide) rfl wr
      go_wp2
      go_loopw [21, 69] (fun _ i wr => ∃ j2 : Nat, j2 ≤ c4 ∧ i = .int .i64 j2 ∧ Below w2.heap.size w2 wr ∧ Full wr w2.heap.size B1 c1 ∧ Full wr w2.heap.size B2 c2 ∧ Full wr w2.heap.size B3 c3 ∧ Full wr w2.heap.size B4 c4) (fun _ i _ => c4 - (intOf i).toNat)
      case atStart => exact ⟨0, Nat.zero_le _, rfl, hb, F1, F2, F3, F4⟩
      case round =>
        obtain ⟨j2, hj2, rfl, hb, F1, F2, F3, F4⟩ := hrel
        have hcap := F4.cap
        by_cases hlt : j2 < c4
        · obtain ⟨g, v, hB, hg, hcell, hfr⟩ := F4.cell hlt
          subst hB
          have F4x := F4
          have HWf : Hid ((Lit.int .u64 (IntKind.u64.wrap (v + 1))).wf = true) := wf_wrap _ _
          have hj3 : j2 + 1 ≤ c4 := hlt
          have hbz := hb.setCell (p := ⟨g, j2, none⟩) hg (.int .u64 (IntKind.u64.wrap (v + 1)))
          go_wp2
          go_roundw
          case rel => exact ⟨j2 + 1, hj3, by go_num, hbz, F1.put F4x hlt HWf.out, F2.put F4x hlt HWf.out, F3.put F4x hlt HWf.out, F4.put F4x hlt HWf.out⟩
          case measure => simp [intOf]; omega
        · have g0 : decide (j2 < c4) = false := decide_eq_false hlt
          go_wp2
          go_roundw
          case rel => exact ⟨4, by omega, by go_num, hb, F1, F2, F3, F4⟩
          case measure => simp [intOf]; try omega
    · clear hj
      have hb0r := below_step hb2 hb
      have HE8 := Lib.hid (HEq.out wr A5 c5 (hr.below hb0r) ((hr5.below hb).more hb.size))
      go_wp2_with (go_at_call 11; refine HE8.out.mono ?_; rintro e w8 ⟨rfl, q8, rfl⟩)
      go_ret
      exact ⟨by first | rfl | simp, below_drewN hb0r q8⟩

namespace WordOwn
open Go.ChangeShapes Go.WideShapes Go.ChangeAt Go.RowKit
theorem own : ownKnob Try.prog.godebug = none := by kernel_rfl
theorem laidOut : laidOutB Try.prog = true := by kernel_rfl

set_option maxRecDepth 100000 in
theorem lifted (os : Os) (started : os.Started) (H : Type) (enc : TypeId × Value → H) :
    ReturnsInHanded {} Try.checked os 3 .any (Rows.wordOwnSpec.pre6 enc Try.prog Try.f3 Rows.wordOwnRow.domain false) (Rows.wordOwnSpec.post enc Try.prog Try.f3 false true false false) := by
  refine returnsInHanded_of_change_sized (C := Try.checked) own started (by as_aux_lemma => kernel_rfl) Try.func3
    (ChangeSpec.witness6 (enc := enc) (C := Try.checked) false ⟨#[], #[.slice none 0 0, .int .i64 0, .int .i64 0, .int .i64 0], []⟩ 8 (by as_aux_lemma => kernel_rfl) (by as_aux_lemma => kernel_rfl) (by as_aux_lemma => kernel_rfl) (by as_aux_lemma => kernel_rfl)) ?_
  intro W base args ds gs before hval0 hW hcnd hsz _
  have hval : ∀ (j : Nat) t v, Try.f3.params[j]? = some t → args[j]? = some v → Value.okWide Try.prog W .any base t v := hval0
  have hW' := hW
  obtain ⟨p, q, hA0, hV, rfl, hfz, hnd⟩ := hW
  have hA : DataW.TrodAll enc Try.prog W 0 (fun _ => true) true Try.f3.params.toList args.toList ds p := hA0
  rw [Try.params3] at hA hval
  obtain ⟨v0, vs0, d0, ds0, p0, q0, hargs, rfl, rfl, h0, hA⟩ := trodAll_cons hA
  obtain ⟨v1, vs1, d1, ds1, p1, q1, rfl, rfl, rfl, h1, hA⟩ := trodAll_cons hA
  obtain ⟨v2, vs2, d2, ds2, p2, q2, rfl, rfl, rfl, h2, hA⟩ := trodAll_cons hA
  obtain ⟨v3, vs3, d3, ds3, p3, q3, rfl, rfl, rfl, h3, hA⟩ := trodAll_cons hA
  obtain ⟨rfl, rfl, rfl⟩ := trodAll_nil hA
  obtain rfl : args = #[v0, v1, v2, v3] := by cases args; simp_all
  obtain ⟨A0, n0, c0, xs0, rfl, hnc0, hc0, hr0, hx0, hd0⟩ := open_nums2 Try.underlying22 Try.underlying25 (by as_aux_lemma => kernel_rfl) (hval 0 _ v0 rfl rfl) (fun x hx => hW'.lt x (by simp [hx])) h0
  have hm0 : n0 * 8 ≤ 140737488351232 := by
    rcases hd0 with h0 | ⟨D, E, rfl, hD⟩
    · omega
    · have h5 : (D.length + E.length) * Try.prog.bytesOf 25 ≤ reachBytes := sized_slice hsz (j := 0) (t := 22) (e := 25) rfl rfl Try.underlying22
      rw [k_u64_bytes, hD] at h5
      simp only [reachBytes] at h5
      omega
  obtain ⟨i1, rfl, rfl, rfl, w1⟩ := open_int Try.underlying3 (hval 1 _ v1 rfl rfl) h1
  obtain ⟨i2, rfl, rfl, rfl, w2⟩ := open_int Try.underlying3 (hval 2 _ v2 rfl rfl) h2
  obtain ⟨i3, rfl, rfl, rfl, w3⟩ := open_int Try.underlying3 (hval 3 _ v3 rfl rfl) h3
  refine (wordOwn_any A0 n0 c0 xs0 i1 i2 i3 W hr0 hnc0 hc0 hx0 hm0 w1 w2 w3).mono fun e W' ⟨he, hb⟩ => ?_
  subst he
  exact ⟨_, rfl, law_post laidOut Try.underlying4 rfl (by as_aux_lemma => kernel_rfl) rfl rfl hW' hb⟩

set_option maxHeartbeats 10000000 in
theorem closed : joinedFacts Try.prog 3 Try.f3 Rows.wordOwnSpec Rows.wordOwnRow = true := by
  unfold joinedFacts
  simp only [Bool.and_eq_true]
  repeat' apply And.intro
  all_goals as_aux_lemma => kernel_rfl

set_option maxHeartbeats 1000000 in
theorem proved : Rows.WordOwnSaid :=
  OpenClaim.holds_of_wide 3 Try.f3 rfl rfl rfl rfl rfl rfl rfl ⟨rfl, rfl, rfl, rfl, rfl⟩ rfl rfl rfl rfl rfl (by as_aux_lemma => kernel_rfl) Try.func3 closed
    (of_decide_eq_true (by as_aux_lemma => kernel_rfl)) (by unfold Func.isWrapper; first | (rw [if_pos (by decide +kernel)]; kernel_rfl) | (rw [if_neg (by decide +kernel)]; exact ⟨rfl, rfl⟩))
    (fun os started H enc _ => lifted os started H enc)
end WordOwn
end Go.Proofs.Ytaclnkcohifpiaa
