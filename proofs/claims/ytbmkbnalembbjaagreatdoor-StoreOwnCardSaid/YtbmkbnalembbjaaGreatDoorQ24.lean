/-
  Texts joined: LawPins LawSlots2 LawNums LawObs LawOps StoreLaw8 QPlaysTrue QLawStore QPlayRow.
-/
import Derived.SizedLaws
import Derived.Lib.SmallJoins
import Derived.Deep.Strs
import Derived.Test.YtbmkbnalembbjaaGreatDoorCards
import Derived.Test.YtbmkbnalembbjaaGreatDoorTie
import Derived.Deep.DeepHandedRow
import Derived.Lib.LaidTab
import Derived.Test.YtbmkbnalembbjaaGreatDoorQ1
import Derived.Test.YtbmkbnalembbjaaGreatDoorQ2
import Derived.Test.YtbmkbnalembbjaaGreatDoorQ5
import Derived.Test.YtbmkbnalembbjaaGreatDoorQ13
import Derived.Test.YtbmkbnalembbjaaGreatDoorQ14
import Derived.Test.YtbmkbnalembbjaaGreatDoorQ15
import Derived.Test.YtbmkbnalembbjaaGreatDoorQ18
import Derived.Test.YtbmkbnalembbjaaGreatDoorQ22
import Derived.Test.YtbmkbnalembbjaaGreatDoorQ23
namespace Go.Proofs.YtbmkbnalembbjaaGreatDoor
open Go.ChangeShapes Go.WideShapes Go.ChangeAt Go.RowKit Go.Joins Go.Deep
instance inhP : Inhabited Rn := ⟨⟨0, 0⟩⟩
theorem list2P {α : Type} {l : List α} (h : l.length = 2) : ∃ a b, l = [a, b] := by
  match l, h with
  | [a, b], _ => exact ⟨a, b, rfl⟩
theorem k_pin_bytes : Tryz.prog.bytesOf 57 = 16 := by kernel_rfl
end Go.Proofs.YtbmkbnalembbjaaGreatDoor

namespace Go.Proofs.YtbmkbnalembbjaaGreatDoor
open Go.ChangeShapes Go.WideShapes Go.ChangeAt Go.RowKit Go.Joins Go.Deep
instance inhQ : Inhabited Slot := ⟨⟨0, false, 0⟩⟩
theorem list3Q {α : Type} {l : List α} (h : l.length = 3) : ∃ a b c, l = [a, b, c] := by
  match l, h with
  | [a, b, c], _ => exact ⟨a, b, c, rfl⟩
theorem k_slot_bytes : Tryz.prog.bytesOf 60 = 24 := by kernel_rfl
end Go.Proofs.YtbmkbnalembbjaaGreatDoor

namespace Go.Proofs.YtbmkbnalembbjaaGreatDoor
open Go.ChangeShapes Go.WideShapes Go.ChangeAt Go.RowKit
end Go.Proofs.YtbmkbnalembbjaaGreatDoor

namespace Go.Proofs.YtbmkbnalembbjaaGreatDoor
open Go.ChangeShapes Go.WideShapes Go.ChangeAt Go.RowKit Go.Joins Go.Deep
instance : Inhabited (Ob × ObV) := ⟨(⟨0, [], [], false⟩, ⟨0, none, 0, 0, none, 0, 0, false⟩)⟩
theorem trod_nums {H : Type} {enc : TypeId × Value → H} {P : Program} {t e : TypeId} {k : IntKind} {W : World} {sp : Nat → Bool} {fuel : Nat} {v : Value} {x : DataW H × List MemPlace} (ht : P.underlying t = some (.slice e)) (he : P.underlying e = some (.int k)) (hc : P.cellsOf e = 1)
    (hlt : ∀ p ∈ x.2, p.block < W.heap.size) (h : DataW.trod enc P W 0 sp true fuel t [v] = some x) :
    ∃ (A : Option Addr) (n c : Nat) (xs : List Int), v = .slice A n c ∧ n ≤ c ∧ c ≤ maxLen ∧ xs.length = n ∧ Reads W W.heap.size 1 A n (xs.map (.int k)) ∧ (∀ x ∈ xs, (Lit.int k x).wf = true) := by
  rcases open_ints ht he hc h with ⟨hcs, hx⟩ | ⟨a, len, cap, zs, hcs, hb, hlc, hm, hzl, hx, hcell, hwf⟩
  · simp at hcs
    subst hcs
    exact ⟨none, 0, 0, [], rfl, Nat.le_refl _, Nat.zero_le _, rfl, Reads.none_, fun x hx => by cases hx⟩
  · simp at hcs
    subst hcs
    subst hx
    have hlz : len ≤ zs.length := by rw [hzl]; split <;> omega
    refine ⟨some a, len, cap, zs.take len, rfl, hlc, hm, by simp; omega, ⟨by simp; omega, fun hn => ⟨a, rfl, ?_, fun j u hu => ?_⟩⟩, fun x hx => hwf x (List.mem_of_mem_take hx)⟩
    · have := hlt (.cell a.block (a.off + 0)) (by
        unfold MemPlace.row
        exact List.mem_map.2 ⟨0, List.mem_range.2 (by omega), rfl⟩)
      exact this
    · have hj : j < len := by
        have := (List.getElem?_eq_some_iff.1 hu).1
        simp at this; omega
      rw [hcell j (by omega)]
      rw [List.getElem?_map, List.getElem?_take, if_pos hj, List.getElem?_eq_getElem (by omega)] at hu
      rw [← hu, List.getD_eq_getElem?_getD, List.getElem?_eq_getElem (by omega)]
      rfl
def ObIn (W : World) (p : Ob × ObV) : Prop := ObR W W.heap.size p.1 p.2 ∧ (∀ x ∈ p.1.refs, (Lit.int .i64 x).wf = true) ∧ ∀ x ∈ p.1.body, (Lit.int .u64 x).wf = true
end Go.Proofs.YtbmkbnalembbjaaGreatDoor

namespace Go.Proofs.YtbmkbnalembbjaaGreatDoor
open Go.ChangeShapes Go.WideShapes Go.ChangeAt Go.RowKit Go.Joins Go.Deep
instance : Inhabited OpV := ⟨⟨0, 0, 0, 0, 0⟩⟩
theorem trod_struct5o {H : Type} {enc : TypeId × Value → H} {P : Program} {w : World} {base : Nat} {spare : Nat → Bool} {held : Bool} {t : TypeId} {f0 f1 f2 f3 f4 : Field} {fuel : Nat} {cs : List Value} {x : DataW H × List MemPlace} (ht : P.underlying t = some (.struct #[f0, f1, f2, f3, f4])) (h : DataW.trod enc P w base spare held fuel t cs = some x) :
    ∃ y0 y1 y2 y3 y4 n, cs.length = P.cellsOf t ∧ DataW.trod enc P w base spare held n f0.type ((cs.drop f0.offset).take (P.cellsOf f0.type)) = some y0 ∧
      DataW.trod enc P w base spare held n f1.type ((cs.drop f1.offset).take (P.cellsOf f1.type)) = some y1 ∧ DataW.trod enc P w base spare held n f2.type ((cs.drop f2.offset).take (P.cellsOf f2.type)) = some y2 ∧
      DataW.trod enc P w base spare held n f3.type ((cs.drop f3.offset).take (P.cellsOf f3.type)) = some y3 ∧ DataW.trod enc P w base spare held n f4.type ((cs.drop f4.offset).take (P.cellsOf f4.type)) = some y4 := by
  obtain ⟨xs, n, _, rfl, hl, hlen, hf⟩ := DataW.trod_struct ht h
  match xs, hlen with
  | [y0, y1, y2, y3, y4], _ => exact ⟨y0, y1, y2, y3, y4, n, hl, by simpa using hf 0 _ rfl, by simpa using hf 1 _ rfl, by simpa using hf 2 _ rfl, by simpa using hf 3 _ rfl, by simpa using hf 4 _ rfl⟩
theorem list5o {α : Type} {l : List α} (h : l.length = 5) : ∃ a b c d e, l = [a, b, c, d, e] := by
  match l, h with
  | [a, b, c, d, e], _ => exact ⟨a, b, c, d, e, rfl⟩
end Go.Proofs.YtbmkbnalembbjaaGreatDoor

namespace Go.Proofs.YtbmkbnalembbjaaGreatDoor
open Go.ChangeShapes Go.WideShapes Go.ChangeAt Go.RowKit Go.Joins Go.Deep
theorem slice_link {H : Type} {enc : TypeId × Value → H} {P : Program} {t e : TypeId} {W : World} {sp : Nat → Bool} {A : Option Addr} {n c : Nat} {x : DataW H × List MemPlace} {fuel : Nat}
    (ht : P.underlying t = some (.slice e)) (hf' : DataW.trod enc P W 0 sp true fuel t [.slice A n c] = some x) : n = 0 ∨ ∃ D E, x.1 = .slice D E ∧ D.length = n := by
  rcases open_slice ht hf' with ⟨hcs, hx⟩ | ⟨a, len, cap, m, k, D, Pl, hcs, hb, hlc, hm, hmm, hx, hcell⟩
  · simp at hcs
    exact .inl hcs.2.1
  · simp at hcs
    obtain ⟨rfl, rfl, rfl⟩ := hcs
    subst hx
    have hlm : n ≤ m := by rw [hmm]; split <;> omega
    exact .inr ⟨_, _, rfl, by simp⟩
theorem slice_weight {H : Type} {P : Program} {t e : TypeId} {d : DataW H} {n k : Nat} (hu : P.underlying t = some (.slice e)) (hb : P.bytesOf e = k) (hd : n = 0 ∨ ∃ D E, d = .slice D E ∧ D.length = n) (hw : ∀ m ∈ d.weights P t, m ≤ reachBytes) : n * k ≤ 140737488351232 := by
  rcases hd with h0 | ⟨D, E, rfl, hD⟩
  · simp [h0]
  · have := hw ((D.length + E.length) * P.bytesOf e) (by simp [DataW.weights, hu])
    rw [hb, hD] at this
    simp only [reachBytes] at this
    have h2 : n * k ≤ (n + E.length) * k := Nat.mul_le_mul_right k (by omega)
    omega
set_option maxRecDepth 100000 in
theorem open_store8 {H : Type} {enc : TypeId × Value → H} {W : World} {r : Reach} {base : Nat} {sp : Nat → Bool} {v : Value} {d : DataW H} {ps : List MemPlace}
    (hval : Value.okWide Tryz.prog W r base 28 v) (hlt : ∀ x ∈ ps, x.block < W.heap.size) (h : DataW.Trod enc Tryz.prog W 0 sp true 28 v d ps) (hw : ∀ m ∈ d.weights Tryz.prog 28, m ≤ reachBytes) :
    ∃ (A : Option Addr) (n c : Nat) (RA : Option Addr) (rn rc : Nat) (PA : Option Addr) (pn pc : Nat) (HA : Option Addr) (hn hc : Nat) (S : St), v = .agg #[.slice A n c, .slice RA rn rc, .slice PA pn pc, .slice HA hn hc] ∧ StR W W.heap.size A n RA rn PA pn HA hn S ∧ StK n c rn pn hn S ∧
      n * 8 ≤ 140737488351232 ∧ rn * 8 ≤ 140737488351232 ∧ pn * 16 ≤ 140737488351232 ∧ hn * 24 ≤ 140737488351232 := by
  obtain ⟨c0, c1, c2, c3, y0, y1, y2, y3, m, rfl, rfl, rfl, hy0, hy1, hy2, hy3⟩ := open_agg4 Tryz.underlying28 (by kernel_rfl) (by kernel_rfl) hval h
  have k4 : Tryz.prog.cellsOf 45 = 1 := by kernel_rfl
  have k0 : Tryz.prog.cellsOf 3 = 1 := by kernel_rfl
  have k3 : Tryz.prog.cellsOf 4 = 1 := by kernel_rfl
  have b4 : Tryz.prog.bytesOf 45 = 8 := by kernel_rfl
  have b0 : Tryz.prog.bytesOf 3 = 8 := by kernel_rfl
  obtain ⟨A, n, c, a, rfl, a1, a2, a3, a4, a5⟩ := trod_nums Tryz.underlying22 Tryz.underlying45 k4 (fun x hx => hlt x (by simp [hx])) hy0
  obtain ⟨RA, rn, rc, r, rfl, r1, r2, r3, r4, r5⟩ := trod_nums Tryz.underlying23 Tryz.underlying3 k0 (fun x hx => hlt x (by simp [hx])) hy1
  obtain ⟨PA, pn, pc, p, rfl, p1, p2, p3, p4⟩ := open_elemsC runC 2 (by decide) (fun _ => rfl) Tryz.underlying24 (by kernel_rfl) (fun n cs y hy => by
    obtain ⟨z0, z1, m, _, hl, a0, a1⟩ := trod_struct2 Tryz.underlying57 hy
    have hl2 : cs.length = 2 := hl.trans (by kernel_rfl)
    obtain ⟨c0, c1, rfl⟩ := list2P hl2
    dsimp only at a0 a1
    rw [k0] at a0 a1
    obtain ⟨x0, q0, -, -⟩ := DataW.trod_int Tryz.underlying3 a0
    obtain ⟨x1, q1, -, -⟩ := DataW.trod_int Tryz.underlying3 a1
    simp at q0 q1
    subst q0 q1
    exact ⟨⟨x0, x1⟩, rfl⟩) (fun x hx => hlt x (by simp [hx])) hy2
  obtain ⟨HA, hn, hc, l, rfl, l1, l2, l3, l4⟩ := open_elemsC slotC 3 (by decide) (fun _ => rfl) Tryz.underlying26 (by kernel_rfl) (fun n cs y hy => by
    obtain ⟨z0, z1, z2, m, _, hl, a0, a1, a2⟩ := trod_struct3 Tryz.underlying60 hy
    have hl3 : cs.length = 3 := hl.trans (by kernel_rfl)
    obtain ⟨c0, c1, c2, rfl⟩ := list3Q hl3
    dsimp only at a0 a1 a2
    rw [k0] at a0 a2
    rw [k3] at a1
    obtain ⟨x0, q0, -, -⟩ := DataW.trod_int Tryz.underlying3 a0
    obtain ⟨x1, q1, -⟩ := DataW.trod_bool Tryz.underlying4 a1
    obtain ⟨x2, q2, -, -⟩ := DataW.trod_int Tryz.underlying3 a2
    simp at q0 q1 q2
    subst q0 q1 q2
    exact ⟨⟨x0, x1, x2⟩, rfl⟩) (fun x hx => hlt x (by simp [hx])) hy3
  have w0 := slice_weight Tryz.underlying22 b4 (slice_link Tryz.underlying22 hy0) (fun m hm => hw m (by simp [DataW.weights, Tryz.underlying28, DataW.weightsEach, hm]))
  have w1 := slice_weight Tryz.underlying23 b0 (slice_link Tryz.underlying23 hy1) (fun m hm => hw m (by simp [DataW.weights, Tryz.underlying28, DataW.weightsEach, hm]))
  have w2 := slice_weight Tryz.underlying24 k_pin_bytes (slice_link Tryz.underlying24 hy2) (fun m hm => hw m (by simp [DataW.weights, Tryz.underlying28, DataW.weightsEach, hm]))
  have w3 := slice_weight Tryz.underlying26 k_slot_bytes (slice_link Tryz.underlying26 hy3) (fun m hm => hw m (by simp [DataW.weights, Tryz.underlying28, DataW.weightsEach, hm]))
  unfold maxLen at r2 p2 l2
  exact ⟨A, n, c, RA, rn, rc, PA, pn, pc, HA, hn, hc, ⟨a, r, p, l⟩, rfl, ⟨a4, r4, p3, l3⟩, ⟨a1, a2, a5, by omega, by omega, by omega⟩, w0, w1, w2, w3⟩
set_option maxRecDepth 100000 in
theorem open_op {H : Type} {enc : TypeId × Value → H} {W : World} {r : Reach} {base : Nat} {sp : Nat → Bool} {v : Value} {d : DataW H} {ps : List MemPlace}
    (hval : Value.okWide Tryz.prog W r base 52 v) (h : DataW.Trod enc Tryz.prog W 0 sp true 52 v d ps) :
    ∃ o : OpV, v = .agg #[.int .i64 o.kind, .int .i64 o.a, .int .i64 o.b, .int .i64 o.c, .int .u64 o.v] ∧ (Lit.int .u64 o.v).wf = true := by
  obtain ⟨cs, rfl, hsz⟩ := okWide_struct Tryz.underlying52 hval
  obtain ⟨q0, q1, q2, q3, q4, he⟩ := list5o (l := cs.toList) (by rw [Array.length_toList]; exact hsz.trans (by kernel_rfl))
  obtain rfl : cs = #[q0, q1, q2, q3, q4] := by rw [← Array.toArray_toList (xs := cs), he]
  obtain ⟨fuel, hf⟩ := h
  have k0 : Tryz.prog.cellsOf 3 = 1 := by kernel_rfl
  have k4 : Tryz.prog.cellsOf 45 = 1 := by kernel_rfl
  obtain ⟨y0, y1, y2, y3, y4, m, hl, a0, a1, a2, a3, a4⟩ := trod_struct5o Tryz.underlying52 hf
  simp only [Value.cells] at a0 a1 a2 a3 a4
  rw [k0] at a0 a1 a2 a3
  rw [k4] at a4
  obtain ⟨x0, e0, -, -⟩ := DataW.trod_int Tryz.underlying3 a0
  obtain ⟨x1, e1, -, -⟩ := DataW.trod_int Tryz.underlying3 a1
  obtain ⟨x2, e2, -, -⟩ := DataW.trod_int Tryz.underlying3 a2
  obtain ⟨x3, e3, -, -⟩ := DataW.trod_int Tryz.underlying3 a3
  obtain ⟨x4, e4, e5, e6⟩ := DataW.trod_int Tryz.underlying45 a4
  simp at e0 e1 e2 e3 e4
  subst e0 e1 e2 e3 e4
  exact ⟨⟨x0, x1, x2, x3, x4⟩, rfl, by first | exact e5 | exact e6⟩
end Go.Proofs.YtbmkbnalembbjaaGreatDoor

namespace Go.Proofs.YtbmkbnalembbjaaGreatDoor
open Go.RowKit
end Go.Proofs.YtbmkbnalembbjaaGreatDoor

namespace Go.Proofs.YtbmkbnalembbjaaGreatDoor
open Go.ChangeShapes Go.WideShapes Go.ChangeAt Go.RowKit Go.Joins Go.Deep
end Go.Proofs.YtbmkbnalembbjaaGreatDoor

namespace Go.Proofs.YtbmkbnalembbjaaGreatDoor
open Go.ChangeShapes Go.WideShapes Go.ChangeAt Go.RowKit
theorem cells_of_bools {H : Type} {enc : TypeId × Value → H} {P : Program} {w : World} {base : Nat} {sp : Nat → Bool} {held : Bool} {fuel : Nat} {t e : TypeId} {n : Nat} {cs : List Value} {zs : List Bool} {p : List MemPlace}
    (ht : P.underlying t = some (.array n e)) (he : P.underlying e = some .bool) (hce : P.cellsOf e = 1) (hct : P.cellsOf t = n)
    (h : DataW.trod enc P w base sp held fuel t cs = some (.agg (zs.map fun z => .lit (.bool z)), p)) : cs = zs.map Value.bool := by
  cases fuel with
  | zero => simp [DataW.trod] at h
  | succ fuel =>
    simp only [DataW.trod, ht, hce, hct, Nat.mul_one] at h
    split at h
    · rename_i hl
      obtain ⟨xs, hm, hx⟩ := Option.map_eq_some_iff.1 h
      have hxs : xs.map (·.1) = zs.map fun z => (DataW.lit (.bool z) : DataW H) := by
        have := congrArg Prod.fst hx
        simpa using this
      have hxl : xs.length = n := by simpa using Lib.mapM_length hm
      have hzl : zs.length = n := by
        have := congrArg List.length hxs
        simp at this
        omega
      apply List.ext_getElem?
      intro i
      by_cases hi : i < n
      · obtain ⟨b, hb, hf⟩ := Lib.mapM_at hm i i (by simp [hi])
        obtain ⟨z, hc, rfl⟩ := DataW.trod_bool he hf
        have h1 : cs[i]? = some (.bool z) := by
          have := congrArg (·[0]?) hc
          simpa [List.getElem?_take, List.getElem?_drop] using this
        have h2 : (xs.map (·.1))[i]? = some (DataW.lit (.bool z) : DataW H) := by simp [hb]
        rw [hxs] at h2
        simp only [List.getElem?_map, Option.map_eq_some_iff, DataW.lit.injEq, Lit.bool.injEq] at h2
        obtain ⟨z', hz', rfl⟩ := h2
        simp [h1, hz']
      · rw [List.getElem?_eq_none (by omega), List.getElem?_eq_none (by simp; omega)]
    · cases h
theorem rows_of_bools {H : Type} {enc : TypeId × Value → H} {P : Program} {w : World} {base : Nat} {sp : Nat → Bool} {held : Bool} {fuel : Nat} {t r e : TypeId} {m n : Nat} {cs : List Value} {zs : List (List Bool)} {p : List MemPlace}
    (ht : P.underlying t = some (.array m r)) (hr : P.underlying r = some (.array n e)) (he : P.underlying e = some .bool) (hce : P.cellsOf e = 1) (hcr : P.cellsOf r = n)
    (h : DataW.trod enc P w base sp held fuel t cs = some (.agg (zs.map fun z => .agg (z.map fun b => .lit (.bool b))), p)) : ∀ k z, zs[k]? = some z → k < m → (cs.drop (k * n)).take n = z.map Value.bool := by
  cases fuel with
  | zero => simp [DataW.trod] at h
  | succ fuel =>
    simp only [DataW.trod, ht, hcr] at h
    split at h
    · rename_i hl
      obtain ⟨xs, hm, hx⟩ := Option.map_eq_some_iff.1 h
      have hxs : xs.map (·.1) = zs.map fun z => (DataW.agg (z.map fun b => .lit (.bool b)) : DataW H) := by
        have := congrArg Prod.fst hx
        simpa using this
      intro k z hz hk
      obtain ⟨b, hb, hf⟩ := Lib.mapM_at hm k k (by simp [hk])
      have h2 : (xs.map (·.1))[k]? = some b.1 := by simp [hb]
      rw [hxs, List.getElem?_map, hz] at h2
      have h3 : b.1 = DataW.agg (z.map fun b => .lit (.bool b)) := by simpa using h2.symm
      obtain ⟨b1, b2⟩ := b
      simp only at h3
      subst h3
      exact cells_of_bools hr he hce hcr hf
    · cases h
def formsR : List (List Bool) := [[false, false, false, false], [true, true, true, true], [false, false, false, false], [true, true, true, false], [true, true, true, false], [true, true, false, false], [true, true, false, true], [true, false, false, false], [true, false, false, false], [true, true, false, false], [true, false, false, false], [true, false, false, true], [false, false, false, true], [true, false, false, false]]
theorem formsR_laid {H : Type} : (Rows.laid_cairnfield_play_forms : DataW H) = .agg (formsR.map fun z => .agg (z.map fun b => .lit (.bool b))) := rfl
theorem formsR_at (k : Nat) (hk : k < 14) (i : Nat) (hi : i < 4) : ∃ z, formsR[k]? = some z ∧ (z.map Value.bool)[i]? = some (.bool (formB k i)) := by
  have h : ∀ k < 14, ∀ i < 4, (formsR.getD k [])[i]? = some (formB k i) := by decide
  have hl : k < formsR.length := hk
  refine ⟨formsR[k], List.getElem?_eq_getElem hl, ?_⟩
  have := h k hk i hi
  rw [List.getD_eq_getElem?_getD, List.getElem?_eq_getElem hl, Option.getD_some] at this
  rw [List.getElem?_map, this]
  rfl
theorem gForms : Tryz.prog.globalNamed "cairnfield/play.forms" = some 0 := by kernel_rfl
theorem gFormsType : (Tryz.prog.globals[0]?).map (·.type) = some 140 := by kernel_rfl
theorem cellsForms4 : Tryz.prog.cellsOf 139 = 4 := by kernel_rfl
theorem cellsForms1 : Tryz.prog.cellsOf 4 = 1 := by kernel_rfl
theorem fcell_lt {w : World} {a : Addr} {v : Value} (h : w.cell? a = some v) : a.block < w.heap.size := World.block_lt_of_cell? w a h
set_option maxRecDepth 100000 in
theorem ftab_of {W : World} (h : laidMetH Tryz.prog [("cairnfield/play.forms", Rows.laid_cairnfield_play_forms)] W) : FTab W := by
  have h' : laidMet Tryz.prog [("cairnfield/play.forms", Rows.laid_cairnfield_play_forms)] W := h
  obtain ⟨ps, ⟨g', t', cs, fuel, p, q, hg', ht', hvar, hd, _, _⟩, _⟩ := h'
  obtain rfl := Option.some.inj (gForms.symm.trans hg')
  obtain rfl := Option.some.inj (gFormsType.symm.trans ht')
  rw [formsR_laid] at hd
  have hr := rows_of_bools Tryz.underlying140 Tryz.underlying139 Tryz.underlying4 cellsForms1 cellsForms4 hd
  have hc : ∀ k i : Nat, k < 14 → i < 4 → W.cell? ⟨0, k * 4 + i, none⟩ = some (.bool (formB k i)) := by
    intro k i hk hi
    obtain ⟨z, hz, hzi⟩ := formsR_at k hk i hi
    have h1 := hr k z hz hk
    rw [← h1, List.getElem?_take, if_pos hi, List.getElem?_drop] at hzi
    have h2 := World.var?_cell gForms hvar (k * 4 + i)
    rw [List.getElem?_toArray] at h2
    rw [h2]
    exact hzi
  exact ⟨fcell_lt (hc 0 0 (by decide) (by decide)), hc⟩
noncomputable def fLaidWorld (os : Os) : World :=
  { World.holding Tryz.prog os ⟨#[], #[], []⟩ with heap := (World.holding Tryz.prog os ⟨#[], #[], []⟩).heap.modify 0 fun
      | .cells _ t frozen => .cells (formsT.map Value.bool).toArray t frozen
      | o => o }
end Go.Proofs.YtbmkbnalembbjaaGreatDoor
