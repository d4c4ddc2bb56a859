/-
  Texts joined: LawHalves LawPins LawNums LawObs LawStore PlayRow.
-/
import Derived.Lib.SmallJoins
import Derived.SizedLaws
import Derived.Deep.Strs
import Derived.Test.YtbmkbnalembbjaaGreatDoorCards
import Derived.Test.YtbmkbnalembbjaaGreatDoorTie
import Derived.Deep.DeepHandedRow
import Derived.Lib.LaidTab
import Derived.Test.YtbmkbnalembbjaaGreatDoorR2
import Derived.Test.YtbmkbnalembbjaaGreatDoorR3
import Derived.Test.YtbmkbnalembbjaaGreatDoorR6
import Derived.Test.YtbmkbnalembbjaaGreatDoorR10
import Derived.Test.YtbmkbnalembbjaaGreatDoorR21
namespace Go.Proofs.YtbmkbnalembbjaaGreatDoor
open Go.ChangeShapes Go.WideShapes Go.ChangeAt Go.RowKit Go.Joins Go.Deep
instance : Inhabited Rm := ⟨⟨0, 0, 0⟩⟩
theorem open_elemsC {α : Type} [Inhabited α] (f : α → List Value) (k : Nat) (hk0 : 0 < k) (hf : ∀ a, (f a).length = k) {H : Type} {enc : TypeId × Value → H} {P : Program} {t e : TypeId} {W : World} {sp : Nat → Bool} {v : Value} {x : DataW H × List MemPlace} {fuel : Nat}
    (ht : P.underlying t = some (.slice e)) (hc : P.cellsOf e = k) (hel : ∀ n cs y, DataW.trod enc P W 0 sp true n e cs = some y → ∃ a, cs = f a)
    (hlt : ∀ p ∈ x.2, p.block < W.heap.size) (hf' : DataW.trod enc P W 0 sp true fuel t [v] = some x) :
    ∃ (A : Option Addr) (n c : Nat) (l : List α), v = .slice A n c ∧ n ≤ c ∧ c ≤ maxLen ∧ Reads W W.heap.size k A n (l.flatMap f) ∧ l.length = n := by
  rcases open_slice ht hf' with ⟨hcs, hx⟩ | ⟨a, len, cap, m, n, D, Pl, hcs, hb, hlc, hm, hmm, hx, hcell⟩
  · simp at hcs
    subst hcs
    exact ⟨none, 0, 0, [], rfl, Nat.le_refl _, Nat.zero_le _, Reads.none_, rfl⟩
  · simp at hcs
    subst hcs
    subst hx
    have hlm : len ≤ m := by rw [hmm]; split <;> omega
    rw [hc] at hcell hlt
    obtain ⟨V, hV⟩ := choose_lt (α := α) (p := fun i x => W.cells? 0 (a.add (i * k)) k = some (f x)) (fun i hi => by
      obtain ⟨cs', h1, h2⟩ := hcell i hi
      obtain ⟨x, rfl⟩ := hel _ _ _ h2
      exact ⟨x, h1⟩)
    refine ⟨some a, len, cap, (List.range len).map V, rfl, hlc, hm, ⟨by rw [flat_length f k hf]; simp, fun hn => ⟨a, rfl, ?_, fun j u hu => ?_⟩⟩, by simp⟩
    · have := hlt (.cell a.block (a.off + 0)) (List.mem_append_left _ (by
        unfold MemPlace.row
        refine List.mem_map.2 ⟨0, List.mem_range.2 ?_, rfl⟩
        exact Nat.mul_pos (by omega) hk0))
      exact this
    · have hj : j < len * k := by
        have := (List.getElem?_eq_some_iff.1 hu).1
        rw [flat_length f k hf] at this
        simpa using this
      have hq : j / k < len := Nat.div_lt_of_lt_mul (by rw [Nat.mul_comm]; exact hj)
      have hr : j % k < k := Nat.mod_lt _ hk0
      have hjd : j / k * k + j % k = j := by rw [Nat.mul_comm]; exact Nat.div_add_mod j k
      rw [← hjd, flat_at f k hf _ _ _ (by simpa using hq) hr] at hu
      simp only [List.getElem_map, List.getElem_range] at hu
      have := (World.cells?_some (hV (j / k) (by omega))).2.2 (j % k) hr
      rw [add_of_add, hjd] at this
      rw [this]
      exact hu
end Go.Proofs.YtbmkbnalembbjaaGreatDoor

namespace Go.Proofs.YtbmkbnalembbjaaGreatDoor
open Go.ChangeShapes Go.WideShapes Go.ChangeAt Go.RowKit Go.Joins Go.Deep
instance inhP : Inhabited Rn := ⟨⟨0, 0⟩⟩
theorem list2P {α : Type} {l : List α} (h : l.length = 2) : ∃ a b, l = [a, b] := by
  match l, h with
  | [a, b], _ => exact ⟨a, b, rfl⟩
end Go.Proofs.YtbmkbnalembbjaaGreatDoor

namespace Go.Proofs.YtbmkbnalembbjaaGreatDoor
open Go.ChangeShapes Go.WideShapes Go.ChangeAt Go.RowKit
end Go.Proofs.YtbmkbnalembbjaaGreatDoor

namespace Go.Proofs.YtbmkbnalembbjaaGreatDoor
open Go.ChangeShapes Go.WideShapes Go.ChangeAt Go.RowKit Go.Joins Go.Deep
instance : Inhabited (Ob × ObV) := ⟨(⟨0, [], [], false⟩, ⟨0, none, 0, 0, none, 0, 0, false⟩)⟩
theorem trod_nums {H : Type} {enc : TypeId × Value → H} {P : Program} {t e : TypeId} {k : IntKind} {W : World} {sp : Nat → Bool} {fuel : Nat} {v : Value} {x : DataW H × List MemPlace} (ht : P.underlying t = some (.slice e)) (he : P.underlying e = some (.int k)) (hc : P.cellsOf e = 1)
    (hlt : ∀ p ∈ x.2, p.block < W.heap.size) (h : DataW.trod enc P W 0 sp true fuel t [v] = some x) :
    ∃ (A : Option Addr) (n c : Nat) (xs : List Int), v = .slice A n c ∧ n ≤ c ∧ c ≤ maxLen ∧ xs.length = n ∧ Reads W W.heap.size 1 A n (xs.map (.int k)) ∧ (∀ x ∈ xs, (Lit.int k x).wf = true) := by
  rcases open_ints ht he hc h with ⟨hcs, hx⟩ | ⟨a, len, cap, zs, hcs, hb, hlc, hm, hzl, hx, hcell, hwf⟩
  · simp at hcs
    subst hcs
    exact ⟨none, 0, 0, [], rfl, Nat.le_refl _, Nat.zero_le _, rfl, Reads.none_, fun x hx => by cases hx⟩
  · simp at hcs
    subst hcs
    subst hx
    have hlz : len ≤ zs.length := by rw [hzl]; split <;> omega
    refine ⟨some a, len, cap, zs.take len, rfl, hlc, hm, by simp; omega, ⟨by simp; omega, fun hn => ⟨a, rfl, ?_, fun j u hu => ?_⟩⟩, fun x hx => hwf x (List.mem_of_mem_take hx)⟩
    · have := hlt (.cell a.block (a.off + 0)) (by
        unfold MemPlace.row
        exact List.mem_map.2 ⟨0, List.mem_range.2 (by omega), rfl⟩)
      exact this
    · have hj : j < len := by
        have := (List.getElem?_eq_some_iff.1 hu).1
        simp at this; omega
      rw [hcell j (by omega)]
      rw [List.getElem?_map, List.getElem?_take, if_pos hj, List.getElem?_eq_getElem (by omega)] at hu
      rw [← hu, List.getD_eq_getElem?_getD, List.getElem?_eq_getElem (by omega)]
      rfl
def ObIn (W : World) (p : Ob × ObV) : Prop := ObR W W.heap.size p.1 p.2 ∧ (∀ x ∈ p.1.refs, (Lit.int .i64 x).wf = true) ∧ ∀ x ∈ p.1.body, (Lit.int .u64 x).wf = true
end Go.Proofs.YtbmkbnalembbjaaGreatDoor

namespace Go.Proofs.YtbmkbnalembbjaaGreatDoor
open Go.ChangeShapes Go.WideShapes Go.ChangeAt Go.RowKit Go.Joins Go.Deep
set_option maxRecDepth 100000 in
theorem open_store {H : Type} {enc : TypeId × Value → H} {W : World} {r : Reach} {base : Nat} {sp : Nat → Bool} {v : Value} {d : DataW H} {ps : List MemPlace}
    (hval : Value.okWide Tryz.prog W r base 28 v) (hlt : ∀ x ∈ ps, x.block < W.heap.size) (h : DataW.Trod enc Tryz.prog W 0 sp true 28 v d ps) :
    ∃ (A : Option Addr) (n c : Nat) (RA : Option Addr) (rn rc : Nat) (PA : Option Addr) (pn pc : Nat) (HA : Option Addr) (hn hc : Nat) (S : St), v = .agg #[.slice A n c, .slice RA rn rc, .slice PA pn pc, .slice HA hn hc] ∧ StR W W.heap.size A n RA rn PA pn HA hn S ∧ StK n c rn pn hn S := by
  obtain ⟨c0, c1, c2, c3, y0, y1, y2, y3, m, rfl, rfl, rfl, hy0, hy1, hy2, hy3⟩ := open_agg4 Tryz.underlying28 (by kernel_rfl) (by kernel_rfl) hval h
  have k4 : Tryz.prog.cellsOf 45 = 1 := by kernel_rfl
  have k0 : Tryz.prog.cellsOf 3 = 1 := by kernel_rfl
  have k3 : Tryz.prog.cellsOf 4 = 1 := by kernel_rfl
  obtain ⟨A, n, c, a, rfl, a1, a2, a3, a4, a5⟩ := trod_nums Tryz.underlying22 Tryz.underlying45 k4 (fun x hx => hlt x (by simp [hx])) hy0
  obtain ⟨RA, rn, rc, r, rfl, r1, r2, r3, r4, r5⟩ := trod_nums Tryz.underlying23 Tryz.underlying3 k0 (fun x hx => hlt x (by simp [hx])) hy1
  obtain ⟨PA, pn, pc, p, rfl, p1, p2, p3, p4⟩ := open_elemsC runC 2 (by decide) (fun _ => rfl) Tryz.underlying24 (by kernel_rfl) (fun n cs y hy => by
    obtain ⟨z0, z1, m, _, hl, a0, a1⟩ := trod_struct2 Tryz.underlying57 hy
    have hl2 : cs.length = 2 := hl.trans (by kernel_rfl)
    obtain ⟨c0, c1, rfl⟩ := list2P hl2
    dsimp only at a0 a1
    rw [k0] at a0 a1
    obtain ⟨x0, q0, -, -⟩ := DataW.trod_int Tryz.underlying3 a0
    obtain ⟨x1, q1, -, -⟩ := DataW.trod_int Tryz.underlying3 a1
    simp at q0 q1
    subst q0 q1
    exact ⟨⟨x0, x1⟩, rfl⟩) (fun x hx => hlt x (by simp [hx])) hy2
  obtain ⟨HA, hn, hc, l, rfl, l1, l2, l3, l4⟩ := open_elemsC slotC 3 (by decide) (fun _ => rfl) Tryz.underlying26 (by kernel_rfl) (fun n cs y hy => by
    obtain ⟨z0, z1, z2, m, _, hl, a0, a1, a2⟩ := trod_struct3 Tryz.underlying60 hy
    have hl3 : cs.length = 3 := hl.trans (by kernel_rfl)
    obtain ⟨c0, c1, c2, rfl⟩ := list3 hl3
    dsimp only at a0 a1 a2
    rw [k0] at a0 a2
    rw [k3] at a1
    obtain ⟨x0, q0, -, -⟩ := DataW.trod_int Tryz.underlying3 a0
    obtain ⟨x1, q1, -⟩ := DataW.trod_bool Tryz.underlying4 a1
    obtain ⟨x2, q2, -, -⟩ := DataW.trod_int Tryz.underlying3 a2
    simp at q0 q1 q2
    subst q0 q1 q2
    exact ⟨⟨x0, x1, x2⟩, rfl⟩) (fun x hx => hlt x (by simp [hx])) hy3
  unfold maxLen at r2 p2 l2
  exact ⟨A, n, c, RA, rn, rc, PA, pn, pc, HA, hn, hc, ⟨a, r, p, l⟩, rfl, ⟨a4, r4, p3, l3⟩, ⟨a1, a2, a5, by omega, by omega, by omega⟩⟩
end Go.Proofs.YtbmkbnalembbjaaGreatDoor

namespace Go.Proofs.YtbmkbnalembbjaaGreatDoor
open Go.ChangeShapes Go.WideShapes Go.ChangeAt Go.RowKit
theorem cells_of_bools {H : Type} {enc : TypeId × Value → H} {P : Program} {w : World} {base : Nat} {sp : Nat → Bool} {held : Bool} {fuel : Nat} {t e : TypeId} {n : Nat} {cs : List Value} {zs : List Bool} {p : List MemPlace}
    (ht : P.underlying t = some (.array n e)) (he : P.underlying e = some .bool) (hce : P.cellsOf e = 1) (hct : P.cellsOf t = n)
    (h : DataW.trod enc P w base sp held fuel t cs = some (.agg (zs.map fun z => .lit (.bool z)), p)) : cs = zs.map Value.bool := by
  cases fuel with
  | zero => simp [DataW.trod] at h
  | succ fuel =>
    simp only [DataW.trod, ht, hce, hct, Nat.mul_one] at h
    split at h
    · rename_i hl
      obtain ⟨xs, hm, hx⟩ := Option.map_eq_some_iff.1 h
      have hxs : xs.map (·.1) = zs.map fun z => (DataW.lit (.bool z) : DataW H) := by
        have := congrArg Prod.fst hx
        simpa using this
      have hxl : xs.length = n := by simpa using Lib.mapM_length hm
      have hzl : zs.length = n := by
        have := congrArg List.length hxs
        simp at this
        omega
      apply List.ext_getElem?
      intro i
      by_cases hi : i < n
      · obtain ⟨b, hb, hf⟩ := Lib.mapM_at hm i i (by simp [hi])
        obtain ⟨z, hc, rfl⟩ := DataW.trod_bool he hf
        have h1 : cs[i]? = some (.bool z) := by
          have := congrArg (·[0]?) hc
          simpa [List.getElem?_take, List.getElem?_drop] using this
        have h2 : (xs.map (·.1))[i]? = some (DataW.lit (.bool z) : DataW H) := by simp [hb]
        rw [hxs] at h2
        simp only [List.getElem?_map, Option.map_eq_some_iff, DataW.lit.injEq, Lit.bool.injEq] at h2
        obtain ⟨z', hz', rfl⟩ := h2
        simp [h1, hz']
      · rw [List.getElem?_eq_none (by omega), List.getElem?_eq_none (by simp; omega)]
    · cases h
theorem rows_of_bools {H : Type} {enc : TypeId × Value → H} {P : Program} {w : World} {base : Nat} {sp : Nat → Bool} {held : Bool} {fuel : Nat} {t r e : TypeId} {m n : Nat} {cs : List Value} {zs : List (List Bool)} {p : List MemPlace}
    (ht : P.underlying t = some (.array m r)) (hr : P.underlying r = some (.array n e)) (he : P.underlying e = some .bool) (hce : P.cellsOf e = 1) (hcr : P.cellsOf r = n)
    (h : DataW.trod enc P w base sp held fuel t cs = some (.agg (zs.map fun z => .agg (z.map fun b => .lit (.bool b))), p)) : ∀ k z, zs[k]? = some z → k < m → (cs.drop (k * n)).take n = z.map Value.bool := by
  cases fuel with
  | zero => simp [DataW.trod] at h
  | succ fuel =>
    simp only [DataW.trod, ht, hcr] at h
    split at h
    · rename_i hl
      obtain ⟨xs, hm, hx⟩ := Option.map_eq_some_iff.1 h
      have hxs : xs.map (·.1) = zs.map fun z => (DataW.agg (z.map fun b => .lit (.bool b)) : DataW H) := by
        have := congrArg Prod.fst hx
        simpa using this
      intro k z hz hk
      obtain ⟨b, hb, hf⟩ := Lib.mapM_at hm k k (by simp [hk])
      have h2 : (xs.map (·.1))[k]? = some b.1 := by simp [hb]
      rw [hxs, List.getElem?_map, hz] at h2
      have h3 : b.1 = DataW.agg (z.map fun b => .lit (.bool b)) := by simpa using h2.symm
      obtain ⟨b1, b2⟩ := b
      simp only at h3
      subst h3
      exact cells_of_bools hr he hce hcr hf
    · cases h
def formsR : List (List Bool) := [[false, false, false, false], [true, true, true, true], [false, false, false, false], [true, true, true, false], [true, true, true, false], [true, true, false, false], [true, true, false, true], [true, false, false, false], [true, false, false, false], [true, true, false, false], [true, false, false, false], [true, false, false, true], [false, false, false, true], [true, false, false, false]]
theorem formsR_laid {H : Type} : (Rows.laid_cairnfield_play_forms : DataW H) = .agg (formsR.map fun z => .agg (z.map fun b => .lit (.bool b))) := rfl
theorem formsR_at (k : Nat) (hk : k < 14) (i : Nat) (hi : i < 4) : ∃ z, formsR[k]? = some z ∧ (z.map Value.bool)[i]? = some (.bool (formB k i)) := by
  have h : ∀ k < 14, ∀ i < 4, (formsR.getD k [])[i]? = some (formB k i) := by decide
  have hl : k < formsR.length := hk
  refine ⟨formsR[k], List.getElem?_eq_getElem hl, ?_⟩
  have := h k hk i hi
  rw [List.getD_eq_getElem?_getD, List.getElem?_eq_getElem hl, Option.getD_some] at this
  rw [List.getElem?_map, this]
  rfl
theorem gForms : Tryz.prog.globalNamed "cairnfield/play.forms" = some 0 := by kernel_rfl
theorem gFormsType : (Tryz.prog.globals[0]?).map (·.type) = some 140 := by kernel_rfl
theorem cellsForms4 : Tryz.prog.cellsOf 139 = 4 := by kernel_rfl
theorem cellsForms1 : Tryz.prog.cellsOf 4 = 1 := by kernel_rfl
theorem fcell_lt {w : World} {a : Addr} {v : Value} (h : w.cell? a = some v) : a.block < w.heap.size := World.block_lt_of_cell? w a h
set_option maxRecDepth 100000 in
theorem ftab_of {W : World} (h : laidMetH Tryz.prog [("cairnfield/play.forms", Rows.laid_cairnfield_play_forms)] W) : FTab W := by
  have h' : laidMet Tryz.prog [("cairnfield/play.forms", Rows.laid_cairnfield_play_forms)] W := h
  obtain ⟨ps, ⟨g', t', cs, fuel, p, q, hg', ht', hvar, hd, _, _⟩, _⟩ := h'
  obtain rfl := Option.some.inj (gForms.symm.trans hg')
  obtain rfl := Option.some.inj (gFormsType.symm.trans ht')
  rw [formsR_laid] at hd
  have hr := rows_of_bools Tryz.underlying140 Tryz.underlying139 Tryz.underlying4 cellsForms1 cellsForms4 hd
  have hc : ∀ k i : Nat, k < 14 → i < 4 → W.cell? ⟨0, k * 4 + i, none⟩ = some (.bool (formB k i)) := by
    intro k i hk hi
    obtain ⟨z, hz, hzi⟩ := formsR_at k hk i hi
    have h1 := hr k z hz hk
    rw [← h1, List.getElem?_take, if_pos hi, List.getElem?_drop] at hzi
    have h2 := World.var?_cell gForms hvar (k * 4 + i)
    rw [List.getElem?_toArray] at h2
    rw [h2]
    exact hzi
  exact ⟨fcell_lt (hc 0 0 (by decide) (by decide)), hc⟩
noncomputable def fLaidWorld (os : Os) : World :=
  { World.holding Tryz.prog os ⟨#[], #[], []⟩ with heap := (World.holding Tryz.prog os ⟨#[], #[], []⟩).heap.modify 0 fun
      | .cells _ t frozen => .cells (formsT.map Value.bool).toArray t frozen
      | o => o }
end Go.Proofs.YtbmkbnalembbjaaGreatDoor
