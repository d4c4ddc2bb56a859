/-
  Texts joined: DeskRow.
-/
import Derived.Test.YtblkhipbhahmeaaGreatDoorCards
import Derived.Test.YtblkhipbhahmeaaGreatDoorTie
import Derived.Deep.DeepHandedRow
import Derived.Lib.LaidTab
import Derived.Stop.LaidErr
import Derived.Shelf.LaysM
import Derived.Ground.NamesProg
import Derived.Shelf.Lay
import Derived.Test.YtblkhipbhahmeaaGreatDoorU1
import Derived.Test.YtblkhipbhahmeaaGreatDoorU22
import Derived.Test.YtblkhipbhahmeaaGreatDoorU25
namespace Go.Proofs
open Go.RowKit Go.Shelf
shelf_lay LaysM.n146 Nm 146 at Tryz as Tryz.splitM
end Go.Proofs
namespace Go.Proofs.YtblkhipbhahmeaaGreatDoor
open Go.ChangeShapes Go.WideShapes Go.ChangeAt Go.RowKit
theorem cells_bools {H : Type} {enc : TypeId × Value → H} {P : Program} {w : World} {base : Nat} {sp : Nat → Bool} {held : Bool} {fuel : Nat} {t e : TypeId} {n : Nat} {cs : List Value} {zs : List Bool} {p : List MemPlace}
  (ht : P.underlying t = some (.array n e)) (he : P.underlying e = some .bool) (hce : P.cellsOf e = 1) (hct : P.cellsOf t = n)
  (h : DataW.trod enc P w base sp held fuel t cs = some (.agg (zs.map fun z => .lit (.bool z)), p)) : cs = zs.map Value.bool := by
 cases fuel with
 | zero => simp [DataW.trod] at h
 | succ fuel =>
   simp only [DataW.trod, ht, hce, hct, Nat.mul_one] at h
   split at h
   ·rename_i hl
    obtain ⟨xs, hm, hx⟩ := Option.map_eq_some_iff.1 h
    have hxs : xs.map (·.1) = zs.map fun z => (DataW.lit (.bool z) : DataW H) := by
     have := congrArg Prod.fst hx
     simpa using this
    have hxl : xs.length = n := by simpa using Lib.mapM_length hm
    have hzl : zs.length = n := by
     have := congrArg List.length hxs
     simp at this
     omega
    apply List.ext_getElem?
    intro i
    by_cases hi : i < n
    ·obtain ⟨b, hb, hf⟩ := Lib.mapM_at hm i i (by simp [hi])
     obtain ⟨z, hc, rfl⟩ := DataW.trod_bool he hf
     have h1 : cs[i]? = some (.bool z) := by
      have := congrArg (·[0]?) hc
      simpa [List.getElem?_take, List.getElem?_drop] using this
     have h2 : (xs.map (·.1))[i]? = some (DataW.lit (.bool z) : DataW H) := by simp [hb]
     rw [hxs] at h2
     simp only [List.getElem?_map, Option.map_eq_some_iff, DataW.lit.injEq, Lit.bool.injEq] at h2
     obtain ⟨z', hz', rfl⟩ := h2
     simp [h1, hz']
    ·rw [List.getElem?_eq_none (by omega), List.getElem?_eq_none (by simp; omega)]
   ·cases h
theorem rows_bools {H : Type} {enc : TypeId × Value → H} {P : Program} {w : World} {base : Nat} {sp : Nat → Bool} {held : Bool} {fuel : Nat} {t r e : TypeId} {m n : Nat} {cs : List Value} {zs : List (List Bool)} {p : List MemPlace}
  (ht : P.underlying t = some (.array m r)) (hr : P.underlying r = some (.array n e)) (he : P.underlying e = some .bool) (hce : P.cellsOf e = 1) (hcr : P.cellsOf r = n)
  (h : DataW.trod enc P w base sp held fuel t cs = some (.agg (zs.map fun z => .agg (z.map fun b => .lit (.bool b))), p)) : ∀ k z, zs[k]? = some z → k < m → (cs.drop (k * n)).take n = z.map Value.bool := by
 cases fuel with
 | zero => simp [DataW.trod] at h
 | succ fuel =>
   simp only [DataW.trod, ht, hcr] at h
   split at h
   ·rename_i hl
    obtain ⟨xs, hm, hx⟩ := Option.map_eq_some_iff.1 h
    have hxs : xs.map (·.1) = zs.map fun z => (DataW.agg (z.map fun b => .lit (.bool b)) : DataW H) := by
     have := congrArg Prod.fst hx
     simpa using this
    intro k z hz hk
    obtain ⟨b, hb, hf⟩ := Lib.mapM_at hm k k (by simp [hk])
    have h2 : (xs.map (·.1))[k]? = some b.1 := by simp [hb]
    rw [hxs, List.getElem?_map, hz] at h2
    have h3 : b.1 = DataW.agg (z.map fun b => .lit (.bool b)) := by simpa using h2.symm
    obtain ⟨b1, b2⟩ := b
    simp only at h3
    subst h3
    exact cells_bools hr he hce hcr hf
   ·cases h
def formsD : List (List Bool) := [[false, false, false, false], [true, true, true, true], [false, false, false, false], [true, true, true, false], [true, true, true, false], [true, true, false, false], [true, true, false, true], [true, false, false, false], [true, false, false, false], [true, true, false, false], [true, false, false, false], [true, false, false, true], [false, false, false, true], [true, false, false, false]]
theorem formsD_laid {H : Type} : (Rows.laid_cairnfield_play_forms : DataW H) = .agg (formsD.map fun z => .agg (z.map fun b => .lit (.bool b))) := rfl
theorem formsD_at (k : Nat) (hk : k < 14) (i : Nat) (hi : i < 4) : ∃ z, formsD[k]? = some z ∧ (z.map Value.bool)[i]? = some (.bool (formB k i)) := by
 have h : ∀ k < 14, ∀ i < 4, (formsD.getD k [])[i]? = some (formB k i) := by decide
 have hl : k < formsD.length := hk
 refine ⟨formsD[k], List.getElem?_eq_getElem hl, ?_⟩
 have := h k hk i hi
 rw [List.getD_eq_getElem?_getD, List.getElem?_eq_getElem hl, Option.getD_some] at this
 rw [List.getElem?_map, this]
 rfl
theorem gFormsD : Tryz.prog.globalNamed "cairnfield/play.forms" = some 2 := by kernel_rfl
theorem gFormsDType : (Tryz.prog.globals[2]?).map (·.type) = some 222 := by kernel_rfl
theorem cellsFormsD4 : Tryz.prog.cellsOf 221 = 4 := by kernel_rfl
theorem cellsFormsD1 : Tryz.prog.cellsOf 4 = 1 := by kernel_rfl
set_option maxRecDepth 100000 in
theorem ftab_at {W : World} {r : List (String × DataW Unit)} (h : laidMet Tryz.prog (("cairnfield/play.forms", Rows.laid_cairnfield_play_forms) :: r) W) : FTab W := by
 obtain ⟨ps, ⟨g', t', cs, fuel, p, q, hg', ht', hvar, hd, _, _⟩, _⟩ := h
 obtain rfl := Option.some.inj (gFormsD.symm.trans hg')
 obtain rfl := Option.some.inj (gFormsDType.symm.trans ht')
 rw [formsD_laid] at hd
 have hr := rows_bools Tryz.underlying222 Tryz.underlying221 Tryz.underlying4 cellsFormsD1 cellsFormsD4 hd
 have hc : ∀ k i : Nat, k < 14 → i < 4 → W.cell? ⟨2, k * 4 + i, none⟩ = some (.bool (formB k i)) := by
  intro k i hk hi
  obtain ⟨z, hz, hzi⟩ := formsD_at k hk i hi
  have h1 := hr k z hz hk
  rw [← h1, List.getElem?_take, if_pos hi, List.getElem?_drop] at hzi
  have h2 := World.var?_cell gFormsD hvar (k * 4 + i)
  rw [List.getElem?_toArray] at h2
  rw [h2]
  exact hzi
 exact ⟨World.block_lt_of_cell? W _ (hc 0 0 (by decide) (by decide)), hc⟩
theorem gPow : Tryz.prog.globalNamed "internal/strconv.uint64pow10" = some 0 := by kernel_rfl
theorem gPowType : (Tryz.prog.globals[0]?).map (·.type) = some 217 := by kernel_rfl
theorem cellsPow : Tryz.prog.cellsOf 217 = 20 := by kernel_rfl
theorem cellsU64 : Tryz.prog.cellsOf 40 = 1 := by kernel_rfl
theorem gSyn : Tryz.prog.globalNamed "strconv.ErrSyntax" = some 3 := by kernel_rfl
theorem gSynType : (Tryz.prog.globals[3]?).map (·.type) = some 154 := by kernel_rfl
theorem gRng : Tryz.prog.globalNamed "strconv.ErrRange" = some 4 := by kernel_rfl
theorem gRngType : (Tryz.prog.globals[4]?).map (·.type) = some 154 := by kernel_rfl
theorem cellsErrS : Tryz.prog.cellsOf 283 = 1 := by kernel_rfl
theorem cellsStr : Tryz.prog.cellsOf 9 = 1 := by kernel_rfl
theorem starE : "*" ++ "errors.errorString" = "*errors.errorString" := by decide
theorem rowErrS (u : TypeId) (h : Tryz.prog.typeName? 3 u = some "*errors.errorString") : u = 281 :=
 typeName_ptr_named (nm := "errors.errorString") (by rw [starE]; kernel_rfl) (by kernel_rfl) (by decide) u (by rw [starE]; exact h)
theorem var_lt {W : World} {nm : String} {cs : Array Value} {g : Nat} (hg : Tryz.prog.globalNamed nm = some g) (h : W.var? Tryz.prog nm = some cs) : g < W.heap.size := by
 unfold World.var? at h
 simp only [hg, Option.bind_some] at h
 rcases Nat.lt_or_ge g W.heap.size with h' | h'
 ·exact h'
 ·rw [Array.getElem?_eq_none h'] at h
  cases h
theorem dtab_of {W : World} (h : laidMetH Tryz.prog [("math/bits.deBruijn32tab", Rows.laid_math_bits_deBruijn32tab), ("math/bits.deBruijn64tab", Rows.laid_math_bits_deBruijn64tab), ("internal/strconv.uint64pow10", Rows.laid_internal_strconv_uint64pow10), ("unicode/utf8.acceptRanges", Rows.laid_unicode_utf8_acceptRanges), ("cairnfield/play.forms", Rows.laid_cairnfield_play_forms), ("strconv.ErrRange", Rows.laid_strconv_ErrRange), ("strconv.ErrSyntax", Rows.laid_strconv_ErrSyntax), ("unicode/utf8.first", Rows.laid_unicode_utf8_first)] W) (hSh : W.ShapedOpen Tryz.prog) : DTab W.heap.size W := by
 have h0 : laidMet Tryz.prog _ W := h
 have h2 := h0.tail.tail
 have h4 := h2.tail.tail
 have h5 := h4.tail
 have h6 := h5.tail
 have hp : Lib.TabIs Tryz.prog W "internal/strconv.uint64pow10" .u64 Lib.pow10Tab := Lib.tabIs_of_head gPow gPowType Tryz.underlying217 Tryz.underlying40 cellsU64 cellsPow h2
 have hf : FTab W := ftab_at h4
 obtain ⟨a1, s1, hv1, -, -, -⟩ := laid_sentinel h5 gRng gRngType Tryz.underlying154 rowErrS Tryz.underlying281 Tryz.underlying283 rfl rfl Tryz.underlying9 cellsErrS cellsStr
 obtain ⟨a2, s2, hv2, -, -, -⟩ := laid_sentinel h6 gSyn gSynType Tryz.underlying154 rowErrS Tryz.underlying281 Tryz.underlying283 rfl rfl Tryz.underlying9 cellsErrS cellsStr
 obtain ⟨m, hm⟩ := Tryz.splitM.s1_3 W hSh
 exact ⟨hf, ⟨hp, ⟨_, _, hv2⟩, ⟨_, _, hv1⟩⟩, ⟨m, hm⟩, hf.1, var_lt gPow hp, World.block_lt_of_cell? W _ hm, var_lt gSyn hv2, var_lt gRng hv1⟩
def flatD : Nat → DataW Unit → List Value
 | _ + 1, .lit (.int k x) => [.int k x]
 | _ + 1, .lit (.bool b) => [.bool b]
 | n + 1, .agg l => l.flatMap (flatD n)
 | _, _ => []
def setVar (h : Array Obj) (g : Nat) (cs : List Value) : Array Obj := h.modify g fun
 | .cells _ t frozen => .cells cs.toArray t frozen
 | o => o
noncomputable def dLow : Nat := (World.holding Tryz.prog default ⟨#[], #[], []⟩).heap.size
noncomputable def dLaidWorld (os : Os) : World :=
 let w0 := World.holding Tryz.prog os ⟨#[.cells #[.string { data := #[105, 110, 118, 97, 108, 105, 100, 32, 115, 121, 110, 116, 97, 120] }] 283, .cells #[.string { data := #[118, 97, 108, 117, 101, 32, 111, 117, 116, 32, 111, 102, 32, 114, 97, 110, 103, 101] }] 283], #[], []⟩
 { w0 with heap := setVar (setVar (setVar (setVar (setVar (setVar (setVar (setVar w0.heap
   7 (flatD 4 Rows.laid_math_bits_deBruijn32tab)) 8 (flatD 4 Rows.laid_math_bits_deBruijn64tab)) 0 (flatD 4 Rows.laid_internal_strconv_uint64pow10)) 6 (flatD 4 Rows.laid_unicode_utf8_acceptRanges)) 2 (flatD 4 Rows.laid_cairnfield_play_forms)) 5 (flatD 4 Rows.laid_unicode_utf8_first))
   3 [.iface 281 (.pointer (some ⟨dLow, 0, none⟩))]) 4 [.iface 281 (.pointer (some ⟨dLow + 1, 0, none⟩))] }
end Go.Proofs.YtblkhipbhahmeaaGreatDoor
