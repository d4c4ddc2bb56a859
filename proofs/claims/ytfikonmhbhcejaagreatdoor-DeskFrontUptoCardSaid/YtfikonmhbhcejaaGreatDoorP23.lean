/-
  Texts joined: DeskRow Works StaysLaw PlayFn.
-/
import Derived.Test.YtfikonmhbhcejaaGreatDoorCards
import Derived.Test.YtfikonmhbhcejaaGreatDoorTie
import Derived.Deep.DeepHandedRow
import Derived.Lib.LaidTab
import Derived.Stop.LaidErr
import Derived.Shelf.LaysM
import Derived.Ground.NamesProg
import Derived.Shelf.Lay
import Derived.Test.YtfikonmhbhcejaaGreatDoorP1
import Derived.Test.YtfikonmhbhcejaaGreatDoorP6
import Derived.Test.YtfikonmhbhcejaaGreatDoorP18
import Derived.Test.YtfikonmhbhcejaaGreatDoorP20
import Derived.Test.YtfikonmhbhcejaaGreatDoorP22
namespace Go.Proofs
open Go.RowKit Go.Shelf
shelf_lay LaysM.n146 Nm 146 at Tryz as Tryz.splitM
end Go.Proofs
namespace Go.Proofs.YtfikonmhbhcejaaGreatDoor
open Go.ChangeShapes Go.WideShapes Go.ChangeAt Go.RowKit
theorem cells_bools {H : Type} {enc : TypeId × Value → H} {P : Program} {w : World} {base : Nat} {sp : Nat → Bool} {held : Bool} {fuel : Nat} {t e : TypeId} {n : Nat} {cs : List Value} {zs : List Bool} {p : List MemPlace}
    (ht : P.underlying t = some (.array n e)) (he : P.underlying e = some .bool) (hce : P.cellsOf e = 1) (hct : P.cellsOf t = n)
    (h : DataW.trod enc P w base sp held fuel t cs = some (.agg (zs.map fun z => .lit (.bool z)), p)) : cs = zs.map Value.bool := by
  cases fuel with
  | zero => simp [DataW.trod] at h
  | succ fuel =>
    simp only [DataW.trod, ht, hce, hct, Nat.mul_one] at h
    split at h
    · rename_i hl
      obtain ⟨xs, hm, hx⟩ := Option.map_eq_some_iff.1 h
      have hxs : xs.map (·.1) = zs.map fun z => (DataW.lit (.bool z) : DataW H) := by
        have := congrArg Prod.fst hx
        simpa using this
      have hxl : xs.length = n := by simpa using Lib.mapM_length hm
      have hzl : zs.length = n := by
        have := congrArg List.length hxs
        simp at this
        omega
      apply List.ext_getElem?
      intro i
      by_cases hi : i < n
      · obtain ⟨b, hb, hf⟩ := Lib.mapM_at hm i i (by simp [hi])
        obtain ⟨z, hc, rfl⟩ := DataW.trod_bool he hf
        have h1 : cs[i]? = some (.bool z) := by
          have := congrArg (·[0]?) hc
          simpa [List.getElem?_take, List.getElem?_drop] using this
        have h2 : (xs.map (·.1))[i]? = some (DataW.lit (.bool z) : DataW H) := by simp [hb]
        rw [hxs] at h2
        simp only [List.getElem?_map, Option.map_eq_some_iff, DataW.lit.injEq, Lit.bool.injEq] at h2
        obtain ⟨z', hz', rfl⟩ := h2
        simp [h1, hz']
      · rw [List.getElem?_eq_none (by omega), List.getElem?_eq_none (by simp; omega)]
    · cases h
theorem rows_bools {H : Type} {enc : TypeId × Value → H} {P : Program} {w : World} {base : Nat} {sp : Nat → Bool} {held : Bool} {fuel : Nat} {t r e : TypeId} {m n : Nat} {cs : List Value} {zs : List (List Bool)} {p : List MemPlace}
    (ht : P.underlying t = some (.array m r)) (hr : P.underlying r = some (.array n e)) (he : P.underlying e = some .bool) (hce : P.cellsOf e = 1) (hcr : P.cellsOf r = n)
    (h : DataW.trod enc P w base sp held fuel t cs = some (.agg (zs.map fun z => .agg (z.map fun b => .lit (.bool b))), p)) : ∀ k z, zs[k]? = some z → k < m → (cs.drop (k * n)).take n = z.map Value.bool := by
  cases fuel with
  | zero => simp [DataW.trod] at h
  | succ fuel =>
    simp only [DataW.trod, ht, hcr] at h
    split at h
    · rename_i hl
      obtain ⟨xs, hm, hx⟩ := Option.map_eq_some_iff.1 h
      have hxs : xs.map (·.1) = zs.map fun z => (DataW.agg (z.map fun b => .lit (.bool b)) : DataW H) := by
        have := congrArg Prod.fst hx
        simpa using this
      intro k z hz hk
      obtain ⟨b, hb, hf⟩ := Lib.mapM_at hm k k (by simp [hk])
      have h2 : (xs.map (·.1))[k]? = some b.1 := by simp [hb]
      rw [hxs, List.getElem?_map, hz] at h2
      have h3 : b.1 = DataW.agg (z.map fun b => .lit (.bool b)) := by simpa using h2.symm
      obtain ⟨b1, b2⟩ := b
      simp only at h3
      subst h3
      exact cells_bools hr he hce hcr hf
    · cases h
def formsD : List (List Bool) := [[false, false, false, false], [true, true, true, true], [false, false, false, false], [true, true, true, false], [true, true, true, false], [true, true, false, false], [true, true, false, true], [true, false, false, false], [true, false, false, false], [true, true, false, false], [true, false, false, false], [true, false, false, true], [false, false, false, true], [true, false, false, false]]
theorem formsD_laid {H : Type} : (Rows.laid_cairnfield_play_forms : DataW H) = .agg (formsD.map fun z => .agg (z.map fun b => .lit (.bool b))) := rfl
theorem formsD_at (k : Nat) (hk : k < 14) (i : Nat) (hi : i < 4) : ∃ z, formsD[k]? = some z ∧ (z.map Value.bool)[i]? = some (.bool (formB k i)) := by
  have h : ∀ k < 14, ∀ i < 4, (formsD.getD k [])[i]? = some (formB k i) := by decide
  have hl : k < formsD.length := hk
  refine ⟨formsD[k], List.getElem?_eq_getElem hl, ?_⟩
  have := h k hk i hi
  rw [List.getD_eq_getElem?_getD, List.getElem?_eq_getElem hl, Option.getD_some] at this
  rw [List.getElem?_map, this]
  rfl
theorem gFormsD : Tryz.prog.globalNamed "cairnfield/play.forms" = some 0 := by kernel_rfl
theorem gFormsDType : (Tryz.prog.globals[0]?).map (·.type) = some 163 := by kernel_rfl
theorem cellsFormsD4 : Tryz.prog.cellsOf 162 = 4 := by kernel_rfl
theorem cellsFormsD1 : Tryz.prog.cellsOf 4 = 1 := by kernel_rfl
set_option maxRecDepth 100000 in
theorem ftab_at {W : World} {r : List (String × DataW Unit)} (h : laidMet Tryz.prog (("cairnfield/play.forms", Rows.laid_cairnfield_play_forms) :: r) W) : FTab W := by
  obtain ⟨ps, ⟨g', t', cs, fuel, p, q, hg', ht', hvar, hd, _, _⟩, _⟩ := h
  obtain rfl := Option.some.inj (gFormsD.symm.trans hg')
  obtain rfl := Option.some.inj (gFormsDType.symm.trans ht')
  rw [formsD_laid] at hd
  have hr := rows_bools Tryz.underlying163 Tryz.underlying162 Tryz.underlying4 cellsFormsD1 cellsFormsD4 hd
  have hc : ∀ k i : Nat, k < 14 → i < 4 → W.cell? ⟨0, k * 4 + i, none⟩ = some (.bool (formB k i)) := by
    intro k i hk hi
    obtain ⟨z, hz, hzi⟩ := formsD_at k hk i hi
    have h1 := hr k z hz hk
    rw [← h1, List.getElem?_take, if_pos hi, List.getElem?_drop] at hzi
    have h2 := World.var?_cell gFormsD hvar (k * 4 + i)
    rw [List.getElem?_toArray] at h2
    rw [h2]
    exact hzi
  exact ⟨World.block_lt_of_cell? W _ (hc 0 0 (by decide) (by decide)), hc⟩
theorem gPow : Tryz.prog.globalNamed "internal/strconv.uint64pow10" = some 1 := by kernel_rfl
theorem gPowType : (Tryz.prog.globals[1]?).map (·.type) = some 297 := by kernel_rfl
theorem cellsPow : Tryz.prog.cellsOf 297 = 20 := by kernel_rfl
theorem cellsU64 : Tryz.prog.cellsOf 44 = 1 := by kernel_rfl
theorem gSyn : Tryz.prog.globalNamed "strconv.ErrSyntax" = some 3 := by kernel_rfl
theorem gSynType : (Tryz.prog.globals[3]?).map (·.type) = some 249 := by kernel_rfl
theorem gRng : Tryz.prog.globalNamed "strconv.ErrRange" = some 4 := by kernel_rfl
theorem gRngType : (Tryz.prog.globals[4]?).map (·.type) = some 249 := by kernel_rfl
theorem cellsErrS : Tryz.prog.cellsOf 318 = 1 := by kernel_rfl
theorem cellsStr : Tryz.prog.cellsOf 9 = 1 := by kernel_rfl
theorem starE : "*" ++ "errors.errorString" = "*errors.errorString" := by decide
theorem rowErrS (u : TypeId) (h : Tryz.prog.typeName? 3 u = some "*errors.errorString") : u = 316 :=
  typeName_ptr_named (nm := "errors.errorString") (by rw [starE]; kernel_rfl) (by kernel_rfl) (by decide) u (by rw [starE]; exact h)
theorem var_lt {W : World} {nm : String} {cs : Array Value} {g : Nat} (hg : Tryz.prog.globalNamed nm = some g) (h : W.var? Tryz.prog nm = some cs) : g < W.heap.size := by
  unfold World.var? at h
  simp only [hg, Option.bind_some] at h
  rcases Nat.lt_or_ge g W.heap.size with h' | h'
  · exact h'
  · rw [Array.getElem?_eq_none h'] at h
    cases h
theorem dtab_of {W : World} (h : laidMetH Tryz.prog [("math/bits.deBruijn32tab", Rows.laid_math_bits_deBruijn32tab), ("math/bits.deBruijn64tab", Rows.laid_math_bits_deBruijn64tab), ("internal/strconv.uint64pow10", Rows.laid_internal_strconv_uint64pow10), ("unicode/utf8.acceptRanges", Rows.laid_unicode_utf8_acceptRanges), ("cairnfield/play.forms", Rows.laid_cairnfield_play_forms), ("strconv.ErrRange", Rows.laid_strconv_ErrRange), ("strconv.ErrSyntax", Rows.laid_strconv_ErrSyntax), ("unicode/utf8.first", Rows.laid_unicode_utf8_first)] W) (hSh : W.ShapedOpen Tryz.prog) : DTab W.heap.size W := by
  have h0 : laidMet Tryz.prog _ W := h
  have h2 := h0.tail.tail
  have h4 := h2.tail.tail
  have h5 := h4.tail
  have h6 := h5.tail
  have hp : Lib.TabIs Tryz.prog W "internal/strconv.uint64pow10" .u64 Lib.pow10Tab := Lib.tabIs_of_head gPow gPowType Tryz.underlying297 Tryz.underlying44 cellsU64 cellsPow h2
  have hf : FTab W := ftab_at h4
  obtain ⟨a1, s1, hv1, -, -, -⟩ := laid_sentinel h5 gRng gRngType Tryz.underlying249 rowErrS Tryz.underlying316 Tryz.underlying318 rfl rfl Tryz.underlying9 cellsErrS cellsStr
  obtain ⟨a2, s2, hv2, -, -, -⟩ := laid_sentinel h6 gSyn gSynType Tryz.underlying249 rowErrS Tryz.underlying316 Tryz.underlying318 rfl rfl Tryz.underlying9 cellsErrS cellsStr
  obtain ⟨m, hm⟩ := Tryz.splitM.s1_3 W hSh
  exact ⟨hf, ⟨hp, ⟨_, _, hv2⟩, ⟨_, _, hv1⟩⟩, ⟨m, hm⟩, hf.1, var_lt gPow hp, World.block_lt_of_cell? W _ hm, var_lt gSyn hv2, var_lt gRng hv1⟩
def flatD : Nat → DataW Unit → List Value
  | _ + 1, .lit (.int k x) => [.int k x]
  | _ + 1, .lit (.bool b) => [.bool b]
  | n + 1, .agg l => l.flatMap (flatD n)
  | _, _ => []
def setVar (h : Array Obj) (g : Nat) (cs : List Value) : Array Obj := h.modify g fun
  | .cells _ t frozen => .cells cs.toArray t frozen
  | o => o
noncomputable def dLow : Nat := (World.holding Tryz.prog default ⟨#[], #[], []⟩).heap.size
noncomputable def dLaidWorld (os : Os) : World :=
  let w0 := World.holding Tryz.prog os ⟨#[.cells #[.string { data := #[105, 110, 118, 97, 108, 105, 100, 32, 115, 121, 110, 116, 97, 120] }] 318, .cells #[.string { data := #[118, 97, 108, 117, 101, 32, 111, 117, 116, 32, 111, 102, 32, 114, 97, 110, 103, 101] }] 318], #[], []⟩
  { w0 with heap := setVar (setVar (setVar (setVar (setVar (setVar (setVar (setVar w0.heap
      7 (flatD 4 Rows.laid_math_bits_deBruijn32tab)) 8 (flatD 4 Rows.laid_math_bits_deBruijn64tab)) 1 (flatD 4 Rows.laid_internal_strconv_uint64pow10)) 6 (flatD 4 Rows.laid_unicode_utf8_acceptRanges)) 0 (flatD 4 Rows.laid_cairnfield_play_forms)) 5 (flatD 4 Rows.laid_unicode_utf8_first))
      3 [.iface 316 (.pointer (some ⟨dLow, 0, none⟩))]) 4 [.iface 316 (.pointer (some ⟨dLow + 1, 0, none⟩))] }
theorem bulk_strs {H : Type} {l : List (DataW H)} (hk : Rows.uptoSmall H l = true) {n : Nat} {xs : List ByteArray} (hn : (xs.map Value.string).length = n * 1) {d : DataW H} (hd : d ∈ l) (h : n = 0 ∨ ∃ E, d = .slice (strs xs) E) : n ≤ 1000000000 ∧ ∀ s ∈ xs, s.size < 4294967281 := by
  rcases h with rfl | ⟨E, rfl⟩
  · refine ⟨Nat.zero_le _, fun s hs => ?_⟩
    have : xs = [] := List.eq_nil_of_length_eq_zero (by simpa using hn)
    rw [this] at hs
    cases hs
  · have h1 := bulk_slice hk hd
    have h2 : (strs (H := H) xs).length = n := by simp [strs]; simpa using hn
    refine ⟨by omega, fun s hs => ?_⟩
    have h3 : Rows.uptoBulkAll l ≤ 1048576 := of_decide_eq_true hk
    have h4 := bulk_part hd
    have h5 : DataW.lit (.string s.data.toList) ∈ strs (H := H) xs := List.mem_map.2 ⟨s, hs, rfl⟩
    have h6 := bulk_part h5
    simp only [Rows.uptoBulk] at h4 h6
    have e1 : s.size = s.data.size := rfl
    have e2 : s.data.toList.length = s.data.size := Array.length_toList
    omega
end Go.Proofs.YtfikonmhbhcejaaGreatDoor

namespace Go.Proofs.YtfikonmhbhcejaaGreatDoor
open Go.RowKit
def wL : List ByteArray := [⟨#[110, 101, 119, 32, 56, 32, 49, 32, 48]⟩, ⟨#[109, 97, 107, 101, 32, 48, 32, 48, 32, 50, 32, 53]⟩, ⟨#[112, 117, 116, 32, 48, 32, 49, 32, 55]⟩, ⟨#[103, 101, 116, 32, 48, 32, 49]⟩]
def wR : List ByteArray := [⟨#[111, 107]⟩, ⟨#[111, 107, 32, 48]⟩, ⟨#[111, 107]⟩, ⟨#[111, 107, 32, 55]⟩]
def wS1 : St := newSt 8 1 0
def wS2 : St := putIn wS1 0 0 2 5
def wS3 : St := ⟨wS2.a.set (atX wS2 0 + 1 + (spS wS2 0).r + 1).toNat 7, wS2.r, wS2.p, wS2.l⟩
theorem num_0 : numB ⟨#[48]⟩ = some 0 := num_small (i := 0) (by decide)
theorem num_1 : numB ⟨#[49]⟩ = some 1 := num_small (i := 1) (by decide)
theorem num_2 : numB ⟨#[50]⟩ = some 2 := num_small (i := 2) (by decide)
theorem num_5 : numB ⟨#[53]⟩ = some 5 := num_small (i := 5) (by decide)
theorem num_7 : numB ⟨#[55]⟩ = some 7 := num_small (i := 7) (by decide)
theorem num_8 : numB ⟨#[56]⟩ = some 8 := num_small (i := 8) (by decide)
theorem line_of {os : Option St} {s w0 : ByteArray} {ws : List ByteArray} {c : Cmd} {n : List Int} (hw : wordsB s = w0 :: ws) (hf : findC w0 = some c) (hl : ws.length = c.many) (hn : ws.mapM numB = some n) : lineO os s = cmdO os c n := by
  unfold lineO
  rw [hw]
  show (match findC w0 with | none => _ | some c => _) = _
  rw [hf]
  show (if _ then _ else match ws.mapM numB with | none => _ | some n => _) = _
  rw [if_neg (by rw [List.length_cons, hl]; simp), hn]
theorem w_line1 : lineO none ⟨#[110, 101, 119, 32, 56, 32, 49, 32, 48]⟩ = ⟨some wS1, [], 0⟩ :=
  line_of (w0 := ⟨#[110, 101, 119]⟩) (ws := [⟨#[56]⟩, ⟨#[49]⟩, ⟨#[48]⟩]) (c := .new) (n := [8, 1, 0]) (by decide +kernel) (by kernel_rfl) rfl (by simp [num_8, num_1, num_0])
theorem w_make : makeE wS1 0 0 2 5 false = 0 ∧ fitsE (ggL wS1.a) 3 = 0 := by decide +kernel
theorem w_line2 : lineO (some wS1) ⟨#[109, 97, 107, 101, 32, 48, 32, 48, 32, 50, 32, 53]⟩ = ⟨some wS2, [0], 0⟩ := by
  rw [line_of (w0 := ⟨#[109, 97, 107, 101]⟩) (ws := [⟨#[48]⟩, ⟨#[48]⟩, ⟨#[50]⟩, ⟨#[53]⟩]) (c := .deed 1 4 3 true) (n := [0, 0, 2, 5]) (by decide +kernel) (by kernel_rfl) rfl (by simp [num_0, num_2, num_5])]
  have hd : doO wS1 (deedV (1 : Nat) 3 [0, 0, 2, 5]) = ⟨wS2, 0, 0⟩ := by
    rw [show deedV (1 : Nat) 3 [0, 0, 2, 5] = ⟨1, 0, 0, 2, 5⟩ by kernel_rfl]
    unfold doO
    rw [if_neg (by decide), if_pos rfl]
    unfold makeO
    dsimp only
    rw [show (5 : Int) % 65536 = 5 by decide, if_neg (by rw [w_make.1]; decide), show (1 : Int) + 0 + 2 = 3 by decide, if_pos w_make.2]
    rfl
  show (if negV 3 [0, 0, 2, 5] = true then (⟨some wS1, [], 4⟩ : DOut) else if (doO wS1 (deedV (1 : Nat) 3 [0, 0, 2, 5])).er ≠ 0 then ⟨some wS1, [], (doO wS1 (deedV (1 : Nat) 3 [0, 0, 2, 5])).er⟩ else ⟨some (doO wS1 (deedV (1 : Nat) 3 [0, 0, 2, 5])).st, if true = true then [IntKind.i64.wrap (doO wS1 (deedV (1 : Nat) 3 [0, 0, 2, 5])).told] else [], 0⟩) = _
  rw [if_neg (by decide +kernel), hd]
  rfl
theorem w_put : bodyE wS2 0 1 = 0 := by decide +kernel
theorem w_line3 : lineO (some wS2) ⟨#[112, 117, 116, 32, 48, 32, 49, 32, 55]⟩ = ⟨some wS3, [], 0⟩ := by
  rw [line_of (w0 := ⟨#[112, 117, 116]⟩) (ws := [⟨#[48]⟩, ⟨#[49]⟩, ⟨#[55]⟩]) (c := .deed 6 3 2 false) (n := [0, 1, 7]) (by decide +kernel) (by kernel_rfl) rfl (by simp [num_0, num_1, num_7])]
  have hd : doO wS2 (deedV (6 : Nat) 2 [0, 1, 7]) = ⟨wS3, 0, 0⟩ := by
    rw [show deedV (6 : Nat) 2 [0, 1, 7] = ⟨6, 0, 1, 0, 7⟩ by kernel_rfl]
    unfold doO
    rw [if_neg (by decide), if_neg (by decide), if_neg (by decide), if_neg (by decide), if_neg (by decide), if_neg (by decide), if_pos rfl]
    unfold putO
    dsimp only
    rw [if_neg (by rw [w_put]; decide)]
    rfl
  show (if negV 2 [0, 1, 7] = true then (⟨some wS2, [], 4⟩ : DOut) else if (doO wS2 (deedV (6 : Nat) 2 [0, 1, 7])).er ≠ 0 then ⟨some wS2, [], (doO wS2 (deedV (6 : Nat) 2 [0, 1, 7])).er⟩ else ⟨some (doO wS2 (deedV (6 : Nat) 2 [0, 1, 7])).st, if false = true then [IntKind.i64.wrap (doO wS2 (deedV (6 : Nat) 2 [0, 1, 7])).told] else [], 0⟩) = _
  rw [if_neg (by decide +kernel), hd]
  rfl
theorem w_get : bodyE wS3 0 1 = 0 ∧ wS3.a.getD (atX wS3 0 + 1 + (spS wS3 0).r + 1).toNat 0 = 7 := by decide +kernel
theorem w_line4 : lineO (some wS3) ⟨#[103, 101, 116, 32, 48, 32, 49]⟩ = ⟨some wS3, [7], 0⟩ := by
  rw [line_of (w0 := ⟨#[103, 101, 116]⟩) (ws := [⟨#[48]⟩, ⟨#[49]⟩]) (c := .deed 5 2 (-1) true) (n := [0, 1]) (by decide +kernel) (by kernel_rfl) rfl (by simp [num_0, num_1])]
  have hd : doO wS3 (deedV (5 : Nat) (-1) [0, 1]) = ⟨wS3, 7, 0⟩ := by
    rw [show deedV (5 : Nat) (-1) [0, 1] = ⟨5, 0, 1, 0, 0⟩ by kernel_rfl]
    unfold doO
    rw [if_neg (by decide), if_neg (by decide), if_neg (by decide), if_neg (by decide), if_neg (by decide), if_pos rfl]
    unfold getO
    dsimp only
    rw [if_neg (by rw [w_get.1]; decide), w_get.2]
  show (if negV (-1) [0, 1] = true then (⟨some wS3, [], 4⟩ : DOut) else if (doO wS3 (deedV (5 : Nat) (-1) [0, 1])).er ≠ 0 then ⟨some wS3, [], (doO wS3 (deedV (5 : Nat) (-1) [0, 1])).er⟩ else ⟨some (doO wS3 (deedV (5 : Nat) (-1) [0, 1])).st, if true = true then [IntKind.i64.wrap (doO wS3 (deedV (5 : Nat) (-1) [0, 1])).told] else [], 0⟩) = _
  rw [if_neg (by decide +kernel), hd]
  rfl
theorem itoa_small {i : Nat} (h : i < 10) : itoaB (i : Int) = ⟨#[UInt8.ofNat (48 + i)]⟩ := by
  unfold itoaB
  rw [Lib.itoa_nonneg, Lib.decDigits_one h]
theorem works_lines : deskR none wL = wR := by
  show [replyB _, replyB _, replyB _, replyB _] = _
  rw [w_line1]
  dsimp only
  rw [w_line2]
  dsimp only
  rw [w_line3]
  dsimp only
  rw [w_line4]
  have h0 : itoaB 0 = ⟨#[48]⟩ := itoa_small (i := 0) (by decide)
  have h7 : itoaB 7 = ⟨#[55]⟩ := itoa_small (i := 7) (by decide)
  have e1 : replyB ⟨some wS1, [], 0⟩ = ⟨#[111, 107]⟩ := rfl
  have e2 : replyB ⟨some wS2, [0], 0⟩ = ⟨#[111, 107, 32, 48]⟩ := by
    show ⟨#[111, 107]⟩ ++ (⟨#[32]⟩ ++ itoaB 0) = _
    rw [h0]
    rfl
  have e3 : replyB ⟨some wS3, [], 0⟩ = ⟨#[111, 107]⟩ := rfl
  have e4 : replyB ⟨some wS3, [7], 0⟩ = ⟨#[111, 107, 32, 55]⟩ := by
    show ⟨#[111, 107]⟩ ++ (⟨#[32]⟩ ++ itoaB 7) = _
    rw [h7]
    rfl
  rw [e1, e2, e3, e4]
  rfl
set_option maxHeartbeats 1000000 in
theorem works_true (w : World) (hT : DTab w.heap.size w) : Calls Tryz.prog 17 #[] w fun e w' => e = .returned (.bool true) ∧ Below w.heap.size w w' := by
  have hb1 := below_new w (.cells (wL.map Value.string).toArray 9)
  have hr1 := reads_new w (wL.map Value.string) 9 4 1 rfl
  have HP := Lib.hid (dplay_ok (some ⟨w.heap.size, 0, none⟩) 4 4 wL (w.alloc (.cells (wL.map Value.string).toArray 9)) (by rw [World.size_alloc]; exact hr1) (by decide +kernel) (hT.up hb1) (by decide))
  rw [works_lines] at HP
  have HB := Lib.hid hb1
  clear hb1 hr1 hT
  go_enter Tryz.func17, Tryz.ntmps17
  go_wp2_with fail
  refine HP.out.mono ?_
  rintro e w2 ⟨A1, c1, rfl, ho, hb2⟩
  have hb02 := below_step HB.out hb2
  have hb3 := hb02.alloc hb02.size (.cells (wR.map Value.string).toArray 9)
  have hr1 := (Reads.of_own ho).alloc (Nat.le_refl _) (.cells (wR.map Value.string).toArray 9)
  have hr2 := reads_new w2 (wR.map Value.string) 9 4 1 rfl
  have hE := equal_str A1 (some ⟨w2.heap.size, 0, none⟩) 4 c1 4 4 _ _ _ _ (w2.alloc (.cells (wR.map Value.string).toArray 9)) hr1 hr2 (by decide) (by decide)
  rw [decide_eq_true rfl] at hE
  have HE := Lib.hid hE
  have HB3 := Lib.hid hb3
  clear hE hr1 hr2 ho hb2 hb02 hb3
  go_wp2_with fail
  refine HE.out.mono ?_
  rintro e w4 ⟨rfl, q, rfl⟩
  go_wp2_with fail
  go_ret
  exact ⟨by first | rfl | simp, below_drewN HB3.out _⟩
end Go.Proofs.YtfikonmhbhcejaaGreatDoor

namespace Go.Proofs.YtfikonmhbhcejaaGreatDoor
open Go.RowKit
structure Stays (S S' : St) : Prop where
  len : S'.a.length = S.a.length
  obj : ∀ p ∈ S.p, ∀ s i, ObjAt S p.loc s i → ∃ s' i', ObjAt S' p.loc s' i' ∧ s'.r = s.r ∧ s'.b = s.b ∧ s'.t = s.t
theorem ObjAt.arena {S S' : St} {x : Int} {s : Spot} {i : Nat} (h : ObjAt S x s i) (ha : S'.a = S.a) : ObjAt S' x s i :=
  ⟨by rw [ha]; exact h.ix, by rw [ha]; exact h.at_, by rw [ha]; exact h.spot, by rw [ha]; exact h.ok, h.loc, h.free⟩
theorem Stays.arena {S S' : St} (h : S'.a = S.a) : Stays S S' := ⟨by rw [h], fun p _ s i hO => ⟨s, i, hO.arena h, rfl, rfl, rfl⟩⟩
theorem Stays.spots {S S' : St} (hS : StOk S') (hl : S'.a.length = S.a.length) (h : spotsL S'.a = spotsL S.a) : Stays S S' := ⟨hl, fun _ _ s i hO => ⟨s, i, hO.same h hS, rfl, rfl, rfl⟩⟩
theorem Stays.trans {S T U : St} (h : Stays S T) (h' : Stays T U) (hp : T.p = S.p) : Stays S U := ⟨h'.len.trans h.len, fun p hm s i hO => by
  obtain ⟨s1, i1, hO1, e1, e2, e3⟩ := h.obj p hm s i hO
  obtain ⟨s2, i2, hO2, d1, d2, d3⟩ := h'.obj p (by rw [hp]; exact hm) s1 i1 hO1
  exact ⟨s2, i2, hO2, d1.trans e1, d2.trans e2, d3.trans e3⟩⟩
theorem Coll.stays {S S' : St} {fr : Int} {L Y now : List Int} (h : Coll S S' fr L Y now) (hS : StOk S) : Stays S S' := by
  have hC := cleaned_of h.is
  refine ⟨hC.laid.len, fun p hp s i hO => ?_⟩
  obtain ⟨s', i', hO', e1, e2, e3, -⟩ := h.obj hS (pin_at hp) hO
  rw [hC.pin p.loc (List.mem_map.2 ⟨p, hp, rfl⟩)] at hO'
  exact ⟨s', i', hO', e1, e2, e3⟩
theorem Made.stays {T T' : St} {k : Nat} {g : Rn} {r b t : Int} (h : Made T T' k g r b t) (hp : T'.p = T.p) : Stays T T' := by
  refine ⟨h.len, fun p hm s i hO => ?_⟩
  obtain ⟨s', i', hO'⟩ := obj_at h.ok (pin_at (S := T') (y := p) (by rw [hp]; exact hm))
  obtain ⟨h1, h2, h3⟩ := spotAt_some hO.spot
  obtain ⟨k1, -, -⟩ := h.keeps s h1 h2
  have h4 := spotAt_mem (checkE_ok.1 h.ok.arena).1 k1 h2
  rw [h3, hO'.spot] at h4
  obtain rfl := Option.some.inj h4
  exact ⟨s', i', hO', rfl, rfl, rfl⟩
section
variable {S : St} (hS : StGood S)
include hS
theorem sweep_stays : Stays S (sweep S).1 ∧ (sweep S).1.p = S.p := by
  by_cases hx : ∃ p : St × Int, ∃ L Y now : List Int, Coll S p.1 p.2 L Y now
  · obtain ⟨⟨S', fr⟩, L, Y, now, hC⟩ := hx
    rw [hC.sweep]
    exact ⟨hC.stays hS.ok, hC.p⟩
  · have e : sweep S = (S, 0) := dif_neg hx
    rw [e]
    exact ⟨Stays.arena rfl, rfl⟩
omit hS in
theorem Out.keep_if {R : St → Prop} {p : Prop} [Decidable p] {a b : Out} (ha : p → a.er ≠ 0) (hb : ¬ p → b.er = 0 → R b.st) : (if p then a else b).er = 0 → R (if p then a else b).st := by
  intro h
  by_cases hp : p
  · rw [if_pos hp] at h
    exact absurd h (ha hp)
  · rw [if_neg hp] at h ⊢
    exact hb hp h
omit hS in
theorem put_stays {T : St} (hT : StGood T) {r b t : Int} {k : Nat} (hE : headE r b t false = 0) (hk : k < T.r.length) (hf : fitsE (ggL T.a) (1 + r + b) = 0) : Stays T (putIn T k r b t) := by
  obtain ⟨j, g, hG⟩ := first_gap hf
  unfold putIn
  rw [hG.is]
  exact (made_of hT.ok hE hG hk).stays rfl
theorem makeO_stays (slot r b t : Int) : (makeO S slot r b t).er = 0 → Stays S (makeO S slot r b t).st ∧ (makeO S slot r b t).st.p = S.p := by
  unfold makeO
  refine Out.keep_if (R := fun T => Stays S T ∧ T.p = S.p) (fun h => h) (fun h0 => ?_)
  obtain ⟨hOK, -, hE, k, rfl, hk⟩ := makeE_zero (by simpa using h0)
  rw [Int.toNat_natCast]
  by_cases h1 : fitsE (ggL S.a) (1 + r + b) = 0
  · rw [if_pos h1]
    exact fun _ => ⟨put_stays hS hE hk h1, rfl⟩
  · rw [if_neg h1]
    by_cases h2 : fitsE (ggL (sweep S).1.a) (1 + r + b) = 0
    · rw [if_pos h2]
      obtain ⟨w1, w2⟩ := sweep_stays hS
      have hl : k < (sweep S).1.r.length := by
        by_cases hx : ∃ p : St × Int, ∃ L Y now : List Int, Coll S p.1 p.2 L Y now
        · obtain ⟨⟨S', fr⟩, L, Y, now, hC⟩ := hx
          rw [hC.sweep]
          show k < S'.r.length
          rw [hC.r, List.length_map]
          exact hk
        · have e : sweep S = (S, 0) := dif_neg hx
          rw [e]
          exact hk
      exact fun _ => ⟨w1.trans (put_stays (sweep_good hS) hE hl h2) w2, w2⟩
    · rw [if_neg h2]
      exact fun h => absurd h (show ¬ (7 : Int) = 0 by decide)
omit hS in
theorem refO_st (x y z : Int) : (refO S x y z).st.a = S.a ∧ (refO S x y z).st.p = S.p := by unfold refO; split <;> exact ⟨rfl, rfl⟩
omit hS in
theorem setO_stays (x y z : Int) : (setO S x y z).er = 0 → Stays S (setO S x y z).st ∧ (setO S x y z).st.p = S.p := by
  intro h
  have hE : refE S x y z = 0 := by
    refine Classical.byContradiction fun h0 => ?_
    unfold setO at h
    rw [if_pos h0] at h
    exact h0 h
  obtain ⟨hOK, k, X, K, O, s, i, rfl, rfl, rfl, hx, hO, hK, hz⟩ := refE_zero hE
  have hy : S.r[O]? = some S.r[O] := List.getElem?_eq_getElem hz
  obtain ⟨q1, q2, q3⟩ := root_val hOK (List.mem_of_getElem? hy)
  rw [setO_is hE hx hy]
  have hL := set_law hOK hO hK q1
  exact ⟨Stays.spots hL.1 hL.2.len hL.2.spots, rfl⟩
omit hS in
theorem putO_stays (x y v : Int) : (putO S x y v).er = 0 → Stays S (putO S x y v).st ∧ (putO S x y v).st.p = S.p := by
  intro h
  have hE : bodyE S x y = 0 := by
    refine Classical.byContradiction fun h0 => ?_
    unfold putO at h
    rw [if_pos h0] at h
    exact h0 h
  obtain ⟨hOK, k, X, K, s, i, rfl, rfl, hx, hO, hK⟩ := bodyE_zero hE
  rw [putO_is hE hx hO]
  have hL := put_law hOK hO hK v
  exact ⟨Stays.spots hL.1 hL.2.len hL.2.spots, rfl⟩
omit hS in
theorem pinO_a (x : Int) : (pinO S x).st.a = S.a := by
  unfold pinO
  split
  · rfl
  · split <;> rfl
omit hS in
theorem unpinO_a (x : Int) : (unpinO S x).st.a = S.a := by
  unfold unpinO
  split
  · rfl
  · split <;> rfl
omit hS in
theorem getO_ap (x y : Int) : (getO S x y).st = S := by unfold getO; split <;> rfl
omit hS in
theorem peekO_ap (x k : Int) : (peekO S x k).st = S := by
  unfold peekO
  split
  · rfl
  · split
    · rfl
    · split <;> rfl
omit hS in
theorem openO_ap (x : Int) : (openO S x).st.a = S.a ∧ (openO S x).st.p = S.p := by
  unfold openO
  split
  · exact ⟨rfl, rfl⟩
  · split <;> exact ⟨rfl, rfl⟩
omit hS in
theorem useO_ap (v x : Int) : (useO S v x).st.a = S.a ∧ (useO S v x).st.p = S.p := by
  unfold useO
  split
  · exact ⟨rfl, rfl⟩
  · split <;> exact ⟨rfl, rfl⟩
omit hS in
theorem shutO_ap (v : Int) : (shutO S v).st.a = S.a ∧ (shutO S v).st.p = S.p := by
  unfold shutO
  split
  · exact ⟨rfl, rfl⟩
  · split <;> exact ⟨rfl, rfl⟩
omit hS in
theorem dropO_ap (x : Int) : (dropO S x).st.a = S.a ∧ (dropO S x).st.p = S.p := by
  unfold dropO
  split <;> exact ⟨rfl, rfl⟩
theorem doO_stays (o : OpV) : (doO S o).er = 0 → Stays S (doO S o).st ∧ (o.kind ≠ 7 → o.kind ≠ 8 → (doO S o).st.p = S.p) := by
  have two : ∀ T : St, T.a = S.a ∧ T.p = S.p → Stays S T ∧ (o.kind ≠ 7 → o.kind ≠ 8 → T.p = S.p) := fun T h => ⟨Stays.arena h.1, fun _ _ => h.2⟩
  unfold doO
  by_cases h0 : rightB o = false
  · rw [if_pos h0]
    exact fun h => absurd h (show ¬ (1 : Int) = 0 by decide)
  rw [if_neg h0]
  by_cases k1 : o.kind = 1
  · rw [if_pos k1]
    exact fun h => ⟨(makeO_stays hS _ _ _ _ h).1, fun _ _ => (makeO_stays hS _ _ _ _ h).2⟩
  rw [if_neg k1]
  by_cases k2 : o.kind = 2
  · rw [if_pos k2]
    unfold collO
    refine Out.keep_if (R := fun T => Stays S T ∧ (o.kind ≠ 7 → o.kind ≠ 8 → T.p = S.p)) (fun h => h) (fun _ _ => ?_)
    obtain ⟨w1, w2⟩ := sweep_stays hS
    exact ⟨w1, fun _ _ => w2⟩
  rw [if_neg k2]
  by_cases k3 : o.kind = 3
  · rw [if_pos k3]
    exact fun _ => two _ (refO_st _ _ _)
  rw [if_neg k3]
  by_cases k4 : o.kind = 4
  · rw [if_pos k4]
    exact fun h => ⟨(setO_stays _ _ _ h).1, fun _ _ => (setO_stays _ _ _ h).2⟩
  rw [if_neg k4]
  by_cases k5 : o.kind = 5
  · rw [if_pos k5, getO_ap]
    exact fun _ => two _ ⟨rfl, rfl⟩
  rw [if_neg k5]
  by_cases k6 : o.kind = 6
  · rw [if_pos k6]
    exact fun h => ⟨(putO_stays _ _ _ h).1, fun _ _ => (putO_stays _ _ _ h).2⟩
  rw [if_neg k6]
  by_cases k7 : o.kind = 7
  · rw [if_pos k7]
    exact fun _ => ⟨Stays.arena (pinO_a _), fun h => absurd k7 h⟩
  rw [if_neg k7]
  by_cases k8 : o.kind = 8
  · rw [if_pos k8]
    exact fun _ => ⟨Stays.arena (unpinO_a _), fun _ h => absurd k8 h⟩
  rw [if_neg k8]
  by_cases k9 : o.kind = 9
  · rw [if_pos k9, peekO_ap]
    exact fun _ => two _ ⟨rfl, rfl⟩
  rw [if_neg k9]
  by_cases k10 : o.kind = 10
  · rw [if_pos k10]
    exact fun _ => two _ (openO_ap _)
  rw [if_neg k10]
  by_cases k11 : o.kind = 11
  · rw [if_pos k11]
    exact fun _ => two _ (useO_ap _ _)
  rw [if_neg k11]
  by_cases k12 : o.kind = 12
  · rw [if_pos k12]
    exact fun _ => two _ (shutO_ap _)
  rw [if_neg k12]
  exact fun _ => two _ (dropO_ap _)
omit hS in
theorem doO_pins (o : OpV) (hk : o.kind = 7) : (doO S o).er = 0 → findE (doO S o).st.p (doO S o).told = 0 ∧ 1 ≤ countP (doO S o).st.p (doO S o).told ∧ 0 ≤ (doO S o).told ∧ (doO S o).told < 256 := by
  unfold doO
  by_cases h0 : rightB o = false
  · rw [if_pos h0]
    exact fun h => absurd h (show ¬ (1 : Int) = 0 by decide)
  rw [if_neg h0, hk, if_neg (by decide), if_neg (by decide), if_neg (by decide), if_neg (by decide), if_neg (by decide), if_neg (by decide), if_pos rfl]
  intro h
  have hE : objE S o.a = 0 := by
    refine Classical.byContradiction fun h0 => ?_
    unfold pinO at h
    rw [if_pos h0] at h
    exact h0 h
  obtain ⟨hOK, k, X, s, i, hka, hx, hO, -⟩ := root_obj hE
  rw [hka] at h hE ⊢
  by_cases hP : ∃ j, PinOk S X j
  · obtain ⟨j, hP⟩ := hP
    have hXb : (X : Int) ∈ S.begs := root_at (List.mem_of_getElem? hx) (by omega)
    have hp' := (pin_law hOK hXb hP).pins
    have hlt := begs_lt hOK.arena (hOK.live X hXb)
    have hl := hOK.lens.1
    rw [pinO_ok hE hx hP]
    have hcn := countP_more hOK.pins hp' hP.1 X
    rw [if_pos rfl] at hcn
    refine ⟨findE_zero.2 ⟨hp', there_of hOK hXb⟩, ?_, (show (0 : Int) ≤ X by omega), (show (X : Int) < 256 by omega)⟩
    show 1 ≤ countP (moreP S.p X j (countP S.p X + 1)) X
    rw [hcn]
    have := countP_nn hOK.pins X
    omega
  · exfalso
    rw [pinO_no hE hx (fun j hj => hP ⟨j, hj⟩)] at h
    have h2 : addE S.p X = 0 := h
    unfold addE at h2
    split at h2
    · rename_i h3
      exact h3 h2
    · cases h2
end
end Go.Proofs.YtfikonmhbhcejaaGreatDoor

namespace Go.Proofs.YtfikonmhbhcejaaGreatDoor
open Go.RowKit
def opC (o : OpV) : List Value := [.int .i64 o.kind, .int .i64 o.a, .int .i64 o.b, .int .i64 o.c, .int .u64 o.v]
def opsC (l : List OpV) : List Value := l.flatMap opC
def toldC (t : ToldV) : List Value := [.int .i64 t.e, .int .u64 t.v]
def toldsC (l : List ToldV) : List Value := l.flatMap toldC
theorem Reads.op {w : World} {B : Nat} {A : Option Addr} {n j : Nat} {l : List OpV} (h : Reads w B 5 A n (opsC l)) (hj : j < n) :
    ∃ ad o, A = some ad ∧ ad.block < B ∧ l[j]? = some o ∧ w.cell? (ad.add (j * 5)) = some (.int .i64 o.kind) ∧
      w.cell? ⟨(ad.add (j * 5)).block, (ad.add (j * 5)).off + 1, none⟩ = some (.int .i64 o.a) ∧ w.cell? ⟨(ad.add (j * 5)).block, (ad.add (j * 5)).off + 2, none⟩ = some (.int .i64 o.b) ∧
      w.cell? ⟨(ad.add (j * 5)).block, (ad.add (j * 5)).off + 3, none⟩ = some (.int .i64 o.c) ∧ w.cell? ⟨(ad.add (j * 5)).block, (ad.add (j * 5)).off + 4, none⟩ = some (.int .u64 o.v) := by
  obtain ⟨ad, o, e, hb, ho, h0, hi⟩ := Reads.elem (f := opC) (k := 5) (fun _ => rfl) h (by decide) hj
  exact ⟨ad, o, e, hb, ho, h0, hi 1 (by decide) (by decide), hi 2 (by decide) (by decide), hi 3 (by decide) (by decide), hi 4 (by decide) (by decide)⟩
theorem Reads.told {w : World} {B : Nat} {A : Option Addr} {n j : Nat} {l : List ToldV} (h : Reads w B 2 A n (toldsC l)) (hj : j < n) :
    ∃ ad t, A = some ad ∧ ad.block < B ∧ l[j]? = some t ∧ w.cell? (ad.add (j * 2)) = some (.int .i64 t.e) ∧ w.cell? ⟨(ad.add (j * 2)).block, (ad.add (j * 2)).off + 1, none⟩ = some (.int .u64 t.v) := by
  obtain ⟨ad, o, e, hb, ho, h0, hi⟩ := Reads.elem (f := toldC) (k := 2) (fun _ => rfl) h (by decide) hj
  exact ⟨ad, o, e, hb, ho, h0, hi 1 (by decide) (by decide)⟩
theorem StO.grown {w w' : World} {base : Nat} {A : Option Addr} {n c : Nat} {RA : Option Addr} {rn rc : Nat} {PA : Option Addr} {pn pc : Nat} {HA : Option Addr} {hn hc : Nat} {S : St} (h : StO w base A n c RA rn rc PA pn pc HA hn hc S)
    {base' size m : Nat} {e : TypeId} {v : Value} {xs : List Value} (ho : w.ownsRow base' e size v m xs) (hg : w.grownBy w' v.ownBlock) (h1 : e ≠ 44) (h2 : e ≠ 3) (h3 : e ≠ 50) (h4 : e ≠ 135) : StO w' base A n c RA rn rc PA pn pc HA hn hc S :=
  ⟨own_grown h.a hg (fun _ hg' => own_types h.a ho h1.symm hg'), own_grown h.r hg (fun _ hg' => own_types h.r ho h2.symm hg'), own_grown h.p hg (fun _ hg' => own_types h.p ho h3.symm hg'), own_grown h.l hg (fun _ hg' => own_types h.l ho h4.symm hg')⟩
theorem StO.alloc {w : World} {base : Nat} {A : Option Addr} {n c : Nat} {RA : Option Addr} {rn rc : Nat} {PA : Option Addr} {pn pc : Nat} {HA : Option Addr} {hn hc : Nat} {S : St} (h : StO w base A n c RA rn rc PA pn pc HA hn hc S) (o : Obj) : StO (w.alloc o) base A n c RA rn rc PA pn pc HA hn hc S :=
  ⟨h.a.alloc o, h.r.alloc o, h.p.alloc o, h.l.alloc o⟩
def playE (S : St) (k : Nat) : Int := if stE S ≠ 0 then stE S else if 200 < k then 2 else 0
theorem StGood.known {S : St} (h : StGood S) {w : World} {base : Nat} {A : Option Addr} {n c : Nat} {RA : Option Addr} {rn rc : Nat} {PA : Option Addr} {pn pc : Nat} {HA : Option Addr} {hn hc : Nat} (hO : StO w base A n c RA rn rc PA pn pc HA hn hc S) : StK n c rn pn hn S := hO.known h.wf
structure PlayAt (w wr : World) (S : St) (T : Option Addr) (j tc : Nat) (l : List OpV) (B1 : Option Addr) (n1 d1 : Nat) (B2 : Option Addr) (n2 d2 : Nat) (B3 : Option Addr) (n3 d3 : Nat) (B4 : Option Addr) (n4 d4 : Nat) : Prop where
  below : Below w.heap.size w wr
  cell : Blk wr w.heap.size 41 #[.slice B1 n1 d1, .slice B2 n2 d2, .slice B3 n3 d3, .slice B4 n4 d4]
  res : Blk wr (w.heap.size + 1) 41 #[.slice none 0 0, .slice none 0 0, .slice none 0 0, .slice none 0 0]
  own : StO wr w.heap.size B1 n1 d1 B2 n2 d2 B3 n3 d3 B4 n4 d4 (playS S (l.take j))
  good : StGood (playS S (l.take j))
  told : wr.ownsRow w.heap.size 71 2 (.slice T j tc) j (toldsC (playT S (l.take j)))
end Go.Proofs.YtfikonmhbhcejaaGreatDoor
