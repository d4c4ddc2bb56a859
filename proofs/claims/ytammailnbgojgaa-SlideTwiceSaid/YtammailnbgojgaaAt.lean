/-
  package walk: At, Objects.
-/
import Derived.Test.YtammailnbgojgaaObject
import Derived.Test.YtammailnbgojgaaIndexSpot
namespace Go.Proofs.Ytammailnbgojgaa
open Go.RowKit

set_option maxHeartbeats 400000 in
theorem atClosure_any (g : Nat) (x : Int) (s : Spot) (w : World) (hg : g < w.heap.size) (hc : w.cell? ⟨g, 0, none⟩ = some (.int .i64 x)) :
    Calls Try.prog 57 #[.agg #[.int .i64 s.loc, .int .i64 s.r, .int .i64 s.b, .int .i64 s.t, .bool s.f], .pointer (some ⟨g, 0, none⟩)] w fun e w' => e = .returned (.bool (s.loc == x)) ∧ Below w.heap.size w w' := by
  go_enter Try.func57, Try.ntmps57
  go_wp2
  go_ret
  exact ⟨rfl, below_new _ _⟩

/-- An object as it is told. -/
structure Ob where
  t : Int
  refs : List Int
  body : List Int
  f : Bool
deriving DecidableEq

def obOf (a : List Int) (l : List Spot) (s : Spot) : Ob := ⟨s.t, refIx l a s, bodyOf a s, s.f⟩
/-- The place of the spot that begins at a word. -/
def atIx (a : List Int) (x : Int) : Int := ixOf (fun s => s.loc == x) (spotsL a)

theorem refIx_length {a : List Int} {l : List Spot} {s : Spot} (h : SpotOk a s) : (refIx l a s).length = s.r.toNat := by unfold refIx; rw [List.length_map, refsOf_length h]

set_option maxHeartbeats 400000 in
theorem at_bad (A : Option Addr) (n c : Nat) (a : List Int) (x : Int) (w : World) (hr : Reads w w.heap.size 1 A n (a.map (.int .u64))) (hnc : n ≤ c) (ha : ∀ x ∈ a, (Lit.int .u64 x).wf = true) (hE : checkE a ≠ 0) :
    Calls Try.prog 41 #[.slice A n c, .int .i64 x] w fun e w' => e = .returned (.tuple #[.agg #[.int .i64 0, .slice none 0 0, .slice none 0 0, .bool false], .int .i64 (checkE a)]) ∧ Below w.heap.size w w' := by
  have H := Lib.hid (fun w hr => check_bad A n c a w hr hnc ha hE)
  generalize checkE a = E at *
  have hE1 : (E != 0) = true := by simpa using hE
  go_enter Try.func41, Try.ntmps41
  go_wp2_with fail
  have hb0 := (below_new w (.cells #[.int .i64 x] 3)).alloc (by simp) (.cells #[.int .i64 0, .slice none 0 0, .slice none 0 0, .bool false] 63)
  have B1 := Blk.new (w.alloc (.cells #[.int .i64 x] 3)) 63 #[.int .i64 0, .slice none 0 0, .slice none 0 0, .bool false]
  simp only [World.size_alloc] at B1
  refine (H.out _ ((hr.below hb0).more hb0.size)).mono ?_
  rintro e w1 ⟨rfl, hb1⟩
  have D1 := B1.below hb1 (by simp)
  have m0 := D1.cell 0
  have m1 := D1.cell 1
  have m2 := D1.cell 2
  have m3 := D1.cell 3
  have g0 := D1.frozen 0
  have g1 := D1.frozen 1
  have g2 := D1.frozen 2
  have g3 := D1.frozen 3
  simp only [List.getElem?_toArray, List.getElem?_cons_zero, List.getElem?_cons_succ] at m0 m1 m2 m3
  have HB := Lib.hid (below_step hb0 (hb1.mono (by simp)))
  clear hb1 hb0 B1 D1
  go_wp2
  refine bodyPost_ret (v := .tuple #[.agg #[.int .i64 0, .slice none 0 0, .slice none 0 0, .bool false], .int .i64 E]) ?_ rfl ⟨rfl, ?_⟩
  · simp only [results, Try.results41]
    go_simp
  · iterate 4 refine Below.setCell ?_ (by dsimp only; omega) _
    exact HB.out

set_option maxRecDepth 100000 in
set_option maxHeartbeats 1000000 in
theorem at_none (A : Option Addr) (n c : Nat) (a : List Int) (x : Int) (w : World) (hr : Reads w w.heap.size 1 A n (a.map (.int .u64))) (hnc : n ≤ c) (ha : ∀ x ∈ a, (Lit.int .u64 x).wf = true) (hE : checkE a = 0) (hix : atIx a x < 0) :
    Calls Try.prog 41 #[.slice A n c, .int .i64 x] w fun e w' => e = .returned (.tuple #[.agg #[.int .i64 0, .slice none 0 0, .slice none 0 0, .bool false], .int .i64 5]) ∧ Below w.heap.size w w' := by
  have H := Lib.hid (fun w hr => check_ok A n c a w hr hnc ha hE)
  have hm256 := spotsL_length a
  have hix : ixOf (fun s => s.loc == x) (spotsL a) < 0 := hix
  generalize spotsL a = l at *
  generalize hp : (fun s : Spot => s.loc == x) = p at *
  have HPx := Lib.hid hp
  have HIX := Lib.hid (fun A n c B W hr hB hn HC => indexSpot_any 57 (.pointer (some ⟨w.heap.size, 0, none⟩)) A n c B l p W hr hB hn (plain_of (fn := Try.f57) Try.func57 (by kernel_rfl) (by kernel_rfl)) HC)
  generalize ixOf p l = z at *
  clear hp hE
  go_enter Try.func41, Try.ntmps41
  go_wp2_with fail
  have hb0 := (below_new w (.cells #[.int .i64 x] 3)).alloc (by simp) (.cells #[.int .i64 0, .slice none 0 0, .slice none 0 0, .bool false] 63)
  have B0 := (Blk.new w 3 #[.int .i64 x]).alloc (.cells #[.int .i64 0, .slice none 0 0, .slice none 0 0, .bool false] 63)
  have B1 := Blk.new (w.alloc (.cells #[.int .i64 x] 3)) 63 #[.int .i64 0, .slice none 0 0, .slice none 0 0, .bool false]
  simp only [World.size_alloc] at B1
  refine (H.out _ ((hr.below hb0).more hb0.size)).mono ?_
  rintro e w1 ⟨hb1, A', c', b, rfl, hbb, hown, hM⟩
  have D0 := B0.below hb1 (by simp; omega)
  have D1 := B1.below hb1 (by simp)
  have hb01 := below_step hb0 (hb1.mono (by simp))
  have hsz : w.heap.size + 2 ≤ w1.heap.size := by have := hb1.size; simp at this; omega
  have hrl := Reads.of_own hown
  obtain ⟨m, hm⟩ : ∃ m, m = l.length := ⟨_, rfl⟩
  rw [← hm] at hrl hm256
  rw [← hm]
  have HM := Lib.hid hm
  clear hb0 hb1 B0 B1 hown hm
  go_wp2_with fail
  refine (HIX.out _ _ _ _ _ hrl (Nat.le_refl _) (by omega) ?_).mono ?_
  · intro w' s hb' _
    have := atClosure_any w.heap.size x s w' (by have := hb'.size; omega) ((D0.below hb' (by omega)).cell 0)
    rw [← HPx.out]
    exact this
  rintro e w2 ⟨rfl, hb2⟩
  have D2 := D1.below hb2 (by omega)
  have m0 := D2.cell 0
  have m1 := D2.cell 1
  have m2 := D2.cell 2
  have m3 := D2.cell 3
  have g0 := D2.frozen 0
  have g1 := D2.frozen 1
  have g2 := D2.frozen 2
  have g3 := D2.frozen 3
  simp only [List.getElem?_toArray, List.getElem?_cons_zero, List.getElem?_cons_succ] at m0 m1 m2 m3
  have HB := Lib.hid (below_step hb01 hb2)
  clear hb01 hb2 D0 D1 D2
  go_wp2
  refine bodyPost_ret (v := .tuple #[.agg #[.int .i64 0, .slice none 0 0, .slice none 0 0, .bool false], .int .i64 5]) ?_ rfl ⟨rfl, ?_⟩
  · simp only [results, Try.results41]
    go_simp
  · iterate 4 refine Below.setCell ?_ (by dsimp only; omega) _
    exact HB.out

set_option maxRecDepth 100000 in
set_option maxHeartbeats 1000000 in
theorem at_ok (A : Option Addr) (n c : Nat) (a : List Int) (x : Int) (i : Nat) (s : Spot) (w : World) (hr : Reads w w.heap.size 1 A n (a.map (.int .u64))) (hnc : n ≤ c) (ha : ∀ x ∈ a, (Lit.int .u64 x).wf = true) (hE : checkE a = 0)
    (hix : atIx a x = i) (hs : (spotsL a)[i]? = some s) :
    Calls Try.prog 41 #[.slice A n c, .int .i64 x] w fun e w' => Below w.heap.size w w' ∧ ∃ A1 c1 A2 c2, e = .returned (.tuple #[.agg #[.int .i64 s.t, .slice A1 s.r.toNat c1, .slice A2 s.b.toNat c2, .bool s.f], .int .i64 0]) ∧
      w'.ownsRow w.heap.size 3 1 (.slice A1 s.r.toNat c1) s.r.toNat ((refIx (spotsL a) a s).map (.int .i64)) ∧ w'.ownsRow w.heap.size 42 1 (.slice A2 s.b.toNat c2) s.b.toNat ((bodyOf a s).map (.int .u64)) := by
  have H := Lib.hid (fun w hr => check_ok A n c a w hr hnc ha hE)
  have hm256 := spotsL_length a
  have hix : ixOf (fun s => s.loc == x) (spotsL a) = i := hix
  obtain ⟨h0, _⟩ := checkE_ok.1 hE
  obtain ⟨hlen, hP⟩ := parse_ok h0
  have hok := (parse_mem hP s (List.mem_of_getElem? hs)).1
  have hal : a.length = n := by have := hr.1; simpa using this
  have hn : n ≤ 256 := by omega
  have hil := (List.getElem?_eq_some_iff.1 hs).1
  generalize spotsL a = l at *
  have HOb := Lib.hid (fun b w hr hM => object_any A n c b a l s w hr hnc hn hok ha hM)
  generalize refIx l a s = ix at *
  generalize bodyOf a s = bs at *
  generalize hp : (fun s : Spot => s.loc == x) = p at *
  have HPx := Lib.hid hp
  have HIX := Lib.hid (fun A n c B W hr hB hn HC => indexSpot_any 57 (.pointer (some ⟨w.heap.size, 0, none⟩)) A n c B l p W hr hB hn (plain_of (fn := Try.f57) Try.func57 (by kernel_rfl) (by kernel_rfl)) HC)
  rw [hix] at HIX
  have HS := Lib.hid hs
  clear hp hE h0 hP hok hal hs hix hlen
  go_enter Try.func41, Try.ntmps41
  go_wp2_with fail
  have hb0 := (below_new w (.cells #[.int .i64 x] 3)).alloc (by simp) (.cells #[.int .i64 0, .slice none 0 0, .slice none 0 0, .bool false] 63)
  have B0 := (Blk.new w 3 #[.int .i64 x]).alloc (.cells #[.int .i64 0, .slice none 0 0, .slice none 0 0, .bool false] 63)
  have B1 := Blk.new (w.alloc (.cells #[.int .i64 x] 3)) 63 #[.int .i64 0, .slice none 0 0, .slice none 0 0, .bool false]
  simp only [World.size_alloc] at B1
  refine (H.out _ ((hr.below hb0).more hb0.size)).mono ?_
  rintro e w1 ⟨hb1, A', c', b, rfl, hbb, hown, hM⟩
  have D0 := B0.below hb1 (by simp; omega)
  have D1 := B1.below hb1 (by simp)
  have hb01 := below_step hb0 (hb1.mono (by simp))
  have hsz : w.heap.size + 2 ≤ w1.heap.size := by have := hb1.size; simp at this; omega
  have hrl := Reads.of_own hown
  obtain ⟨m, hm⟩ : ∃ m, m = l.length := ⟨_, rfl⟩
  rw [← hm] at hrl hm256 hil
  rw [← hm]
  have HM := Lib.hid hm
  clear hb0 hb1 B0 B1 hown hm
  go_wp2_with fail
  refine (HIX.out _ _ _ _ _ hrl (Nat.le_refl _) (by omega) ?_).mono ?_
  · intro w' s hb' _
    have := atClosure_any w.heap.size x s w' (by have := hb'.size; omega) ((D0.below hb' (by omega)).cell 0)
    rw [← HPx.out]
    exact this
  rintro e w2 ⟨rfl, hb2⟩
  have D2 := D1.below hb2 (by omega)
  have hb02 := below_step hb01 hb2
  obtain ⟨ad, s', rfl, had, hs', c0, c1, c2, c3, c4⟩ := (hrl.below hb2).spot (j := i) (by omega)
  obtain rfl : s' = s := by rw [HS.out] at hs'; exact (Option.some.inj hs').symm
  have HO := Lib.hid (HOb.out b w2 ((hr.below hb02).more hb02.size) (hM.below hb2 hM.lt))
  have hil' : (i : Int) < m := by omega
  have hsz2 : w.heap.size + 2 ≤ w2.heap.size := by have := hb2.size; omega
  clear hs' hb01 hb2 D0 D1 hM
  obtain ⟨loc, r, bd, t, f⟩ := s'
  dsimp only at c0 c1 c2 c3 c4 HO ⊢
  go_wp2_with fail
  refine HO.out.mono ?_
  rintro e w3 ⟨hb3, A1, k1, A2, k2, rfl, hown1, hown2⟩
  have D3 := D2.below hb3 (by omega)
  have m0 := D3.cell 0
  have m1 := D3.cell 1
  have m2 := D3.cell 2
  have m3 := D3.cell 3
  have g0 := D3.frozen 0
  have g1 := D3.frozen 1
  have g2 := D3.frozen 2
  have g3 := D3.frozen 3
  simp only [List.getElem?_toArray, List.getElem?_cons_zero, List.getElem?_cons_succ] at m0 m1 m2 m3
  have HB := Lib.hid (below_step hb02 hb3)
  have HO1 := Lib.hid hown1
  have HO2 := Lib.hid hown2
  clear hb02 hb3 D2 D3 hown1 hown2
  go_wp2
  refine bodyPost_ret (v := .tuple #[.agg #[.int .i64 t, .slice A1 r.toNat k1, .slice A2 bd.toNat k2, .bool f], .int .i64 0]) ?_ rfl ⟨?_, A1, k1, A2, k2, rfl, ?_, ?_⟩
  · simp only [results, Try.results41]
    go_simp
  · iterate 4 refine Below.setCell ?_ (by dsimp only; omega) _
    exact HB.out
  · refine own_mono (base' := w2.heap.size) ?_ (by omega)
    iterate 4 refine own_far ?_ (by dsimp only; omega) _
    exact HO1.out
  · refine own_mono (base' := w2.heap.size) ?_ (by omega)
    iterate 4 refine own_far ?_ (by dsimp only; omega) _
    exact HO2.out
end Go.Proofs.Ytammailnbgojgaa
