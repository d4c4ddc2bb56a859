/-
  package tally: newCounter.
-/
import Derived.Test.YtjpleagcdncbfaaTallyDefs
import Derived.Test.YtjpleagcdncbfaaTintEach
namespace Go.Proofs.Ytjpleagcdncbfaa
open Go.RowKit

/-- The refs of finished objects, each in a row of its own between R0 and B, apart from ex. -/
def FinR (w : World) (R0 B : Nat) (ex : Option Nat) (a : List Int) (S : List Spot) (f : Int → Option Value) (xs : List Int) : Prop :=
  ∀ x ∈ xs, ∃ A m c, f x = some (.slice A m c) ∧ w.ownsRow R0 3 1 (.slice A m c) m ((linksAt a S x).map (.int .i64)) ∧ ∀ g, (Value.slice A m c).ownBlock = some g → g < B ∧ some g ≠ ex
section
variable {w w' : World} {R0 B B' : Nat} {ex ex' : Option Nat} {a : List Int} {S : List Spot} {f f' : Int → Option Value} {xs : List Int}
theorem FinR.grown {row : Option Nat} (h : FinR w R0 B ex a S f xs) (hg : w.grownBy w' row) (hr : ∀ r, row = some r → r < R0 ∨ B ≤ r ∨ row = ex) : FinR w' R0 B ex a S f xs := fun x hx => by
  obtain ⟨A, m, c, h1, h2, h3⟩ := h x hx
  refine ⟨A, m, c, h1, own_grown h2 hg (fun g hg' e => ?_), h3⟩
  have h4 := (h2.lt g hg').1
  have h5 := h3 g hg'
  rcases hr g e with h | h | h
  · omega
  · omega
  · exact h5.2 (by rw [← h, e])
theorem FinR.alloc (h : FinR w R0 B ex a S f xs) (o : Obj) : FinR (w.alloc o) R0 B ex a S f xs := fun x hx => by
  obtain ⟨A, m, c, h1, h2, h3⟩ := h x hx
  exact ⟨A, m, c, h1, h2.alloc o, h3⟩
theorem FinR.drew (h : FinR w R0 B ex a S f xs) : FinR w.drew R0 B ex a S f xs := fun x hx => by
  obtain ⟨A, m, c, h1, h2, h3⟩ := h x hx
  exact ⟨A, m, c, h1, h2.drew, h3⟩
theorem FinR.setCell (h : FinR w R0 B ex a S f xs) {p : Addr} (hp : p.block < R0) (u : Value) : FinR (w.setCell p u) R0 B ex a S f xs := fun x hx => by
  obtain ⟨A, m, c, h1, h2, h3⟩ := h x hx
  exact ⟨A, m, c, h1, own_apart h2 (fun hg => by have := (h2.lt _ hg).1; omega) u, h3⟩
theorem FinR.mono (h : FinR w R0 B ex a S f xs) (hB : B ≤ B') : FinR w R0 B' ex a S f xs := fun x hx => by
  obtain ⟨A, m, c, h1, h2, h3⟩ := h x hx
  exact ⟨A, m, c, h1, h2, fun g hg => ⟨Nat.lt_of_lt_of_le (h3 g hg).1 hB, (h3 g hg).2⟩⟩
theorem FinR.move (h : FinR w R0 B ex a S f xs) (he : ex' = ex ∨ ∃ b, ex' = some b ∧ B ≤ b) : FinR w R0 B ex' a S f xs := fun x hx => by
  obtain ⟨A, m, c, h1, h2, h3⟩ := h x hx
  refine ⟨A, m, c, h1, h2, fun g hg => ⟨(h3 g hg).1, ?_⟩⟩
  rcases he with rfl | ⟨b, rfl, hb⟩
  · exact (h3 g hg).2
  · intro e
    injection e with e
    have := (h3 g hg).1
    omega
theorem FinR.upd (h : FinR w R0 B ex a S f xs) {x : Int} (hx : x ∉ xs) (v : Value) : FinR w R0 B ex a S (upd f x v) xs := fun y hy => by
  obtain ⟨A, m, c, h1, h2, h3⟩ := h y hy
  refine ⟨A, m, c, ?_, h2, h3⟩
  unfold Go.Proofs.Ytjpleagcdncbfaa.upd
  rw [if_neg (fun e => hx (by rw [← e]; exact hy))]
  exact h1
theorem FinR.snoc (h : FinR w R0 B ex a S f xs) (hB : B ≤ w.heap.size) (hR : R0 ≤ B) {x : Int} {A : Option Addr} {m c : Nat} (hf : f x = some (.slice A m c)) (ho : w.ownsRow B 3 1 (.slice A m c) m ((linksAt a S x).map (.int .i64))) (he : ∀ b, ex = some b → b < B) :
    FinR w R0 w.heap.size ex a S f (xs ++ [x]) := fun y hy => by
  rcases List.mem_append.1 hy with hy | hy
  · exact h.mono hB y hy
  · simp only [List.mem_cons, List.not_mem_nil, or_false] at hy
    subst hy
    exact ⟨A, m, c, hf, own_mono ho hR, fun g hg => ⟨(ho.lt g hg).2, fun e => by have := he g e.symm; have := (ho.lt g hg).1; omega⟩⟩
theorem FinR.below (h : FinR w R0 B ex a S f xs) (hb : Below w.heap.size w w') : FinR w' R0 B ex a S f xs := fun x hx => by
  obtain ⟨A, m, c, h1, h2, h3⟩ := h x hx
  exact ⟨A, m, c, h1, own_below h2 hb, h3⟩
end
def Keys (f : Int → Option Value) (xs : List Int) : Prop := ∀ x, (f x).isSome = true ↔ x ∈ xs
theorem Keys.add {f : Int → Option Value} {xs : List Int} (h : Keys f xs) (x : Int) (v : Value) : Keys (upd f x v) (xs ++ [x]) := fun y => by
  unfold Go.Proofs.Ytjpleagcdncbfaa.upd
  by_cases hy : y = x
  · subst hy; simp
  · rw [if_neg hy, h y]; simp [hy]
theorem Keys.again {f : Int → Option Value} {xs : List Int} (h : Keys f xs) {x : Int} (hx : x ∈ xs) (v : Value) : Keys (upd f x v) xs := fun y => by
  unfold Go.Proofs.Ytjpleagcdncbfaa.upd
  by_cases hy : y = x
  · subst hy; simp [hx]
  · rw [if_neg hy, h y]

/-- The counter that newCounter makes. -/
def CounterIs (w : World) (base gh : Nat) (a : List Int) (S : List Spot) (l : List Int) : Prop :=
  ∃ b1 b2 R0 N1 N2 Ao k co f, Blk w gh 51 #[.slice Ao k co, .map (some b1), .map (some b2)] ∧ base ≤ gh ∧ base ≤ b1 ∧ base ≤ b2 ∧ b1 ≠ b2 ∧ base ≤ R0 ∧ b1 < R0 ∧ b2 < R0 ∧ gh < R0 ∧
    MapIs w Try.prog 3 .i64 b1 N1 f ∧ MapIs w Try.prog 3 .i64 b2 N2 (manyF l) ∧ N1 ≤ 1000000 ∧ N2 ≤ 65536 + l.length ∧ k = (begsL S).length ∧
    w.ownsRow R0 3 1 (.slice Ao k co) k ((begsL S).map (.int .i64)) ∧ Keys f (begsL S) ∧ FinR w R0 w.heap.size (Value.slice Ao k co).ownBlock a S f (begsL S)

theorem zero_intv (w : World) : (zeroValue 3).run Try.prog w = .ok (.int .i64 0) w := by kernel_rfl
theorem zero_ints (w : World) : (zeroValue 23).run Try.prog w = .ok (.slice none 0 0) w := by kernel_rfl

set_option maxHeartbeats 400000 in
theorem counter_bad (A : Option Addr) (n c : Nat) (a : List Int) (A2 : Option Addr) (n2 c2 : Nat) (w : World) (hr : Reads w w.heap.size 1 A n (a.map (.int .u64))) (hnc : n ≤ c) (ha : ∀ x ∈ a, (Lit.int .u64 x).wf = true) (hE : checkE a ≠ 0) :
    Calls Try.prog 29 #[.slice A n c, .slice A2 n2 c2] w fun e w' => e = .returned (.tuple #[.pointer none, .int .i64 (checkE a)]) ∧ Below w.heap.size w w' := by
  have H := Lib.hid (checkFn_any A n c a w hr hnc ha)
  have hE1 : (checkE a != 0) = true := by simpa using hE
  generalize checkE a = E at *
  clear hE hr
  go_enter Try.func29, Try.ntmps29
  go_wp2_with fail
  refine H.out.mono ?_
  rintro e w1 ⟨rfl, hb1⟩
  go_wp2
  go_ret2
  exact ⟨rfl, hb1⟩

set_option maxRecDepth 100000 in
set_option maxHeartbeats 4000000 in
theorem counter_ok (A : Option Addr) (n c : Nat) (a : List Int) (A2 : Option Addr) (n2 c2 : Nat) (f : List Int) (w : World) (hr : Reads w w.heap.size 1 A n (a.map (.int .u64))) (hnc : n ≤ c) (ha : ∀ x ∈ a, (Lit.int .u64 x).wf = true)
    (hr2 : Reads w w.heap.size 1 A2 n2 (f.map (.int .i64))) (hn2 : n2 ≤ 1000000000000000000) (hx2 : ∀ x ∈ f, (Lit.int .i64 x).wf = true) (hE : checkE a = 0) :
    Calls Try.prog 29 #[.slice A n c, .slice A2 n2 c2] w fun e w' => Below w.heap.size w w' ∧
      (((∀ x ∈ f, x ∈ begsL (spotsL a)) ∧ ∃ gh, e = .returned (.tuple #[.pointer (some ⟨gh, 0, none⟩), .int .i64 0]) ∧ CounterIs w' w.heap.size gh a (spotsL a) (allLinks a (spotsL a) ++ f)) ∨
       ((∃ x ∈ f, x ∉ begsL (spotsL a)) ∧ e = .returned (.tuple #[.pointer none, .int .i64 5]))) := by
  have hal : a.length = n := by have := hr.1; simpa using this
  have H := checkFn_any A n c a w hr hnc ha
  have HLk := Lib.hid (fun (s : Spot) (hs : s ∈ spotsL a) => links_begs hE hs)
  rw [hE] at H
  have H := Lib.hid H
  have h0 := (checkE_ok.1 hE).1
  have hn : n ≤ 256 := by have := (parse_ok h0).1; omega
  have H2 := fun w hr => spots_any A n c a w hr ha
  rw [h0] at H2
  have hrise := spots_rise h0
  have hbb := begsL_bounds h0
  have HMEM := Lib.hid (parse_mem (parse_ok h0).2)
  have hm256 := spotsL_length a
  have HSf := Lib.hid (fun (s : Spot) hs hf => spotAt_self h0 (s := s) hs hf)
  generalize spotsL a = S at *
  obtain ⟨m, hm⟩ : ∃ m, m = S.length := ⟨_, rfl⟩
  rw [← hm] at H2 hm256
  have HM := Lib.hid hm
  have HR := Lib.hid hrise
  have HBB := Lib.hid hbb
  have H2 := Lib.hid H2
  have hfl : f.length = n2 := by have := hr2.1; simpa using this
  have HFL := Lib.hid hfl
  have HX := Lib.hid hx2
  have HAL := Lib.hid hal
  have hmm := @run_makeMap Try.prog
  obtain ⟨i0, hi, hz0, hz1, hz2⟩ := info_parts info_int
  clear hE h0 hm hrise hbb hfl hx2 ha hal
  go_enter Try.func29, Try.ntmps29
  go_wp2_with fail
  refine H.out.mono ?_
  rintro e w1 ⟨rfl, hb1⟩
  have hM1 := ((MapIs.made w1 Try.prog 3 .i64).alloc (.map #[] 0)).alloc (.cells #[.slice none 0 0, .map (some w1.heap.size), .map (some (w1.heap.size + 1))] 51)
  have hM2 := (MapIs.made (w1.alloc (.map #[] 0)) Try.prog 3 .i64).alloc (.cells #[.slice none 0 0, .map (some w1.heap.size), .map (some (w1.heap.size + 1))] 51)
  have hBh := Blk.new ((w1.alloc (.map #[] 0)).alloc (.map #[] 0)) 51 #[.slice none 0 0, .map (some w1.heap.size), .map (some (w1.heap.size + 1))]
  have hbB := below_step hb1 (((below_new w1 (.map #[] 0)).alloc (by simp) (.map #[] 0)).alloc (by simp; omega) (.cells #[.slice none 0 0, .map (some w1.heap.size), .map (some (w1.heap.size + 1))] 51))
  simp only [World.size_alloc] at hBh hM2
  have hnil : (fun _ => none : Int → Option Value) = manyF [] := by funext x; simp [manyF]
  go_wp2_with fail
  refine (H2.out _ ((hr.below hbB).more hbB.size)).mono ?_
  rintro e w2 ⟨hb2, A3, c3, rfl, hown⟩
  have hM1 := hM1.below hb2 hM1.lt
  have hM2 := hM2.below hb2 hM2.lt
  have hBh := hBh.below hb2 hBh.lt
  have hb02 := below_step hbB hb2
  have HS0 := Lib.hid hown
  simp only [World.size_alloc] at HS0
  have hw1 := hb1.size
  have hBlt : w1.heap.size + 1 + 1 < w2.heap.size := hBh.lt
  rw [hnil] at hM2
  clear hown hb2 hbB hnil
  obtain ⟨R0, hR0⟩ : ∃ R0, R0 = w1.heap.size + 1 + 1 + 1 := ⟨_, rfl⟩
  rw [← hR0] at HS0
  go_wp2
  go_loopw [34] (fun i wr => ∃ (j k co N1 N2 : Nat) (Ao : Option Addr) (f1 : Int → Option Value), j ≤ m ∧ i = .int .i64 j ∧ k ≤ j ∧ N1 ≤ 257 * j ∧ N2 ≤ 256 * j ∧ Hid (N2 = (allLinks a (S.take j)).length) ∧ Blk wr (w1.heap.size + 1 + 1) 51 #[.slice Ao k co, .map (some w1.heap.size), .map (some (w1.heap.size + 1))] ∧
      MapIs wr Try.prog 3 .i64 w1.heap.size N1 f1 ∧ MapIs wr Try.prog 3 .i64 (w1.heap.size + 1) N2 (manyF (allLinks a (S.take j))) ∧ Hid (wr.ownsRow R0 3 1 (.slice Ao k co) k ((begsL (S.take j)).map (.int .i64)) ∧ k = (begsL (S.take j)).length) ∧
      Hid (FinR wr R0 wr.heap.size (Value.slice Ao k co).ownBlock a S f1 (begsL (S.take j))) ∧ Hid (Keys f1 (begsL (S.take j))) ∧ Below w.heap.size w wr ∧ Hid (wr.ownsRow R0 65 5 (.slice A3 m c3) m (spotsC S))) (fun i _ => m - (intOf i).toNat)
  case atStart => exact ⟨0, 0, 0, 0, 0, none, fun _ => none, Nat.zero_le _, rfl, Nat.zero_le _, Nat.zero_le _, Nat.zero_le _, rfl, hBh, hM1, hM2, ⟨World.ownsRow_nil _ _ _ _, rfl⟩, (by show FinR _ _ _ _ _ _ _ _; intro x hx; cases hx), (by show Keys _ _; intro x; simp [begsL]), hb02, HS0⟩
  case round =>
    obtain ⟨j, k, co, N1, N2, Ao, f1, hj, rfl, hkj, hN1, hN2, HN2, hBh, hM1, hM2, HO, HF, HKy, hb, HRS⟩ := hrel
    by_cases hlt : j < m
    · obtain ⟨ad, s, rfl, had, hs, c0, c1, c2', c3', c4⟩ := (Reads.of_own HRS.out).spot hlt
      have hsS := List.mem_of_getElem? hs
      have hok := (HMEM.out s hsS).1
      have HT : Hid (S.take (j + 1) = S.take j ++ [s]) := by
        show _ = _
        obtain ⟨h1, rfl⟩ := List.getElem?_eq_some_iff.1 hs
        exact List.take_succ_eq_append_getElem h1
      have HNot : Hid (s.loc ∉ begsL (S.take j)) := by
        intro hx
        obtain ⟨t, ht, hte⟩ := List.mem_map.1 hx
        have ht2 := (List.mem_filter.1 ht).1
        rw [List.mem_take_iff_getElem] at ht2
        obtain ⟨i, hi, rfl⟩ := ht2
        obtain ⟨h1, rfl⟩ := List.getElem?_eq_some_iff.1 hs
        have := List.pairwise_iff_getElem.1 HR.out i j (by omega) h1 (by omega)
        omega
      have HLs : Hid (s.f = false → linksAt a S s.loc = linksP (refsOf a s)) := fun hf => by
        show linksAt a S s.loc = linksL a s
        unfold linksAt
        rw [HSf.out s hsS hf]
      have hlk2 : ∀ v ∈ refsOf a s, v = 0 ∨ 1 ≤ v ∧ v ≤ 256 := fun v hv => by
        by_cases hv0 : v = 0
        · exact .inl hv0
        · have h1 : v - 1 ∈ linksL a s := List.mem_map.2 ⟨v, List.mem_filter.2 ⟨hv, by simpa using hv0⟩, rfl⟩
          have := HBB.out _ (HLk.out s hsS _ h1)
          exact .inr (by omega)
      have HL2 := Lib.hid hlk2
      have hrl := refsOf_length hok
      have HRS2 : Hid (refsOf a s = (a.drop (s.loc.toNat + 1)).take s.r.toNat) := rfl
      have HQ := Lib.hid (begsL_snoc (S.take j) s)
      have HAL2 := Lib.hid (allLinks_snoc a (S.take j) s)
      have HLd : Hid (linksL a s = linksP (refsOf a s)) := rfl
      rw [← HT.out] at HQ HAL2
      rw [HLd.out] at HAL2
      generalize refsOf a s = rs at *
      have l0 := hok.loc0
      have r0 := hok.r0
      have b0 := hok.b0
      have ft := hok.fits
      obtain ⟨loc, r, bb, t, fr⟩ := s
      simp only [Spot.long] at ft l0 r0 b0 c0 c1 c2' c3' c4 hrl HRS2 HLs HNot HQ HAL2
      obtain ⟨I, rfl⟩ := Int.eq_ofNat_of_zero_le l0
      obtain ⟨rr, rfl⟩ := Int.eq_ofNat_of_zero_le r0
      simp only [Int.toNat_natCast] at hrl HRS2
      rw [HAL.out] at ft
      have HRL := Lib.hid hrl
      have hj1 : j + 1 ≤ m := hlt
      have hBx := hBh.alloc (.cells #[.int .i64 I, .int .i64 rr, .int .i64 bb, .int .i64 t, .bool fr] 65)
      have hM1x := hM1.alloc (.cells #[.int .i64 I, .int .i64 rr, .int .i64 bb, .int .i64 t, .bool fr] 65)
      have hM2x := hM2.alloc (.cells #[.int .i64 I, .int .i64 rr, .int .i64 bb, .int .i64 t, .bool fr] 65)
      have hbx := hb.alloc hb.size (.cells #[.int .i64 I, .int .i64 rr, .int .i64 bb, .int .i64 t, .bool fr] 65)
      have hSx := Blk.new wr 65 #[.int .i64 I, .int .i64 rr, .int .i64 bb, .int .i64 t, .bool fr]
      have HOx := Lib.hid (HO.out.1.alloc (.cells #[.int .i64 I, .int .i64 rr, .int .i64 bb, .int .i64 t, .bool fr] 65))
      have HFx := Lib.hid (HF.out.alloc (.cells #[.int .i64 I, .int .i64 rr, .int .i64 bb, .int .i64 t, .bool fr] 65))
      have HRx := Lib.hid (HRS.out.alloc (.cells #[.int .i64 I, .int .i64 rr, .int .i64 bb, .int .i64 t, .bool fr] 65))
      have hwl := hBh.lt
      have k0 := hBx.cell 0
      have k1 := hBx.cell 1
      have k2 := hBx.cell 2
      have s0 := hSx.cell 0
      have s1 := hSx.cell 1
      have s4 := hSx.cell 4
      simp only [List.getElem?_toArray, List.getElem?_cons_zero, List.getElem?_cons_succ] at k0 k1 k2 s0 s1 s4
      clear hs hsS hok hlk2 hrl HRS hM1 hM2 hBh
      cases fr
      · have HLn := Lib.hid (HLs.out rfl)
        have hHK : Hid (k = (begsL (S.take j)).length) := HO.out.2
        -- the list of all
        have hB4 := (hBx.alloc (.cells #[.int .i64 I] 3)).drew
        have hM14 := (hM1x.alloc (.cells #[.int .i64 I] 3)).drew
        have hM24 := (hM2x.alloc (.cells #[.int .i64 I] 3)).drew
        have hb4 := (hbx.alloc hbx.size (.cells #[.int .i64 I] 3)).drew
        have hO4 := (HOx.out.alloc (.cells #[.int .i64 I] 3)).drew
        have hF4 := (HFx.out.alloc (.cells #[.int .i64 I] 3)).drew
        have hR4 := (HRx.out.alloc (.cells #[.int .i64 I] 3)).drew
        have hS4 := (hSx.alloc (.cells #[.int .i64 I] 3)).drew
        have hlo := fun g hg => (HO.out.1.lt g hg).2
        have hsz4 : ((wr.alloc (.cells #[.int .i64 I, .int .i64 rr, .int .i64 bb, .int .i64 t, .bool false] 65)).alloc (.cells #[.int .i64 I] 3)).drew.heap.size = wr.heap.size + 1 + 1 := by show ((wr.alloc _).alloc _).heap.size = _; rw [World.size_alloc, World.size_alloc]
        have hrn := reads_new (wr.alloc (.cells #[.int .i64 I, .int .i64 rr, .int .i64 bb, .int .i64 t, .bool false] 65)) [.int .i64 I] 3 1 1 rfl
        simp only [World.size_alloc] at hrn
        obtain ⟨v5, w5, hrun, hO5, hg5, hor5, -⟩ := run_append_any (P := Try.prog) ((wr.alloc (.cells #[.int .i64 I, .int .i64 rr, .int .i64 bb, .int .i64 t, .bool false] 65)).alloc (.cells #[.int .i64 I] 3)).drew R0 23 23 3 i0 (.int .i64 0) 1 8 Try.underlying23 hi hz0 hz1 hz2 rfl (by decide) (.slice Ao k co) k _ hO4 _ (some ⟨wr.heap.size + 1, 0, none⟩) 1 1 [.int .i64 I] hrn (by simp [Value.oneCell']) (by unfold maxLen; omega) (by omega) (by rw [hsz4]; omega)
        obtain ⟨A5, c5, rfl⟩ := own_slice hO5
        have hB5 := hB4.grown hg5 (fun h => own_off hO4 (by omega) h.symm)
        have hS5 := hS4.grown hg5 (fun h => by have := hlo _ h.symm; omega)
        have hM15 := hM14.kept hg5 (fun h => own_off hO4 (by omega) h.symm)
        have hM25 := hM24.kept hg5 (fun h => own_off hO4 (by omega) h.symm)
        have hb5 := hb4.grown hg5 hb4.size (fun g hg => by have := (hO4.lt g hg).1; omega)
        have hR5 := own_grown hR4 hg5 (fun g hg => own_kinds hR4 hO4 (by decide) hg)
        have hF5 := (hF4.grown hg5 (fun r _ => .inr (.inr rfl))).move (ex' := (Value.slice A5 (k + 1) c5).ownBlock) (by
          rcases hor5 with h | h
          · exact .inl h
          · exact .inr ⟨_, h, by rw [hsz4]; omega⟩)
        have hB6 : Blk (w5.setCell ⟨w1.heap.size + 1 + 1, 0, none⟩ (.slice A5 (k + 1) c5)) (w1.heap.size + 1 + 1) 51 #[.slice A5 (k + 1) c5, .map (some w1.heap.size), .map (some (w1.heap.size + 1))] := by simpa using hB5.set_ 0 (.slice A5 (k + 1) c5)
        have hS6 := hS5.far (p := ⟨w1.heap.size + 1 + 1, 0, none⟩) (by dsimp only; omega) (.slice A5 (k + 1) c5)
        have hM16 := hM15.setCell (a := ⟨w1.heap.size + 1 + 1, 0, none⟩) (by dsimp only; omega) (.slice A5 (k + 1) c5)
        have hM26 := hM25.setCell (a := ⟨w1.heap.size + 1 + 1, 0, none⟩) (by dsimp only; omega) (.slice A5 (k + 1) c5)
        have hb6 := hb5.setCell (p := ⟨w1.heap.size + 1 + 1, 0, none⟩) (by dsimp only; omega) (.slice A5 (k + 1) c5)
        have hO6 := own_apart hO5 (p := ⟨w1.heap.size + 1 + 1, 0, none⟩) (own_off hO5 (by dsimp only; omega)) (.slice A5 (k + 1) c5)
        have hR6 := own_apart hR5 (p := ⟨w1.heap.size + 1 + 1, 0, none⟩) (own_off hR5 (by dsimp only; omega)) (.slice A5 (k + 1) c5)
        have hF6 := hF5.setCell (p := ⟨w1.heap.size + 1 + 1, 0, none⟩) (by dsimp only; omega) (.slice A5 (k + 1) c5)
        obtain ⟨w6, hw6⟩ : ∃ w6, w6 = w5.setCell ⟨w1.heap.size + 1 + 1, 0, none⟩ (.slice A5 (k + 1) c5) := ⟨_, rfl⟩
        rw [← hw6] at hB6 hS6 hM16 hM26 hb6 hO6 hR6 hF6
        -- no refs yet
        obtain ⟨w7, hupd7, hM17, hg7⟩ := hM16.drew.store (k := 3) (t := 48) Try.underlying3 Try.underlying48 (by unfold maxLen; omega) (x := I) (by simp [Lit.wf, IntKind.min, IntKind.max, IntKind.signed, IntKind.bits]; omega) (.slice none 0 0)
        have hB7 := hB6.drew.grown hg7 (fun h => by injection h with h; omega)
        have hS7 := hS6.drew.grown hg7 (fun h => by injection h with h; omega)
        have hM27 := hM26.drew.kept hg7 (fun h => by injection h with h; omega)
        have hb7 := hb6.drew.grown hg7 (by exact hb6.size) (fun g hg => by injection hg with hg; omega)
        have hO7 := own_grown hO6.drew hg7 (fun g hg h => by injection h with h; have := (hO6.lt g hg).1; omega)
        have hR7 := own_grown hR6.drew hg7 (fun g hg h => by injection h with h; have := (hR6.lt g hg).1; omega)
        have hF7 := (hF6.drew.grown hg7 (fun r h => by injection h with h; exact .inl (by omega))).upd HNot.out (.slice none 0 0)
        have hK7 := HKy.out.add I (.slice none 0 0)
        have hsz7 : wr.heap.size + 1 < w7.heap.size := by
          have h1 := hS7.lt
          have h2 := hg5.size
          have h3 := hg7.size
          rw [hsz4] at h2
          have h4 : w6.heap.size = w5.heap.size := by rw [hw6, World.size_setCell]
          have h5 : w6.drew.heap.size = w6.heap.size := rfl
          omega
        have u0 := (hBx.alloc (.cells #[.int .i64 I] 3)).cell 0
        have u1 := (hSx.alloc (.cells #[.int .i64 I] 3)).cell 0
        have p0 := hB5.cell 0
        have pf := hB5.frozen 0
        have q1 := hB6.cell 1
        have q2 := hS6.cell 0
        have r1 := hB7.cell 1
        have r2 := hS7.cell 0
        have r3 := hS7.cell 1
        have r4 := hB7.cell 2
        simp only [List.getElem?_toArray, List.getElem?_cons_zero, List.getElem?_cons_succ] at u0 u1 p0 q1 q2 r1 r2 r3 r4
        have HRun := Lib.hid hrun
        have HM17 := Lib.hid hM17
        have HM27 := Lib.hid hM27
        have HB7 := Lib.hid hB7
        have HS7 := Lib.hid hS7
        have HO7 := Lib.hid hO7
        have HF7 := Lib.hid hF7
        have HR7 := Lib.hid hR7
        have HK7 := Lib.hid hK7
        have HW6 := Lib.hid hw6
        obtain ⟨p1, hp1⟩ : ∃ p1, p1 = I + 1 := ⟨_, rfl⟩
        obtain ⟨p2, hp2⟩ : ∃ p2, p2 = p1 + rr := ⟨_, rfl⟩
        have w1' : IntKind.i64.wrap ((I : Int) + 1) = p1 := by rw [IntWalk.i64_in _ (by omega)]; omega
        have w2' : IntKind.i64.wrap ((p1 : Int) + rr) = p2 := by rw [IntWalk.i64_in _ (by omega)]; omega
        have t1 : p1 ≤ p2 := by omega
        have t2 : p2 ≤ n := by omega
        have t3 : p2 ≤ c := by omega
        have t4 : p1 ≤ c := by omega
        have t5 : p2 - p1 = rr := by omega
        have HP1 := Lib.hid hp1
        have HP2 := Lib.hid hp2
        clear hB4 hM14 hM24 hb4 hO4 hF4 hR4 hS4 hB5 hS5 hM15 hM25 hb5 hR5 hF5 hO5 hB6 hS6 hM16 hM26 hb6 hO6 hR6 hF6 hg5 hor5 hrun hM17 hM27 hB7 hS7 hO7 hF7 hR7 hK7 hg7 hrn hp1 hp2 hM1x hM2x hBx hSx hbx
        go_wp2
        go_region_law (refine step_append_run rfl (.tmp 45) (.tmp 48) 23 23 rfl (.slice Ao k co) (.slice (some ⟨wr.heap.size + 1, 0, none⟩) 1 1) (by simp [Act.eval, Act.put]) (by simp [Act.eval, Act.put]) HRun.out ?_)
        all_goals
          try simp only [Act.put, Act.eval, List.getElem_toArray, List.getElem_cons_zero, List.getElem_cons_succ, List.setIfInBounds_toArray, List.set_cons_zero, List.set_cons_succ]
        all_goals
          rw [← hw6]
          clear hw6 u0 u1 p0 pf k0 k1 k2 s0 s1 s4
          go_wp2
          go_region_held3 (fun w' => w'.cell? ⟨w1.heap.size + 1 + 1, 1, none⟩ = some (.map (some w1.heap.size)) ∧ w'.cell? ⟨wr.heap.size, 0, none⟩ = some (.int .i64 I)) (go_keep) (fail)
          clear q1 q2 hupd7
          by_cases hci : c = p1
          · have hci2 : (c == p1) = true := by simpa using hci
            have hrr0 : rr = 0 := by omega
            have g0 : decide (0 < rr) = false := decide_eq_false (by omega)
            have HRR := Lib.hid hrr0
            clear hrr0
            go_wp2
            go_loopw [71] (fun i wx => i = .int .i64 0 ∧ wx = w7) (fun _ _ => 0)
            case atStart => exact ⟨by first | rfl | simp, rfl⟩
            case round =>
              obtain ⟨rfl, hwx⟩ := hrel
              obtain rfl := hwx.symm
              have hrs : rs = [] := List.eq_nil_of_length_eq_zero (by rw [HRL.out]; exact HRR.out)
              have hF8 := HF7.out.mono (B' := w7.heap.size) (by omega)
              have HF8 : Hid (FinR w7 R0 w7.heap.size (Value.slice A5 (k + 1) c5).ownBlock a S (upd f1 I (.slice none 0 0)) (begsL (S.take (j + 1)))) := by
                show FinR _ _ _ _ _ _ _ _
                rw [HQ.out, if_neg (by simp)]
                refine hF8.snoc (Nat.le_refl _) (by omega) (A := none) (m := 0) (c := 0) (by unfold upd; rw [if_pos rfl]) ?_ (fun b hb => (HO7.out.lt b hb).2)
                rw [HLn.out, hrs]
                exact World.ownsRow_nil _ _ _ _
              have HA8 : Hid (allLinks a (S.take (j + 1)) = allLinks a (S.take j)) := by show _ = _; rw [HAL2.out, if_neg (by simp), hrs]; exact List.append_nil _
              have HQ8 : Hid (begsL (S.take (j + 1)) = begsL (S.take j) ++ [(I : Int)]) := by show _ = _; rw [HQ.out, if_neg (by simp)]
              clear hF8 hrs
              go_wp2
              go_roundw
              case rel =>
                refine ⟨j + 1, k + 1, c5, N1 + 1, N2, A5, upd f1 I (.slice none 0 0), hj1, by go_num, by omega, by omega, by omega, (by rw [HA8.out]; exact HN2), HB7.out, HM17.out, by rw [HA8.out]; exact HM27.out, ?_, HF8, ?_, hb7, HR7⟩
                · show _ ∧ _
                  rw [HQ8.out, List.map_append, List.length_append, ← hHK.out]
                  exact ⟨HO7.out, rfl⟩
                · show Keys _ _
                  rw [HQ8.out]
                  exact HK7.out
              case measure => simp [intOf]; omega
          · have hpos : 0 < n := by omega
            obtain ⟨ada, rfl, -, -⟩ := hr.2 hpos
            have HG : Hid (∀ (wx : World) (q : Nat), q < rr → Reads wx w.heap.size 1 (some ada) n (a.map (.int .u64)) → ∃ v, rs[q]? = some v ∧ 0 ≤ v ∧ wx.cell? ((ada.add p1).add q) = some (.int .u64 v)) := by
              intro wx q hq hrr
              have h1 := hrr.sub (lo := p1) (hi := p2) t1 t2 hnc
              rw [if_neg hci, t5] at h1
              have h2 : ((a.map (Value.int .u64)).drop p1).take rr = rs.map (Value.int .u64) := by rw [HRS2.out, List.map_take, List.map_drop, HP1.out]
              rw [h2] at h1
              obtain ⟨ad2, v, e2, -, hv, hc⟩ := h1.num hq
              simp only [Option.map_some, Option.some.injEq] at e2
              subst e2
              refine ⟨v, hv, ?_, hc⟩
              rcases HL2.out v (List.mem_of_getElem? hv) with h | h <;> omega
            have hM27s : Hid (MapIs w7 Try.prog 3 .i64 (w1.heap.size + 1) N2 (manyF (allLinks a (S.take j) ++ linksP (rs.take 0)))) := by
              show MapIs _ _ _ _ _ _ _
              rw [show linksP (rs.take 0) = [] from rfl, List.append_nil]
              exact HM27.out
            have HOb : Hid (∀ g, (Value.slice A5 (k + 1) c5).ownBlock = some g → g < w7.heap.size) := fun g hg => (HO7.out.lt g hg).2
            have HQ8 : Hid (begsL (S.take (j + 1)) = begsL (S.take j) ++ [(I : Int)]) := by show _ = _; rw [HQ.out, if_neg (by simp)]
            have HIn : Hid ((I : Int) ∈ begsL (S.take (j + 1))) := by show _ ∈ _; rw [HQ8.out]; simp
            have hR07 : R0 ≤ w7.heap.size := by omega
            obtain ⟨wb, hwb⟩ : ∃ x, x = wr := ⟨wr, rfl⟩
            subst hwb
            go_wp2
            go_loopw [13, 71] (fun _ i wx => ∃ (q k2 cc M1 M2 : Nat) (Ac : Option Addr) (f3 : Int → Option Value), q ≤ rr ∧ i = .int .i64 q ∧ k2 ≤ q ∧ M1 ≤ N1 + 1 + q ∧ M2 ≤ N2 + q ∧ Hid (M2 = (allLinks a (S.take j) ++ linksP (rs.take q)).length) ∧ Blk wx (w1.heap.size + 1 + 1) 51 #[.slice A5 (k + 1) c5, .map (some w1.heap.size), .map (some (w1.heap.size + 1))] ∧
              Blk wx wb.heap.size 65 #[.int .i64 I, .int .i64 rr, .int .i64 bb, .int .i64 t, .bool false] ∧ MapIs wx Try.prog 3 .i64 w1.heap.size M1 f3 ∧ Hid (f3 I = some (.slice Ac k2 cc)) ∧ MapIs wx Try.prog 3 .i64 (w1.heap.size + 1) M2 (manyF (allLinks a (S.take j) ++ linksP (rs.take q))) ∧
              Hid (wx.ownsRow w7.heap.size 3 1 (.slice Ac k2 cc) k2 ((linksP (rs.take q)).map (.int .i64)) ∧ k2 = (linksP (rs.take q)).length) ∧ Hid (wx.ownsRow R0 3 1 (.slice A5 (k + 1) c5) (k + 1) ((begsL (S.take j) ++ [(I : Int)]).map (.int .i64))) ∧
              Hid (FinR wx R0 w7.heap.size (Value.slice A5 (k + 1) c5).ownBlock a S f3 (begsL (S.take j))) ∧ Hid (Keys f3 (begsL (S.take (j + 1)))) ∧ Below w.heap.size w wx ∧ Hid (wx.ownsRow R0 65 5 (.slice (some ad) m c3) m (spotsC S)) ∧ w7.heap.size ≤ wx.heap.size) (fun _ i _ => rr - (intOf i).toNat)
            case atStart =>
              refine ⟨0, 0, 0, N1 + 1, N2, none, upd f1 I (.slice none 0 0), Nat.zero_le _, rfl, Nat.zero_le _, by omega, by omega, (by show _ = _; rw [show linksP (rs.take 0) = [] from rfl, List.append_nil]; exact HN2.out), HB7.out, HS7.out, HM17.out, (by show _ = _; unfold upd; rw [if_pos rfl]), hM27s.out, ⟨World.ownsRow_nil _ _ _ _, rfl⟩, ?_, HF7.out.mono (by omega), ?_, hb7, HR7, Nat.le_refl _⟩
              · show World.ownsRow _ _ _ _ _ _ _
                rw [List.map_append]
                exact HO7.out
              · show Keys _ _
                rw [HQ8.out]
                exact HK7.out
            case round =>
              obtain ⟨q, k2, cc, M1, M2, Ac, f3, hq, rfl, hkq, hM1b, hM2b, HM2, gB, gS, gM1, HfI, gM2, HCu, HOr, HFi, HKe, gb, HSp, gsz⟩ := hrel
              by_cases hltq : q < rr
              · obtain ⟨v, hv, hv0, hcv⟩ := HG.out wr q hltq ((hr.below gb))
                have hlk := HL2.out v (List.mem_of_getElem? hv)
                have hq1 : q + 1 ≤ rr := hltq
                by_cases h0 : v = 0
                · subst h0
                  have HZ := Lib.hid (linksP_zero hv)
                  clear hv
                  go_wp2
                  go_roundw
                  case rel => exact ⟨q + 1, k2, cc, M1, M2, Ac, f3, hq1, by go_num, by omega, by omega, by omega, (by rw [HZ.out]; exact HM2), gB, gS, gM1, HfI, by rw [HZ.out]; exact gM2, (by rw [HZ.out]; exact HCu), HOr, HFi, HKe, gb, HSp, gsz⟩
                  case measure => simp [intOf]; omega
                · obtain ⟨V, rfl⟩ : ∃ V : Nat, v = V := ⟨v.toNat, by omega⟩
                  obtain ⟨z, hz⟩ : ∃ z : Nat, V = z + 1 := ⟨V - 1, by omega⟩
                  have hst := linksP_succ hv h0
                  rw [show ((V : Int) - 1) = (z : Int) by omega] at hst
                  have HST := Lib.hid hst
                  have z1 : ((V : Int) != 0) = true := by simp; omega
                  have z2 : (V != 0) = true := by simp; omega
                  have z3 : ¬ V = 0 := by omega
                  have w4 : IntKind.i64.wrap (V : Int) = V := IntWalk.i64_in _ (by omega)
                  have w5' : (V : Int) - 1 = z := by omega
                  have w6' : IntKind.i64.wrap (z : Int) = z := IntWalk.i64_in _ (by omega)
                  have hzl : z < 256 := by omega
                  have hwfz : (Lit.int .i64 (z : Int)).wf = true := by simp [Lit.wf, IntKind.min, IntKind.max, IntKind.signed, IntKind.bits]; omega
                  have hwfI : (Lit.int .i64 (I : Int)).wf = true := by simp [Lit.wf, IntKind.min, IntKind.max, IntKind.signed, IntKind.bits]; omega
                  have hB8 := (gB.alloc (.cells #[.int .i64 z] 3)).drew
                  have hS8 := (gS.alloc (.cells #[.int .i64 z] 3)).drew
                  have hM18 := (gM1.alloc (.cells #[.int .i64 z] 3)).drew
                  have hM28 := (gM2.alloc (.cells #[.int .i64 z] 3)).drew
                  have hC8 := (HCu.out.1.alloc (.cells #[.int .i64 z] 3)).drew
                  have hO8 := (HOr.out.alloc (.cells #[.int .i64 z] 3)).drew
                  have hF8 := (HFi.out.alloc (.cells #[.int .i64 z] 3)).drew
                  have hb8 := (gb.alloc gb.size (.cells #[.int .i64 z] 3)).drew
                  have hP8 := (HSp.out.alloc (.cells #[.int .i64 z] 3)).drew
                  have hlA := gM1.drew.look (k := 3) (t := 48) Try.underlying3 Try.underlying48 (zero_ints _) hwfI
                  have hlB := hM18.look (k := 3) (t := 48) Try.underlying3 Try.underlying48 (zero_ints _) hwfI
                  rw [HfI.out] at hlA hlB
                  have hlA2 : (Instr.lookup 48 (.map (some w1.heap.size)) (.int .i64 I) false).run Try.prog wr.drew = .ok (.slice Ac k2 cc) wr.drew := hlA
                  have hlB2 : (Instr.lookup 48 (.map (some w1.heap.size)) (.int .i64 I) false).run Try.prog (wr.alloc (.cells #[.int .i64 z] 3)).drew = .ok (.slice Ac k2 cc) (wr.alloc (.cells #[.int .i64 z] 3)).drew := hlB
                  obtain ⟨v9, w9, hrun9, hO9c, hg9, -, -⟩ := run_append_any (P := Try.prog) (wr.alloc (.cells #[.int .i64 z] 3)).drew w7.heap.size 23 23 3 i0 (.int .i64 0) 1 8 Try.underlying23 hi hz0 hz1 hz2 rfl (by decide) (.slice Ac k2 cc) k2 _ hC8 _ (some ⟨wr.heap.size, 0, none⟩) 1 1 [.int .i64 z] (reads_new wr [.int .i64 z] 3 1 1 rfl) (by simp [Value.oneCell']) (by unfold maxLen; omega) (by omega) (by show _ ≤ (wr.alloc _).heap.size; rw [World.size_alloc]; omega)
                  obtain ⟨A9, c9, rfl⟩ := own_slice hO9c
                  have hcur := fun g hg => (hC8.lt g hg).1
                  have hB9 := hB8.grown hg9 (fun h => by have := hcur _ h.symm; omega)
                  have hS9 := hS8.grown hg9 (fun h => by have := hcur _ h.symm; omega)
                  have hM19 := hM18.kept hg9 (fun h => by have := hcur _ h.symm; omega)
                  have hM29 := hM28.kept hg9 (fun h => by have := hcur _ h.symm; omega)
                  have hO9 := own_grown hO8 hg9 (fun g hg h => by have := hcur _ h; have := HOb.out g hg; omega)
                  have hF9 := hF8.grown hg9 (fun r h => .inr (.inl (hcur r h)))
                  have hb9 := hb8.grown hg9 hb8.size (fun g hg => by have := hcur g hg; have := gb.size; omega)
                  have hP9 := own_grown hP8 hg9 (fun g hg => own_kinds hP8 hC8 (by decide) hg)
                  have hs9 : w7.heap.size ≤ w9.heap.size := by
                    have := hg9.size
                    have h2 : (wr.alloc (.cells #[.int .i64 z] 3)).drew.heap.size = wr.heap.size + 1 := World.size_alloc _ _
                    omega
                  obtain ⟨w10, hupd10, hM110, hg10⟩ := hM19.store (k := 3) (t := 48) Try.underlying3 Try.underlying48 (by unfold maxLen; omega) (x := I) hwfI (.slice A9 (k2 + 1) c9)
                  have hB10 := hB9.grown hg10 (fun h => by injection h with h; omega)
                  have hS10 := hS9.grown hg10 (fun h => by injection h with h; omega)
                  have hM210 := hM29.kept hg10 (fun h => by injection h with h; omega)
                  have hC10 := own_grown hO9c hg10 (fun g hg h => by injection h with h; have := (hO9c.lt g hg).1; omega)
                  have hO10 := own_grown hO9 hg10 (fun g hg h => by injection h with h; have := (hO9.lt g hg).1; omega)
                  have hF10 := (hF9.grown hg10 (fun r h => by injection h with h; exact .inl (by omega))).upd HNot.out (.slice A9 (k2 + 1) c9)
                  have hb10 := hb9.grown hg10 hb9.size (fun g hg => by injection hg with hg; omega)
                  have hP10 := own_grown hP9 hg10 (fun g hg h => by injection h with h; have := (hP9.lt g hg).1; omega)
                  have hK10 := HKe.out.again HIn.out (.slice A9 (k2 + 1) c9)
                  have hlC := hM210.look (k := 3) (t := 49) Try.underlying3 Try.underlying49 (zero_intv _) hwfz
                  rw [manyF_get] at hlC
                  obtain ⟨C, hC⟩ : ∃ C, C = (allLinks a (S.take j) ++ linksP (rs.take q)).count (z : Int) := ⟨_, rfl⟩
                  rw [← hC] at hlC
                  have hCb : C ≤ 1000000 := by have h1 := HM2.out; have h2 := List.count_le_length (a := ((z : Nat) : Int)) (l := allLinks a (S.take j) ++ linksP (rs.take q)); omega
                  have wC : IntKind.i64.wrap ((C : Int) + 1) = (C : Int) + 1 := IntWalk.i64_in _ (by omega)
                  obtain ⟨w11, hupd11, hM211, hg11⟩ := hM210.store (k := 3) (t := 49) Try.underlying3 Try.underlying49 (by unfold maxLen; omega) (x := z) hwfz (.int .i64 ((C : Int) + 1))
                  have hM211' : Hid (MapIs w11 Try.prog 3 .i64 (w1.heap.size + 1) (M2 + 1) (manyF (allLinks a (S.take j) ++ linksP (rs.take (q + 1))))) := by
                    show MapIs _ _ _ _ _ _ _
                    rw [HST.out, ← List.append_assoc, manyF_snoc, ← hC, show ((C + 1 : Nat) : Int) = (C : Int) + 1 by omega]
                    exact hM211
                  have hB11 := hB10.grown hg11 (fun h => by injection h with h; omega)
                  have hS11 := hS10.grown hg11 (fun h => by injection h with h; omega)
                  have hM111 := hM110.kept hg11 (fun h => by injection h with h; omega)
                  have hC11 : Hid (w11.ownsRow w7.heap.size 3 1 (.slice A9 (k2 + 1) c9) (k2 + 1) ((linksP (rs.take (q + 1))).map (.int .i64)) ∧ k2 + 1 = (linksP (rs.take (q + 1))).length) := by
                    have h1 := own_grown hC10 hg11 (fun g hg h => by injection h with h; have := (hC10.lt g hg).1; omega)
                    have h2 := HCu.out.2
                    show _ ∧ _
                    rw [HST.out, List.map_append, List.length_append, ← h2]
                    exact ⟨h1, rfl⟩
                  have HO11 := Lib.hid (own_grown hO10 hg11 (fun g hg h => by injection h with h; have := (hO10.lt g hg).1; omega))
                  have HF11 := Lib.hid (hF10.grown hg11 (fun r h => by injection h with h; exact .inl (by omega)))
                  have hb11 := hb10.grown hg11 hb10.size (fun g hg => by injection hg with hg; omega)
                  have HP11 := Lib.hid (own_grown hP10 hg11 (fun g hg h => by injection h with h; have := (hP10.lt g hg).1; omega))
                  have HK10 := Lib.hid hK10
                  have HfI11 : Hid (upd f3 I (.slice A9 (k2 + 1) c9) I = some (.slice A9 (k2 + 1) c9)) := by show _ = _; unfold upd; rw [if_pos rfl]
                  have hs11 : w7.heap.size ≤ w11.heap.size := by have := hg10.size; have := hg11.size; omega
                  have HRun9 := Lib.hid hrun9
                  have HM2n : Hid (M2 + 1 = (allLinks a (S.take j) ++ linksP (rs.take (q + 1))).length) := by
                    have h1 := HM2.out
                    show _ = _
                    rw [HST.out]
                    simp only [List.length_append, List.length_singleton] at h1 ⊢
                    omega
                  have HM111 := Lib.hid hM111
                  have x1 := gB.cell 1
                  have x2 := gS.cell 0
                  have x3 := (gB.alloc (.cells #[.int .i64 z] 3)).cell 1
                  have x4 := (gS.alloc (.cells #[.int .i64 z] 3)).cell 0
                  have x5 := hB9.cell 1
                  have x6 := hS9.cell 0
                  have x7 := hB10.cell 1
                  have x8 := hB10.cell 2
                  have x9 := hS10.cell 0
                  simp only [List.getElem?_toArray, List.getElem?_cons_zero, List.getElem?_cons_succ] at x1 x2 x3 x4 x5 x6 x7 x8 x9
                  clear hlA hlB hB8 hS8 hM18 hM28 hC8 hO8 hF8 hb8 hP8 hcur hB9 hS9 hM19 hM29 hO9 hF9 hb9 hP9 hO9c hM110 hB10 hS10 hM210 hC10 hO10 hF10 hb10 hP10 hK10 hM211 hM111 hrun9 hg9 hg10 hg11 hst hv hC gM1 gM2 gB gS gb HCu HOr HFi HSp HKe HfI hz hlk
                  go_wp2
                  go_region_held3 (fun w' => w'.cell? ⟨w1.heap.size + 1 + 1, 1, none⟩ = some (.map (some w1.heap.size)) ∧ w'.cell? ⟨wb.heap.size, 0, none⟩ = some (.int .i64 I)) (go_keep)
                    (first | (refine step_append_run rfl (.tmp 89) (.tmp 93) 23 23 rfl (.slice Ac k2 cc) (.slice (some ⟨wr.heap.size, 0, none⟩) 1 1) (by simp [Act.eval, Act.put]) (by simp [Act.eval, Act.put]) HRun9.out ?_))
                  all_goals
                    go_wp2
                    go_roundw
                    case rel => exact ⟨q + 1, k2 + 1, c9, M1 + 1, M2 + 1, A9, upd f3 I (.slice A9 (k2 + 1) c9), hq1, by go_num, by omega, by omega, by omega, HM2n, hB11, hS11, HM111.out, HfI11, hM211'.out, hC11, HO11, HF11, HK10, hb11, HP11, hs11⟩
                    case measure => simp [intOf]; omega
              · have hqr : q = rr := by omega
                have hfull : rs.take q = rs := List.take_of_length_le (by rw [HRL.out]; omega)
                rw [hfull] at gM2 HCu
                have HF8 : Hid (FinR wr R0 wr.heap.size (Value.slice A5 (k + 1) c5).ownBlock a S f3 (begsL (S.take (j + 1)))) := by
                  show FinR _ _ _ _ _ _ _ _
                  rw [HQ8.out]
                  exact HFi.out.snoc gsz hR07 HfI.out (by rw [HLn.out]; exact HCu.out.1) (fun b hb => HOb.out b hb)
                have HA8 : Hid (allLinks a (S.take (j + 1)) = allLinks a (S.take j) ++ linksP rs) := by show _ = _; rw [HAL2.out, if_neg (by simp)]
                have HOf : Hid (wr.ownsRow R0 3 1 (.slice A5 (k + 1) c5) (k + 1) ((begsL (S.take (j + 1))).map (.int .i64)) ∧ k + 1 = (begsL (S.take (j + 1))).length) := by
                  show _ ∧ _
                  rw [HQ8.out, List.length_append, ← hHK.out]
                  exact ⟨HOr.out, rfl⟩
                have gM2' : Hid (MapIs wr Try.prog 3 .i64 (w1.heap.size + 1) M2 (manyF (allLinks a (S.take (j + 1))))) := by show MapIs _ _ _ _ _ _ _; rw [HA8.out]; exact gM2
                have g0 : decide (q < rr) = false := decide_eq_false hltq
                have HM2f : Hid (M2 = (allLinks a (S.take (j + 1))).length) := by
                  have := HM2.out
                  rw [hfull] at this
                  show _ = _
                  rw [HA8.out]
                  exact this
                have hM1c : M1 ≤ 257 * (j + 1) := by omega
                have hM2c : M2 ≤ 256 * (j + 1) := by omega
                clear hqr hfull HCu HOr HFi gM2
                go_wp2
                go_roundw
                case rel => exact ⟨j + 1, k + 1, c5, M1, M2, A5, f3, hj1, by go_num, by omega, hM1c, hM2c, HM2f, gB, gM1, gM2'.out, HOf, HF8, HKe, gb, HSp⟩
                case measure => simp [intOf]; omega
      · have hfree : ((I : Int), true) = ((I : Int), true) := rfl
        have HQ2 : Hid (begsL (S.take (j + 1)) = begsL (S.take j)) := by show _ = _; rw [HQ.out]; rfl
        have HA2 : Hid (allLinks a (S.take (j + 1)) = allLinks a (S.take j)) := by show _ = _; rw [HAL2.out, if_pos rfl, List.append_nil]
        have HF2 : Hid (FinR (wr.alloc (.cells #[.int .i64 I, .int .i64 rr, .int .i64 bb, .int .i64 t, .bool true] 65)) R0 (wr.alloc (.cells #[.int .i64 I, .int .i64 rr, .int .i64 bb, .int .i64 t, .bool true] 65)).heap.size (Value.slice Ao k co).ownBlock a S f1 (begsL (S.take j))) := HFx.out.mono (by rw [World.size_alloc]; omega)
        clear hfree hb
        go_wp2
        go_roundw
        case rel => exact ⟨j + 1, k, co, N1, N2, Ao, f1, hj1, by go_num, by omega, by omega, by omega, (by rw [HA2.out]; exact HN2), hBx, hM1x, by rw [HA2.out]; exact hM2x, (by rw [HQ2.out]; exact ⟨HOx.out, HO.out.2⟩), (by rw [HQ2.out]; exact HF2), (by rw [HQ2.out]; exact HKy), hbx, HRx⟩
        case measure => simp [intOf]; omega
    · have hjm : j = m := by omega
      have hfull : S.take j = S := by rw [hjm]; exact List.take_of_length_le (by rw [HM.out]; exact Nat.le_refl _)
      rw [hfull] at hM2 HO HF HKy HN2
      have g0 : decide (j < m) = false := decide_eq_false hlt
      have hN2b : N2 ≤ 65536 := by omega
      have hN1b : N1 ≤ 1000000 := by omega
      obtain ⟨wo, hwo⟩ : ∃ x, x = wr := ⟨wr, rfl⟩
      subst hwo
      have hM2' : Hid (MapIs wo Try.prog 3 .i64 (w1.heap.size + 1) N2 (manyF (allLinks a S ++ f.take 0))) := by show MapIs _ _ _ _ _ _ _; rw [List.take_zero, List.append_nil]; exact hM2
      have HN2' : Hid (N2 = (allLinks a S ++ f.take 0).length) := by show _ = _; rw [List.take_zero, List.append_nil]; exact HN2.out
      have HOx := Lib.hid HO.out.1
      have HKx := Lib.hid HO.out.2
      clear hjm hfull HRS HO hM2 HN2 hb02
      go_wp2
      go_loopw [15, 108] (fun _ i wr => ∃ (j N2 : Nat), j ≤ n2 ∧ i = .int .i64 j ∧ Hid (∀ x ∈ f.take j, x ∈ begsL S) ∧ Hid (N2 = (allLinks a S ++ f.take j).length) ∧ N2 ≤ 65536 + j ∧ Blk wr (w1.heap.size + 1 + 1) 51 #[.slice Ao k co, .map (some w1.heap.size), .map (some (w1.heap.size + 1))] ∧
        MapIs wr Try.prog 3 .i64 w1.heap.size N1 f1 ∧ MapIs wr Try.prog 3 .i64 (w1.heap.size + 1) N2 (manyF (allLinks a S ++ f.take j)) ∧ Hid (wr.ownsRow R0 3 1 (.slice Ao k co) k ((begsL S).map (.int .i64))) ∧ Hid (FinR wr R0 wr.heap.size (Value.slice Ao k co).ownBlock a S f1 (begsL S)) ∧ Below w.heap.size w wr) (fun _ i _ => n2 - (intOf i).toNat)
      case atStart => exact ⟨0, N2, Nat.zero_le _, rfl, by intro x hx; simp at hx, HN2', by omega, hBh, hM1, hM2'.out, HOx, HF, hb⟩
      case round =>
        obtain ⟨j2, M, hj2, rfl, HA, HMl, hMb, gB, gM1, gM2, gO, gF, gb⟩ := hrel
        have x1 := gB.cell 1
        have x2 := gB.cell 2
        simp only [List.getElem?_toArray, List.getElem?_cons_zero, List.getElem?_cons_succ] at x1 x2
        by_cases hlt2 : j2 < n2
        · obtain ⟨ad, x, rfl, had, hx, cx⟩ := (hr2.below gb).num hlt2
          have hwx := HX.out x (List.mem_of_getElem? hx)
          have hlook := gM1.look_ok (k := 3) (t := 48) Try.underlying3 Try.underlying48 (zero_ints _) hwx
          have hj3 : j2 + 1 ≤ n2 := hlt2
          have HT : Hid (f.take (j2 + 1) = f.take j2 ++ [x]) := by
            show _ = _
            obtain ⟨q1, q2⟩ := List.getElem?_eq_some_iff.1 hx
            rw [List.take_succ_eq_append_getElem q1, q2]
          by_cases hm : x ∈ begsL S
          · obtain ⟨Ax, mx, cx', e1, -, -⟩ := gF.out x hm
            rw [e1] at hlook
            have hlook2 : (Instr.lookup 48 (.map (some w1.heap.size)) (.int .i64 x) true).run Try.prog wr = .ok (.tuple #[.slice Ax mx cx', .bool true]) wr := hlook
            have hlC := gM2.look (k := 3) (t := 49) Try.underlying3 Try.underlying49 (zero_intv _) hwx
            rw [manyF_get] at hlC
            obtain ⟨C, hC⟩ : ∃ C, C = (allLinks a S ++ f.take j2).count x := ⟨_, rfl⟩
            rw [← hC] at hlC
            have hCb : C ≤ 1000000000000070000 := by have h1 := HMl.out; have h2 := List.count_le_length (a := x) (l := allLinks a S ++ f.take j2); omega
            have wC : IntKind.i64.wrap ((C : Int) + 1) = (C : Int) + 1 := IntWalk.i64_in _ (by omega)
            obtain ⟨w3, hupd, hM3, hg3⟩ := gM2.store (k := 3) (t := 49) Try.underlying3 Try.underlying49 (by unfold maxLen; omega) (x := x) hwx (.int .i64 ((C : Int) + 1))
            have hM3' : Hid (MapIs w3 Try.prog 3 .i64 (w1.heap.size + 1) (M + 1) (manyF (allLinks a S ++ f.take (j2 + 1)))) := by
              show MapIs _ _ _ _ _ _ _
              rw [HT.out, ← List.append_assoc, manyF_snoc, ← hC, show ((C + 1 : Nat) : Int) = (C : Int) + 1 by omega]
              exact hM3
            have hB3 := gB.grown hg3 (fun h => by injection h with h; omega)
            have hM13 := gM1.kept hg3 (fun h => by injection h with h; omega)
            have HO3 := Lib.hid (own_grown gO.out hg3 (fun g hg h => by injection h with h; have := (gO.out.lt g hg).1; omega))
            have HF3 : Hid (FinR w3 R0 w3.heap.size (Value.slice Ao k co).ownBlock a S f1 (begsL S)) := (gF.out.grown hg3 (fun r h => by injection h with h; exact .inl (by omega))).mono hg3.size
            have hb3 := gb.grown hg3 gb.size (fun g hg => by injection hg with hg; omega)
            have HA3 : Hid (∀ y ∈ f.take (j2 + 1), y ∈ begsL S) := by
              intro y hy
              rw [HT.out, List.mem_append] at hy
              rcases hy with hy | hy
              · exact HA.out y hy
              · simp only [List.mem_cons, List.not_mem_nil, or_false] at hy
                subst hy; exact hm
            have HMl3 : Hid (M + 1 = (allLinks a S ++ f.take (j2 + 1)).length) := by
              have h1 := HMl.out
              show _ = _
              rw [HT.out]
              simp only [List.length_append, List.length_singleton] at h1 ⊢
              omega
            have hMb3 : M + 1 ≤ 65536 + (j2 + 1) := by omega
            have HM13 := Lib.hid hM13
            clear hx hm e1 hlook hM3 hg3 gB gM1 gM2 gO gF gb HA HMl hM13 hC
            go_wp2
            go_roundw
            case rel => exact ⟨j2 + 1, M + 1, hj3, by go_num, HA3, HMl3, hMb3, hB3, HM13.out, hM3'.out, HO3, HF3, hb3⟩
            case measure => simp [intOf]; omega
          · have e1 : f1 x = none := by
              cases hh : f1 x with
              | none => rfl
              | some v => exact absurd ((HKy.out x).1 (by rw [hh]; rfl)) hm
            rw [e1] at hlook
            have hlook2 : (Instr.lookup 48 (.map (some w1.heap.size)) (.int .i64 x) true).run Try.prog wr = .ok (.tuple #[.slice none 0 0, .bool false]) wr := hlook
            have hex : ∃ x ∈ f, x ∉ begsL S := ⟨x, List.mem_of_getElem? hx, hm⟩
            have HEx := Lib.hid hex
            clear hx hm e1 hlook hex
            go_wp2
            go_ret2
            exact ⟨gb, .inr ⟨HEx.out, rfl⟩⟩
        · have hft : f.take j2 = f := List.take_of_length_le (by rw [HFL.out]; omega)
          rw [hft] at HA HMl gM2
          have g2 : decide (j2 < n2) = false := decide_eq_false hlt2
          have HC : Hid (CounterIs wr w.heap.size (w1.heap.size + 1 + 1) a S (allLinks a S ++ f)) := by
            refine ⟨w1.heap.size, w1.heap.size + 1, R0, N1, M, Ao, k, co, f1, gB, by omega, by omega, by omega, by omega, by omega, by omega, by omega, by omega, gM1, gM2, hN1b, ?_, HKx.out, gO.out, HKy.out, gF.out⟩
            have h1 := HMl.out
            simp only [List.length_append] at h1 ⊢
            omega
          clear hft HMl gM2 gF gO
          go_wp2
          go_ret2
          exact ⟨gb, .inl ⟨HA.out, _, rfl, HC.out⟩⟩
end Go.Proofs.Ytjpleagcdncbfaa
