/-
  Texts joined: Arena2 Check Word Base2 Object IndexSpot At.
-/
import Derived.Test.YtgkoaambdejkdaaRows
import Derived.Test.YtgkoaambdejkdaaG0
namespace Go.Proofs.Ytgkoaambdejkdaa
open Go.RowKit
structure SpotOk (a : List Int) (s : Spot) : Prop where
  loc0 : 0 ≤ s.loc
  r0 : 0 ≤ s.r
  b0 : 0 ≤ s.b
  t0 : 0 ≤ s.t
  t1 : s.t ≤ 65535
  fits : s.loc + s.long ≤ a.length
  free : s.f = true → s.r = 0 ∧ s.t = 0
  word : a[s.loc.toNat]? = some (wordOf s.r s.b s.t s.f)
  head : headE s.r s.b s.t s.f = 0
  fit256 : s.long ≤ 256
theorem readOk_word {v : Int} (h : readOk v) : wordOf (rdR v) (rdB v) (rdT v) (rdF v) = v := by
  obtain ⟨hz, hE⟩ := h
  unfold wordOf rdF
  have h2 : v / 281474976710656 % 2 = v / 281474976710656 := by omega
  have h3 : v / 281474976710656 = 0 ∨ v / 281474976710656 = 1 := by omega
  unfold rdR rdB rdT
  rcases h3 with h3 | h3
  · rw [h3]; simp; omega
  · rw [h3]; simp; omega
theorem spotOk_of {a : List Int} {j : Nat} (h : j < a.length) (h1 : readOk (a.getD j 0)) (h2 : j + hlen (a.getD j 0) ≤ a.length) : SpotOk a (spotOf j (a.getD j 0)) := by
  have hE := headE_ok.1 h1.2
  have hl : hlen (a.getD j 0) = 1 + rdR (a.getD j 0) + rdB (a.getD j 0) := by unfold hlen; omega
  refine ⟨?_, hE.1, hE.2.2.1, hE.2.2.2.2.1, hE.2.2.2.2.2.1, ?_, hE.2.2.2.2.2.2.2, ?_, h1.2, ?_⟩
  · simp [spotOf]
  · simp only [spotOf, Spot.long]; omega
  · simp only [spotOf, Int.toNat_natCast]
    rw [readOk_word h1, List.getElem?_eq_getElem h]
    simp [h]
  · simp only [spotOf, Spot.long]; omega
theorem parse_mem {a : List Int} : ∀ {l : List Spot} {i : Nat}, Parse a i l → ∀ s ∈ l, SpotOk a s ∧ (i : Int) ≤ s.loc := by
  intro l
  induction l with
  | nil => intro i _ s hs; cases hs
  | cons x l ih =>
    rintro i ⟨h1, h2, rfl, h4, h5⟩ s hs
    rcases List.mem_cons.1 hs with rfl | hs
    · exact ⟨spotOk_of h1 h2 h4, by simp [spotOf]⟩
    · have := ih h5 s hs
      have := hlen_pos h2
      exact ⟨(ih h5 s hs).1, by omega⟩
theorem parse_order {a : List Int} : ∀ {l : List Spot} {i : Nat}, Parse a i l → l.Pairwise (fun s t => s.loc + s.long ≤ t.loc) := by
  intro l
  induction l with
  | nil => intro i _; exact List.Pairwise.nil
  | cons x l ih =>
    rintro i ⟨h1, h2, rfl, h4, h5⟩
    refine List.pairwise_cons.2 ⟨fun s hs => ?_, ih h5⟩
    have hE := headE_ok.1 h2.2
    have := (parse_mem h5 s hs).2
    have hl : hlen (a.getD i 0) = 1 + rdR (a.getD i 0) + rdB (a.getD i 0) := by unfold hlen; omega
    simp only [spotOf, Spot.long]
    omega
theorem spots_rise {a : List Int} (h : spotsE a = 0) : (spotsL a).Pairwise (fun s t => s.loc < t.loc) := by
  have hp := (parse_ok h).2
  refine (parse_order hp).imp_of_mem (fun {s t} hs _ hst => ?_)
  have := (parse_mem hp s hs).1
  have := this.r0
  have := (parse_mem hp s hs).1.b0
  unfold Spot.long at hst
  omega
def isPlace (v : Int) (s : Spot) : Bool := !s.f && (s.loc + 1 == v)
def placeF (l : List Spot) (v : Int) : Option Int := if v = 0 then some (-1) else (l.findIdx? (isPlace v)).map (fun (i : Nat) => (i : Int))
def placeV (l : List Spot) : Int → Option Value := fun v => (placeF l v).map (.int .i64)
theorem placeV_nil : placeV [] = upd (fun _ => none) 0 (.int .i64 (-1)) := by
  funext v
  simp only [placeV, placeF, upd]
  by_cases h : v = 0 <;> simp [h]
theorem placeV_free {l : List Spot} {s : Spot} (h : s.f = true) : placeV (l ++ [s]) = placeV l := by
  funext v
  simp only [placeV, placeF]
  by_cases hv : v = 0
  · simp [hv]
  · rw [if_neg hv, if_neg hv, List.findIdx?_append]
    have : List.findIdx? (isPlace v) [s] = none := by
      rw [List.findIdx?_eq_none_iff]
      intro x hx
      obtain rfl := List.mem_singleton.1 hx
      simp [isPlace, h]
    rw [this]
    simp
theorem placeV_snoc {l : List Spot} {s : Spot} (h : s.f = false) (h0 : 0 ≤ s.loc) (hl : ∀ x ∈ l, x.loc < s.loc) : placeV (l ++ [s]) = upd (placeV l) (s.loc + 1) (.int .i64 l.length) := by
  funext v
  simp only [placeV, placeF, upd]
  by_cases hv : v = 0
  · rw [if_pos hv, if_pos hv, if_neg (by omega)]
  · rw [if_neg hv, if_neg hv, List.findIdx?_append]
    by_cases hs : v = s.loc + 1
    · rw [if_pos hs]
      have h1 : l.findIdx? (isPlace v) = none := by
        rw [List.findIdx?_eq_none_iff]
        intro x hx
        have := hl x hx
        simp [isPlace]
        omega
      have h2 : List.findIdx? (isPlace v) [s] = some 0 := by
        simp [List.findIdx?_cons, isPlace, h, hs]
      rw [h1, h2]
      simp
    · rw [if_neg hs]
      have h2 : List.findIdx? (isPlace v) [s] = none := by
        rw [List.findIdx?_eq_none_iff]
        intro x hx
        obtain rfl := List.mem_singleton.1 hx
        simp [isPlace]
        omega
      rw [h2]
      simp
def refsOf (a : List Int) (s : Spot) : List Int := (a.drop (s.loc.toNat + 1)).take s.r.toNat
def bodyOf (a : List Int) (s : Spot) : List Int := (a.drop (s.loc.toNat + 1 + s.r.toNat)).take s.b.toNat
def refsOk (l : List Spot) (a : List Int) : Bool := l.all fun s => (refsOf a s).all fun v => (placeF l v).isSome
def checkE (a : List Int) : Int := if spotsE a ≠ 0 then spotsE a else if refsOk (spotsL a) a = true then 0 else 5
theorem checkE_ok {a : List Int} : checkE a = 0 ↔ spotsE a = 0 ∧ refsOk (spotsL a) a = true := by
  unfold checkE
  split
  · rename_i h; exact ⟨fun h2 => absurd h2 h, fun h2 => absurd h2.1 h⟩
  · rename_i h
    split
    · rename_i h2; exact ⟨fun _ => ⟨by simpa using h, h2⟩, fun _ => rfl⟩
    · rename_i h2; exact ⟨(fun h3 => by cases h3), fun h3 => absurd h3.2 h2⟩
theorem checkE_cases (a : List Int) : checkE a = 0 ∨ checkE a = 2 ∨ checkE a = 3 ∨ checkE a = 5 := by
  unfold checkE
  split
  · rename_i h; rcases spotsE_cases a with h' | h' | h'
    · exact absurd h' h
    · exact .inr (.inl h')
    · exact .inr (.inr (.inl h'))
  · split
    · exact .inl rfl
    · exact .inr (.inr (.inr rfl))
theorem refsOf_length {a : List Int} {s : Spot} (h : SpotOk a s) : (refsOf a s).length = s.r.toNat := by
  have h1 := h.loc0
  have h2 := h.r0
  have h3 := h.b0
  have h4 := h.fits
  unfold Spot.long at h4
  unfold refsOf
  rw [List.length_take, List.length_drop]
  omega
theorem bodyOf_length {a : List Int} {s : Spot} (h : SpotOk a s) : (bodyOf a s).length = s.b.toNat := by
  have h1 := h.loc0
  have h2 := h.r0
  have h3 := h.b0
  have h4 := h.fits
  unfold Spot.long at h4
  unfold bodyOf
  rw [List.length_take, List.length_drop]
  omega
theorem Reads.sub {w : World} {B : Nat} {A : Option Addr} {n c lo hi : Nat} {xs : List Value} (h : Reads w B 1 A n xs) (h1 : lo ≤ hi) (h2 : hi ≤ n) (h3 : n ≤ c) :
    Reads w B 1 (if c = lo then A else A.map (·.add lo)) (hi - lo) ((xs.drop lo).take (hi - lo)) := by
  have hc := h.cut (k := lo) (cap := c) (by omega) h3
  rw [Nat.mul_one] at hc
  refine ⟨by rw [List.length_take, List.length_drop, h.1]; omega, fun hk0 => ?_⟩
  obtain ⟨ad, e, hb, hcell⟩ := hc.2 (by omega)
  refine ⟨ad, e, hb, fun j u hu => hcell j u ?_⟩
  rw [List.getElem?_take] at hu
  split at hu
  · exact hu
  · cases hu
end Go.Proofs.Ytgkoaambdejkdaa

namespace Go.Proofs.Ytgkoaambdejkdaa
open Go.RowKit
def spotV (s : Spot) : Value := .agg #[.int .i64 s.loc, .int .i64 s.r, .int .i64 s.b, .int .i64 s.t, .bool s.f]
set_option maxHeartbeats 400000 in
theorem refs_any (A : Option Addr) (n c B : Nat) (a : List Int) (s : Spot) (w : World) (hr : Reads w B 1 A n (a.map (.int .u64))) (hB : B ≤ w.heap.size) (hc : n ≤ c) (hn : n ≤ 256) (hs : SpotOk a s) :
    Calls Try.prog 86 #[.slice A n c, .agg #[.int .i64 s.loc, .int .i64 s.r, .int .i64 s.b, .int .i64 s.t, .bool s.f]] w fun e w' => Below w.heap.size w w' ∧ ∃ A' c', e = .returned (.slice A' s.r.toNat c') ∧ s.r.toNat ≤ c' ∧ Reads w' B 1 A' s.r.toNat ((refsOf a s).map (.int .u64)) := by
  have hal : a.length = n := by have := hr.1; simpa using this
  have l0 := hs.loc0
  have r0 := hs.r0
  have b0 := hs.b0
  have ft := hs.fits
  clear hs
  obtain ⟨loc, r, b, t, f⟩ := s
  simp only [Spot.long] at ft l0 r0 b0 ⊢
  obtain ⟨i, rfl⟩ := Int.eq_ofNat_of_zero_le l0
  obtain ⟨k, rfl⟩ := Int.eq_ofNat_of_zero_le r0
  rw [hal] at ft
  have HS := Lib.hid (hr.sub (lo := i + 1) (hi := i + 1 + k) (by omega) (by omega) hc)
  have hpos : 0 < n := by omega
  obtain ⟨ad, rfl, had, -⟩ := hr.2 hpos
  rw [Int.toNat_natCast]
  have ek : ∀ (A : Option Addr) (c : Nat), Ending.returned (.slice A (i + 1 + k - (i + 1)) c) = .returned (.slice A k c) := fun A c => by rw [show i + 1 + k - (i + 1) = k by omega]
  have EK := Lib.hid ek
  clear ek
  have HR : Hid ((refsOf a ⟨i, k, b, t, f⟩).map (Value.int .u64) = ((a.map (Value.int .u64)).drop (i + 1)).take (i + 1 + k - (i + 1))) := by
    show _ = _
    simp only [refsOf, Int.toNat_natCast, List.map_take, List.map_drop]
    rw [show i + 1 + k - (i + 1) = k by omega]
  have h1 : i + 1 + k ≤ n := by omega
  clear hal hr l0 r0
  by_cases hci : c = i + 1
  · have HS := HS.out
    rw [if_pos hci, ← HR.out, show i + 1 + k - (i + 1) = k by omega] at HS
    have HS := Lib.hid (HS.alloc hB (.cells #[.int .i64 i, .int .i64 k, .int .i64 b, .int .i64 t, .bool f] 89))
    go_enter Try.func86, Try.ntmps86
    go_wp2
    go_ret
    exact ⟨below_new _ _, _, _, EK.out _ _, by omega, HS.out⟩
  · have HS := HS.out
    rw [if_neg hci, ← HR.out, show i + 1 + k - (i + 1) = k by omega] at HS
    have HS := Lib.hid (HS.alloc hB (.cells #[.int .i64 i, .int .i64 k, .int .i64 b, .int .i64 t, .bool f] 89))
    go_enter Try.func86, Try.ntmps86
    go_wp2
    go_ret
    exact ⟨below_new _ _, _, _, EK.out _ _, by omega, HS.out⟩
theorem underlying_u64 : Try.prog.underlying 43 = some (.int .u64) := Try.underlying43
theorem zero_int (w : World) : (zeroValue 3).run Try.prog w = .ok (.int .i64 0) w := by kernel_rfl
set_option maxRecDepth 100000 in
set_option maxHeartbeats 1000000 in
theorem places_any (A : Option Addr) (n c : Nat) (l : List Spot) (w : World) (hr : Reads w w.heap.size 5 A n (spotsC l)) (hn : n ≤ 256) (hl : l.Pairwise (fun s t => s.loc < t.loc)) (hb : ∀ s ∈ l, 0 ≤ s.loc ∧ s.loc ≤ 256) :
    Calls Try.prog 85 #[.slice A n c] w fun e w' => Below w.heap.size w w' ∧ ∃ b, e = .returned (.map (some b)) ∧ w.heap.size ≤ b ∧ MapIs w' Try.prog 43 .u64 b 300 (placeV l) := by
  have hll : l.length = n := by have := hr.1; rw [spotsC_length] at this; omega
  have HL := Lib.hid hll
  have HO := Lib.hid hl
  have HB := Lib.hid hb
  clear hll hl hb
  obtain ⟨w1, hins, hM, hg1⟩ := (MapIs.made w Try.prog 43 .u64).store (k := 43) (t := 112) Try.underlying43 Try.underlying112 (by decide) (x := 0) (by decide) (.int .i64 (-1))
  rw [← placeV_nil] at hM
  have hb1 : Below w.heap.size w w1 := (below_new w _).grown hg1 (by simp) (by simp)
  have HM := Lib.hid (hM.mono (show 0 + 1 ≤ 1 by omega))
  clear hM
  have hmm := @run_makeMap Try.prog
  go_enter Try.func85, Try.ntmps85
  go_wp2
  clear hins
  go_loopw [4, 5, 10] (fun _ _ i wr => ∃ j : Nat, j ≤ n ∧ i = .int .i64 j ∧ MapIs wr Try.prog 43 .u64 w.heap.size (j + 1) (placeV (l.take j)) ∧ Below w.heap.size w wr) (fun _ _ i _ => n - (intOf i).toNat)
  case atStart => exact ⟨0, Nat.zero_le _, rfl, HM.out, hb1⟩
  case round =>
    obtain ⟨j, hj, rfl, hM, hb⟩ := hrel
    by_cases hlt : j < n
    · obtain ⟨ad, s, rfl, had, hs, c0, c1, c2, c3, c4⟩ := (hr.below hb).spot hlt
      have hq := HB.out s (List.mem_of_getElem? hs)
      have HT : Hid (l.take (j + 1) = l.take j ++ [s]) := by
        show _ = _
        obtain ⟨h1, rfl⟩ := List.getElem?_eq_some_iff.1 hs
        exact List.take_succ_eq_append_getElem h1
      have HJ : Hid (∀ x ∈ l.take j, x.loc < s.loc) := by
        intro x hx
        rw [List.mem_take_iff_getElem] at hx
        obtain ⟨k, hk, rfl⟩ := hx
        obtain ⟨h1, rfl⟩ := List.getElem?_eq_some_iff.1 hs
        exact List.pairwise_iff_getElem.1 HO.out k j (by omega) h1 (by omega)
      obtain ⟨loc, r, b, t, f⟩ := s
      dsimp only at c0 c1 c2 c3 c4 hq
      have hM0 := hM.alloc (.cells #[.int .i64 loc, .int .i64 r, .int .i64 b, .int .i64 t, .bool f] 89)
      have hb0 := hb.alloc hb.size (.cells #[.int .i64 loc, .int .i64 r, .int .i64 b, .int .i64 t, .bool f] 89)
      clear hM hs
      cases f
      · have hlen : (l.take j).length = j := by rw [List.length_take, HL.out]; omega
        have hP := placeV_snoc (l := l.take j) (s := ⟨loc, r, b, t, false⟩) rfl hq.1 HJ.out
        rw [← HT.out, hlen] at hP
        obtain ⟨w2, hupd, hM2, hg2⟩ := hM0.store (k := 43) (t := 112) Try.underlying43 Try.underlying112 (by unfold maxLen; omega) (x := loc + 1) (by simp [Lit.wf, IntKind.min, IntKind.max, IntKind.signed, IntKind.bits]; omega) (.int .i64 j)
        rw [← hP] at hM2
        have HM2 := Lib.hid hM2
        have hb2 := hb0.grown hg2 hb0.size (by simp)
        clear hP hlen hM2 hM0 hb0
        obtain ⟨q0, q1⟩ := hq
        go_wp2
        go_roundw
        case rel => exact ⟨j + 1, by omega, by go_num, HM2.out, hb2⟩
        case measure => simp [intOf]; omega
      · have HP : Hid (placeV (l.take (j + 1)) = placeV (l.take j)) := by show _ = _; rw [HT.out]; exact placeV_free rfl
        go_wp2
        go_roundw
        case rel => exact ⟨j + 1, by omega, by go_num, by rw [HP.out]; exact hM0.mono (by omega), hb0⟩
        case measure => simp [intOf]; omega
    · have hjn : j = n := by omega
      subst hjn
      rw [List.take_of_length_le (by rw [HL.out]; exact Nat.le_refl _)] at hM
      go_wp2
      go_ret
      exact ⟨hb, _, rfl, Nat.le_refl _, hM.mono (by omega)⟩
theorem spots_bounds {a : List Int} (h : spotsE a = 0) : ∀ s ∈ spotsL a, 0 ≤ s.loc ∧ s.loc ≤ 256 := by
  intro s hs
  obtain ⟨hlen, hp⟩ := parse_ok h
  have := (parse_mem hp s hs).1
  have h1 := this.loc0
  have h2 := this.fits
  have h3 := this.r0
  have h4 := this.b0
  unfold Spot.long at h2
  omega
set_option maxHeartbeats 400000 in
theorem check_bad0 (A : Option Addr) (n c : Nat) (a : List Int) (w : World) (hr : Reads w w.heap.size 1 A n (a.map (.int .u64))) (ha : ∀ x ∈ a, (Lit.int .u64 x).wf = true) (hE : spotsE a ≠ 0) :
    Calls Try.prog 63 #[.slice A n c] w fun e w' => e = .returned (.tuple #[.slice none 0 0, .map none, .int .i64 (checkE a)]) ∧ Below w.heap.size w w' := by
  have H := fun w hr => spots_any A n c a w hr ha
  rw [spotsL_bad hE] at H
  have HH := Lib.hid H
  have hc : checkE a = spotsE a := by unfold checkE; rw [if_pos hE]
  rw [hc]
  clear H hc
  generalize spotsE a = E at *
  have hE1 : (E != 0) = true := by simpa using hE
  go_enter Try.func63, Try.ntmps63
  go_wp2_with (go_at_call 47; refine (HH.out _ hr).mono ?_; rintro e w2 ⟨hb2, A', c', rfl, -⟩)
  go_ret3
  exact ⟨rfl, hb2⟩
set_option maxRecDepth 100000 in
set_option maxHeartbeats 1000000 in
theorem check_parse (A : Option Addr) (n c : Nat) (a : List Int) (w : World) (hr : Reads w w.heap.size 1 A n (a.map (.int .u64))) (hnc : n ≤ c) (ha : ∀ x ∈ a, (Lit.int .u64 x).wf = true) (hE : spotsE a = 0) :
    Calls Try.prog 63 #[.slice A n c] w fun e w' => Below w.heap.size w w' ∧ ((refsOk (spotsL a) a = false ∧ e = .returned (.tuple #[.slice none 0 0, .map none, .int .i64 5])) ∨
      (refsOk (spotsL a) a = true ∧ ∃ A' c' b, e = .returned (.tuple #[.slice A' (spotsL a).length c', .map (some b), .int .i64 0]) ∧ w.heap.size ≤ b ∧ w'.ownsRow w.heap.size 89 5 (.slice A' (spotsL a).length c') (spotsL a).length (spotsC (spotsL a)) ∧ MapIs w' Try.prog 43 .u64 b 300 (placeV (spotsL a)))) := by
  have H := fun w hr => spots_any A n c a w hr ha
  obtain ⟨hlen, hP⟩ := parse_ok hE
  have hrise := spots_rise hE
  have hbnd := spots_bounds hE
  rw [hE] at H
  have HH := Lib.hid H
  have hal : a.length = n := by have := hr.1; simpa using this
  have hn : n ≤ 256 := by omega
  have hm256 := spotsL_length a
  generalize spotsL a = l at *
  have HS := Lib.hid (fun s hs => (parse_mem hP s hs).1)
  have HPl := Lib.hid (fun A n c w hr hn => places_any A n c l w hr hn hrise hbnd)
  clear H hP hE hal hlen hrise hbnd
  go_enter Try.func63, Try.ntmps63
  go_wp2_with (go_at_call 47; refine (HH.out _ hr).mono ?_; rintro e w1 ⟨hb1, A', c', rfl, hown⟩)
  have hrl := Reads.of_own hown
  obtain ⟨m, hm⟩ : ∃ m, m = l.length := ⟨_, rfl⟩
  rw [← hm] at hrl hm256 hown
  rw [← hm]
  have HM := Lib.hid hm
  clear hm
  go_wp2_with fail
  refine (HPl.out _ _ _ _ hrl hm256).mono ?_
  rintro e w2 ⟨hb2, b, rfl, hbb, hMp⟩
  have hown2 := own_below hown hb2
  have hrl2 := (hrl.below hb2).more hb2.size
  have hb02 := below_step hb1 hb2
  have hbw : w.heap.size ≤ b := Nat.le_trans hb1.size hbb
  have hblt := hMp.lt
  clear hown hrl hb1 hb2 hbb
  go_wp2
  go_loopw [26] (fun i wr => ∃ j : Nat, j ≤ m ∧ i = .int .i64 j ∧ Below w2.heap.size w2 wr ∧ Hid (∀ s ∈ l.take j, (refsOf a s).all (fun v => (placeF l v).isSome) = true)) (fun i _ => m - (intOf i).toNat)
  case atStart => exact ⟨0, Nat.zero_le _, rfl, Below.refl _ _, by intro s hs; simp at hs⟩
  case round =>
    obtain ⟨j, hj, rfl, hb, hD⟩ := hrel
    by_cases hlt : j < m
    · obtain ⟨ad, s, rfl, had, hs, c0, c1, c2, c3, c4⟩ := (hrl2.below hb).spot hlt
      have hok := HS.out s (List.mem_of_getElem? hs)
      have hbw2 := hb02.trans (hb.mono hb02.size)
      have HT : Hid (l.take (j + 1) = l.take j ++ [s]) := by
        show _ = _
        obtain ⟨h1, rfl⟩ := List.getElem?_eq_some_iff.1 hs
        exact List.take_succ_eq_append_getElem h1
      have HSM : Hid (s ∈ l) := List.mem_of_getElem? hs
      have hb0 := hb.alloc hb.size (.cells (spotC s).toArray 89)
      have hbw0 := hbw2.alloc hbw2.size (.cells (spotC s).toArray 89)
      have HR := Lib.hid (refs_any A n c _ a s _ ((hr.below hbw0).more hbw0.size) (Nat.le_refl _) hnc hn hok)
      have hr0 := hok.r0
      have HF := Lib.hid (refsOf_length hok)
      have hr256 : s.r.toNat ≤ 256 := by have h1 := hok.fit256; unfold Spot.long at h1; have := hok.b0; omega
      clear hs hok hb hbw2
      have HRef : Hid (∃ rs, rs = refsOf a s) := ⟨_, rfl⟩
      go_wp2_with fail
      refine HR.out.mono ?_
      rintro e w3 ⟨hb3, A3, c3, rfl, hc3, hrr⟩
      have hb13 := hb0.trans (hb3.mono hb0.size)
      obtain ⟨q, hq⟩ : ∃ q, q = s.r.toNat := ⟨_, rfl⟩
      rw [← hq] at hrr hr256 hc3
      rw [← hq]
      have HQ := Lib.hid hq
      obtain ⟨rs, hrs⟩ : ∃ rs, rs = refsOf a s := ⟨_, rfl⟩
      rw [← hrs] at hrr
      have HRS := Lib.hid hrs
      have hrr' := hrr.more hb3.size
      have hb03 := hbw0.trans (hb3.mono hbw0.size)
      have hMr := hMp.below hb13 hblt
      have hbl3 : b < w3.heap.size := hMr.lt
      obtain ⟨wo, rfl⟩ : ∃ wo : World, wo = wr := ⟨_, rfl⟩
      clear hb0 hbw0 hb3 hrr hq hrs hr0
      go_wp2
      go_loopw [11, 34] (fun _ i wr => ∃ p : Nat, p ≤ q ∧ i = .int .i64 p ∧ Below w3.heap.size w3 wr ∧ Hid (∀ v ∈ rs.take p, (placeF l v).isSome = true)) (fun _ i _ => q - (intOf i).toNat)
      case atStart => exact ⟨0, Nat.zero_le _, rfl, Below.refl _ _, by intro s hs; simp at hs⟩
      case round =>
        obtain ⟨p, hp, rfl, hb, hD2⟩ := hrel
        by_cases hlt2 : p < q
        · obtain ⟨ad3, v, rfl, had3, hv, hc⟩ := (hrr'.below hb).num hlt2
          have hvm : v ∈ a := by
            have := List.mem_of_getElem? hv
            rw [HRS.out] at this
            unfold refsOf at this
            exact List.mem_of_mem_drop (List.mem_of_mem_take this)
          have hvw := ha v hvm
          have hlook := (hMr.below hb hbl3).look_ok Try.underlying43 Try.underlying112 (zero_int _) hvw
          have hpv : (placeV l v).isSome = (placeF l v).isSome := by unfold placeV; rw [Option.isSome_map]
          rw [hpv] at hlook
          have HV := Lib.hid hv
          clear hv hvm hvw hpv
          generalize hgd : (placeV l v).getD (.int .i64 0) = gd at hlook
          clear hgd
          cases hsome : (placeF l v).isSome
          · rw [hsome] at hlook
            have HSo := Lib.hid hsome
            clear hsome
            go_wp2
            go_ret3
            refine ⟨hb03.trans (hb.mono hb03.size), .inl ⟨?_, rfl⟩⟩
            unfold refsOk
            rw [List.all_eq_false]
            refine ⟨s, HSM.out, ?_⟩
            rw [Bool.not_eq_true, List.all_eq_false]
            exact ⟨v, by rw [← HRS.out]; exact List.mem_of_getElem? HV.out, by rw [HSo.out]; decide⟩
          · rw [hsome] at hlook
            have HSo := Lib.hid hsome
            clear hsome
            go_wp2
            go_roundw
            case rel => exact ⟨p + 1, by omega, by go_num, hb, fun x hx => by
              rcases take_succ_mem HV.out x hx with h | rfl
              · exact hD2.out x h
              · exact HSo.out⟩
            case measure => simp [intOf]; omega
        · have hpq : p = q := by omega
          subst hpq
          have HA : Hid (∀ x ∈ l.take (j + 1), (refsOf a x).all (fun v => (placeF l v).isSome) = true) := by
            intro x hx
            rw [HT.out, List.mem_append, List.mem_singleton] at hx
            rcases hx with hx | rfl
            · exact hD.out x hx
            · rw [List.all_eq_true]
              intro v hv
              refine hD2.out v ?_
              rw [← HRS.out] at hv
              rw [List.take_of_length_le (by rw [HRS.out, HF.out, ← HQ.out]; exact Nat.le_refl _)]
              exact hv
          have hb15 := hb13.trans (hb.mono hb13.size)
          clear hD2 hb
          go_wp2
          go_roundw
          case rel => exact ⟨j + 1, by omega, by go_num, hb15, HA⟩
          case measure => simp [intOf]; omega
    · have hjm : j = m := by omega
      subst hjm
      have HA : Hid (refsOk l a = true) := by
        show _ = _
        unfold refsOk
        rw [List.all_eq_true]
        intro s hs
        exact hD.out s (by rw [List.take_of_length_le (by rw [← HM.out]; exact Nat.le_refl _)]; exact hs)
      have hown3 := own_below hown2 hb
      have hM3 := hMp.below hb hblt
      clear hD
      go_wp2
      go_ret3
      have e := HM.out
      subst e
      exact ⟨hb02.trans (hb.mono hb02.size), .inr ⟨HA.out, A', c', b, rfl, hbw, hown3, hM3⟩⟩
theorem refsOk_false {a : List Int} (h0 : spotsE a = 0) (h : refsOk (spotsL a) a = false) : checkE a = 5 := by
  unfold checkE
  rw [if_neg (by simp [h0]), if_neg (by simp [h])]
theorem refsOk_true {a : List Int} (h0 : spotsE a = 0) (h : refsOk (spotsL a) a = true) : checkE a = 0 := checkE_ok.2 ⟨h0, h⟩
theorem check_bad (A : Option Addr) (n c : Nat) (a : List Int) (w : World) (hr : Reads w w.heap.size 1 A n (a.map (.int .u64))) (hnc : n ≤ c) (ha : ∀ x ∈ a, (Lit.int .u64 x).wf = true) (hE : checkE a ≠ 0) :
    Calls Try.prog 63 #[.slice A n c] w fun e w' => e = .returned (.tuple #[.slice none 0 0, .map none, .int .i64 (checkE a)]) ∧ Below w.heap.size w w' := by
  by_cases h0 : spotsE a = 0
  · refine (check_parse A n c a w hr hnc ha h0).mono ?_
    rintro e w' ⟨hb, ⟨h1, h2⟩ | ⟨h1, _⟩⟩
    · rw [refsOk_false h0 h1]
      exact ⟨h2, hb⟩
    · exact absurd (refsOk_true h0 h1) hE
  · exact check_bad0 A n c a w hr ha h0
theorem check_ok (A : Option Addr) (n c : Nat) (a : List Int) (w : World) (hr : Reads w w.heap.size 1 A n (a.map (.int .u64))) (hnc : n ≤ c) (ha : ∀ x ∈ a, (Lit.int .u64 x).wf = true) (hE : checkE a = 0) :
    Calls Try.prog 63 #[.slice A n c] w fun e w' => Below w.heap.size w w' ∧ ∃ A' c' b, e = .returned (.tuple #[.slice A' (spotsL a).length c', .map (some b), .int .i64 0]) ∧ w.heap.size ≤ b ∧ w'.ownsRow w.heap.size 89 5 (.slice A' (spotsL a).length c') (spotsL a).length (spotsC (spotsL a)) ∧ MapIs w' Try.prog 43 .u64 b 300 (placeV (spotsL a)) := by
  obtain ⟨h0, h1⟩ := checkE_ok.1 hE
  refine (check_parse A n c a w hr hnc ha h0).mono ?_
  rintro e w' ⟨hb, ⟨h2, _⟩ | ⟨_, h2⟩⟩
  · rw [h1] at h2; cases h2
  · exact ⟨hb, h2⟩
set_option maxHeartbeats 400000 in
theorem checkFn_any (A : Option Addr) (n c : Nat) (a : List Int) (w : World) (hr : Reads w w.heap.size 1 A n (a.map (.int .u64))) (hnc : n ≤ c) (ha : ∀ x ∈ a, (Lit.int .u64 x).wf = true) :
    Calls Try.prog 43 #[.slice A n c] w fun e w' => e = .returned (.int .i64 (checkE a)) ∧ Below w.heap.size w w' := by
  by_cases hE : checkE a = 0
  · have H := Lib.hid (check_ok A n c a w hr hnc ha hE)
    rw [hE]
    clear hE
    go_enter Try.func43, Try.ntmps43
    go_wp2_with fail
    refine H.out.mono ?_
    rintro e w1 ⟨hb, A', c', b, rfl, -, -, -⟩
    go_wp2
    go_ret
    exact ⟨rfl, hb⟩
  · have H := Lib.hid (check_bad A n c a w hr hnc ha hE)
    generalize checkE a = E at *
    clear hE
    go_enter Try.func43, Try.ntmps43
    go_wp2_with fail
    refine H.out.mono ?_
    rintro e w1 ⟨rfl, hb⟩
    go_wp2
    go_ret
    exact ⟨rfl, hb⟩
end Go.Proofs.Ytgkoaambdejkdaa

namespace Go.Proofs.Ytgkoaambdejkdaa
open Go.RowKit
def stretchF (len n : Int) : List Int → Int
  | [] => 0
  | k :: r => if n < 0 ∨ k < 0 ∨ len < k ∨ len - k < n then 4 else stretchF len n r
set_option maxHeartbeats 400000 in
theorem stretches_big (A : Option Addr) (n c : Nat) (k : Int) (v : Value) (w : World) (hn : 256 < n) :
    Calls Try.prog 84 #[.slice A n c, .int .i64 k, v] w fun e w' => e = .returned (.int .i64 2) ∧ w = w' := by
  go_enter Try.func84, Try.ntmps84
  go_wp2
  go_ret
  exact ⟨rfl, rfl⟩
set_option maxHeartbeats 400000 in
theorem stretches_any (A : Option Addr) (n c : Nat) (k : Int) (B : Nat) (A2 : Option Addr) (m c2 : Nat) (ats : List Int) (w : World) (hn : n ≤ 256) (hm : m ≤ 1000) (hr : Reads w B 1 A2 m (ats.map (.int .i64)))
    (hk : -9223372036854775808 ≤ k ∧ k ≤ 9223372036854775807) (ha : ∀ x ∈ ats, -9223372036854775808 ≤ x ∧ x ≤ 9223372036854775807) :
    Calls Try.prog 84 #[.slice A n c, .int .i64 k, .slice A2 m c2] w fun e w' => e = .returned (.int .i64 (stretchF n k ats)) ∧ w = w' := by
  go_enter Try.func84, Try.ntmps84
  go_wp2
  go_loop [14] (fun i => ∃ j : Nat, j ≤ m ∧ i = .int .i64 j ∧ stretchF n k (ats.drop j) = stretchF n k ats) (fun i => m - (intOf i).toNat)
  case atStart => exact ⟨0, Nat.zero_le _, rfl, rfl⟩
  case round =>
    obtain ⟨j, hj, rfl, hs⟩ := hrel
    have HS := Lib.hid hs
    clear hs
    by_cases hlt : j < m
    · have hl : j < ats.length := by have := hr.1; simp at this; omega
      obtain ⟨ad, u, hA2, _, hx, hc⟩ := hr.at_ hlt
      subst hA2
      have hu : u = .int .i64 ats[j] := by
        rw [List.getElem?_map, List.getElem?_eq_getElem hl] at hx
        simpa using hx.symm
      subst hu
      clear hx
      have hb := ha _ (List.getElem_mem hl)
      have hd : ats.drop j = ats[j] :: ats.drop (j + 1) := List.drop_eq_getElem_cons hl
      have HD := Lib.hid hd
      clear hd
      by_cases hbad : k < 0 ∨ ats[j] < 0 ∨ (n : Int) < ats[j] ∨ (n : Int) - ats[j] < k
      · go_wp2
        all_goals
          go_ret
          exact ⟨ret_int (by rw [← HS.out, HD.out, stretchF, if_pos hbad]), rfl⟩
      · have h1 : 0 ≤ k := by omega
        have h2 : 0 ≤ ats[j] := by omega
        have h3 : ats[j] ≤ (n : Int) := by omega
        have h4 : k ≤ (n : Int) - ats[j] := by omega
        clear hbad
        go_wp2
        go_round
        case rel => exact ⟨j + 1, by omega, by go_num, by rw [← HS.out, HD.out, stretchF, if_neg (by omega)]⟩
        case measure => simp [intOf]; omega
    · go_wp2
      go_ret
      have : j = m := by omega
      subst this
      exact ⟨ret_int (by rw [← HS.out, List.drop_of_length_le (by have := hr.1; simp at this; omega)]; rfl), rfl⟩
theorem size_u64 : (Try.prog.info? 43).map (·.size) = some 1 := by kernel_rfl
theorem info_u64 : (Try.prog.info? 43).map (fun i => (i.zero, i.size, i.bytes)) = some (some (.int .u64 0), 1, 8) := by kernel_rfl
set_option maxHeartbeats 400000 in
theorem clone_u64 (A : Option Addr) (n c B : Nat) (xs : List Value) (w : World) (hr : Reads w B 1 A n xs) (hB : B ≤ w.heap.size) (h1 : ∀ u ∈ xs, u.oneCell' = true) (hn : n * 8 ≤ 140737488355328) :
    Calls Try.prog 31 #[.slice A n c] w fun e w' => ∃ A' c', e = .returned (.slice A' n c') ∧ w'.ownsRow w.heap.size 43 1 (.slice A' n c') n xs ∧ Below w.heap.size w w' := by
  obtain ⟨i0, hi, hz0, hz1, hz2⟩ := info_parts info_u64
  rcases A with _ | ad
  · have hm : n = 0 := by
      rcases Nat.eq_zero_or_pos n with h0 | h0
      · exact h0
      · obtain ⟨ad, h, _⟩ := hr.2 h0
        cases h
    subst hm
    have hx : xs = [] := List.eq_nil_of_length_eq_zero (by simpa using hr.1)
    subst hx
    have hnil := fun (w : World) => Lib.run_eql_slice_nil (P := Try.prog) w 22 43 none 0 c 0 0 Try.underlying22
    go_enter Try.func31, Try.ntmps31
    go_wp2
    go_ret
    exact ⟨none, 0, rfl, World.ownsRow_nil _ _ _ _, Below.refl _ _⟩
  · have hnil := fun (w : World) => Lib.run_eql_slice_nil (P := Try.prog) w 22 43 (some ad) n c 0 0 Try.underlying22
    have hmade := World.ownsRow_made (e := 43) (size := 1) w #[] 0 (Nat.le_refl w.heap.size) (Nat.zero_le _) rfl
    go_enter Try.func31, Try.ntmps31
    go_wp2_with (at_builtin; refine wpList_append_any _ rfl (.tmp 5) (.tmp 6) 22 rfl w.heap.size 43 i0 (.int .u64 0) 1 8 Try.underlying22 hi hz0 hz1 hz2 rfl (by decide) (.slice (some ⟨w.heap.size, 0, none⟩) 0 0) 0 [] rfl hmade B (some ad) n c xs rfl (hr.alloc hB _) h1 (by simp [maxLen]; omega) (by simpa using hn) (by simp) ?_; rintro v' w1 hown hgr hbl -; obtain ⟨A', c', rfl⟩ := own_slice hown)
    go_ret
    exact ⟨A', c', rfl, by simpa using hown, ((Below.refl _ _).alloc (Nat.le_refl _) _).grown hgr (by simp) (by simp [Value.ownBlock])⟩
theorem u64s_one (l : List Int) : ∀ u ∈ l.map (Value.int .u64), u.oneCell' = true := by
  intro u hu
  obtain ⟨x, _, rfl⟩ := List.mem_map.1 hu
  rfl
def fillE (len at_ n : Int) : Int := if 256 < len then 2 else stretchF len n [at_]
def fillL (a : List Int) (at_ n : Nat) (v : Int) : List Int := a.take at_ ++ List.replicate n v ++ a.drop (at_ + n)
theorem stretchF_cases (len n : Int) (l : List Int) : stretchF len n l = 0 ∨ stretchF len n l = 4 := by
  induction l with
  | nil => exact .inl rfl
  | cons k r ih =>
    unfold stretchF
    split
    · exact .inr rfl
    · exact ih
theorem fillE_cases (len at_ n : Int) : fillE len at_ n = 0 ∨ fillE len at_ n = 2 ∨ fillE len at_ n = 4 := by
  unfold fillE
  split
  · exact .inr (.inl rfl)
  · rcases stretchF_cases len n [at_] with h | h
    · exact .inl h
    · exact .inr (.inr h)
theorem fillE_ok {len at_ n : Int} : fillE len at_ n = 0 ↔ len ≤ 256 ∧ 0 ≤ n ∧ 0 ≤ at_ ∧ at_ ≤ len ∧ n ≤ len - at_ := by
  unfold fillE
  split
  · constructor
    · intro h; cases h
    · omega
  · simp only [stretchF]
    split
    · constructor
      · intro h; cases h
      · omega
    · constructor
      · intro _; omega
      · intro _; rfl
theorem fillL_length (a : List Int) (at_ n : Nat) (v : Int) (h : at_ + n ≤ a.length) : (fillL a at_ n v).length = a.length := by
  simp [fillL]; omega
theorem fillL_zero (a : List Int) (at_ : Nat) (v : Int) : fillL a at_ 0 v = a := by simp [fillL]
theorem fillL_succ (a : List Int) (at_ n : Nat) (v : Int) (h : at_ + n < a.length) : (fillL a at_ n v).set (at_ + n) v = fillL a at_ (n + 1) v := by
  have hl : (a.take at_ ++ List.replicate n v).length = at_ + n := by simp; omega
  have hd : a.drop (at_ + n) = a[at_ + n] :: a.drop (at_ + n + 1) := List.drop_eq_getElem_cons h
  unfold fillL
  rw [hd, List.set_append_right _ _ (by omega), hl, Nat.sub_self, List.set_cons_zero, List.replicate_succ', ← Nat.add_assoc]
  simp
set_option maxHeartbeats 400000 in
theorem fill_bad (A : Option Addr) (n c _ : Nat) (at_ k v : Int) (w : World)
    (ha : -9223372036854775808 ≤ at_ ∧ at_ ≤ 9223372036854775807) (hk : -9223372036854775808 ≤ k ∧ k ≤ 9223372036854775807) (hbad : fillE n at_ k ≠ 0) :
    Calls Try.prog 61 #[.slice A n c, .int .i64 at_, .int .i64 k, .int .u64 v] w fun e w' => Below w.heap.size w w' ∧ e = .returned (.tuple #[.slice none 0 0, .int .i64 (fillE n at_ k)]) := by
  by_cases hbig : 256 < n
  · have hE : fillE n at_ k = 2 := by unfold fillE; rw [if_pos (by omega)]
    rw [hE]
    clear hbad hE
    go_enter Try.func61, Try.ntmps61
    go_wp2_with (go_at_call 84; refine (stretches_big _ _ _ _ _ _ hbig).mono ?_; rintro e w' ⟨rfl, rfl⟩)
    go_ret2
    exact ⟨(Below.refl _ _).alloc (Nat.le_refl _) _, rfl⟩
  · have hE : fillE n at_ k = 4 := by
      rcases fillE_cases n at_ k with h | h | h
      · exact absurd h hbad
      · unfold fillE at h
        rw [if_neg (by omega)] at h
        rcases stretchF_cases n k [at_] with h' | h' <;> rw [h'] at h <;> cases h
      · exact h
    have hS : stretchF n k [at_] = 4 := by unfold fillE at hE; rwa [if_neg (by omega)] at hE
    rw [hE]
    have HS := Lib.hid hS
    clear hbad hE hS
    go_enter Try.func61, Try.ntmps61
    go_wp2_with (go_at_call 84; refine (stretches_any _ _ _ _ _ _ 1 _ [at_] _ (by omega) (by omega) (reads_new w [.int .i64 at_] 3 1 1 rfl) hk (by simpa using ha)).mono ?_; rw [HS.out]; rintro e w' ⟨rfl, rfl⟩)
    go_ret2
    exact ⟨(Below.refl _ _).alloc (Nat.le_refl _) _, rfl⟩
set_option maxHeartbeats 400000 in
theorem fill_ok (A : Option Addr) (n c B : Nat) (xs : List Int) (at_ k v : Int) (w : World) (hr : Reads w B 1 A n (xs.map (.int .u64))) (hB : B ≤ w.heap.size) (hok : fillE n at_ k = 0) :
    Calls Try.prog 61 #[.slice A n c, .int .i64 at_, .int .i64 k, .int .u64 v] w fun e w' => Below w.heap.size w w' ∧
      ∃ A' c', e = .returned (.tuple #[.slice A' n c', .int .i64 0]) ∧ w'.ownsRow w.heap.size 43 1 (.slice A' n c') n ((fillL xs at_.toNat k.toNat v).map (.int .u64)) := by
  obtain ⟨h1, h2, h3, h4, h5⟩ := fillE_ok.1 hok
  have hS : stretchF n k [at_] = 0 := by unfold fillE at hok; rwa [if_neg (by omega)] at hok
  have HS := Lib.hid hS
  clear hok hS
  obtain ⟨at0, rfl⟩ := Int.eq_ofNat_of_zero_le h3
  obtain ⟨k0, rfl⟩ := Int.eq_ofNat_of_zero_le h2
  have hxl : xs.length = n := by have := hr.1; simpa using this
  have HX := Lib.hid hxl
  clear hxl
  go_enter Try.func61, Try.ntmps61
  go_wp2_with (first
    | (go_at_call 84; refine (stretches_any _ _ _ _ _ _ 1 _ [↑at0] _ (by omega) (by omega) (reads_new w [.int .i64 at0] 3 1 1 rfl) (by omega) (by simp; omega)).mono ?_; rw [HS.out]; rintro e w' ⟨rfl, rfl⟩)
    | (go_at_call 31; refine (clone_u64 _ _ _ _ _ _ (hr.alloc hB _) (by simp; omega) (u64s_one _) (by omega)).mono ?_; rintro e w1 ⟨A', c', rfl, hown, hb⟩))
  go_loopw [24] (fun i wr => ∃ j : Nat, j ≤ k0 ∧ i = .int .i64 j ∧ wr.ownsRow w.heap.size 43 1 (.slice A' n c') n ((fillL xs at0 j v).map (.int .u64)) ∧ Below w.heap.size w wr) (fun i _ => k0 - (intOf i).toNat)
  case atStart => exact ⟨0, Nat.zero_le _, rfl, by rw [fillL_zero]; exact (own_mono hown (by simp)), ((Below.refl _ _).alloc (Nat.le_refl _) _).trans (hb.mono (by simp))⟩
  case round =>
    obtain ⟨j, hj, rfl, hown1, hb1⟩ := hrel
    by_cases hlt : j < k0
    · obtain ⟨g, cap, hv, hg, -⟩ := hown1.form (by omega)
      obtain ⟨rfl, -, rfl⟩ : A' = some ⟨g, 0, none⟩ ∧ n = n ∧ c' = cap := by simpa using hv
      have hcell := hown1.cellAt (at0 + j) (by omega)
      have hfl := fillL_length xs at0 j v (by rw [HX.out]; omega)
      rw [List.getElem?_eq_getElem (by simp [hfl, HX.out]; omega)] at hcell
      generalize ((fillL xs at0 j v).map (Value.int .u64))[at0 + j]'_ = u0 at hcell
      have hfr := hown1.frozenAt (at0 + j)
      clear hfl
      go_wp2
      go_roundw
      case rel => exact ⟨j + 1, by omega, by go_num, by rw [← fillL_succ _ _ _ _ (by rw [HX.out]; omega), List.map_set]; exact (hown1.stored (at0 + j) (.int .u64 v)).1, hb1.setCell (p := ⟨g, at0 + j, none⟩) (hown1.lt g rfl).1 _⟩
      case measure => simp [intOf]; omega
    · have hjk : j = k0 := by omega
      subst hjk
      go_wp2
      go_ret2
      exact ⟨hb1, A', c', rfl, hown1⟩
def moveE (len from_ to n : Int) : Int := if 256 < len then 2 else stretchF len n [from_, to]
def moveL (a : List Int) (from_ to n : Nat) : List Int := splice a to ((a.drop from_).take n)
theorem moveE_cases (len from_ to n : Int) : moveE len from_ to n = 0 ∨ moveE len from_ to n = 2 ∨ moveE len from_ to n = 4 := by
  unfold moveE
  split
  · exact .inr (.inl rfl)
  · rcases stretchF_cases len n [from_, to] with h | h
    · exact .inl h
    · exact .inr (.inr h)
theorem moveE_ok {len from_ to n : Int} : moveE len from_ to n = 0 ↔ len ≤ 256 ∧ 0 ≤ n ∧ 0 ≤ from_ ∧ n ≤ len - from_ ∧ 0 ≤ to ∧ n ≤ len - to := by
  unfold moveE
  split
  · constructor
    · intro h; cases h
    · omega
  · simp only [stretchF]
    split
    · constructor
      · intro h; cases h
      · omega
    · split
      · constructor
        · intro h; cases h
        · omega
      · constructor
        · intro _; omega
        · intro _; rfl
end Go.Proofs.Ytgkoaambdejkdaa

namespace Go.Proofs.Ytgkoaambdejkdaa
open Go.RowKit
theorem Blk.grown {w w' : World} {g : Nat} {t : TypeId} {cs : Array Value} {row : Option Nat} (h : Blk w g t cs) (hb : w.grownBy w' row) (hg : some g ≠ row) : Blk w' g t cs := (hb.block g h.lt hg).trans h
theorem Blk.ne_ {w : World} {g g' : Nat} {t t' : TypeId} {cs cs' : Array Value} (h : Blk w g t cs) (h' : Blk w g' t' cs') (hne : t ≠ t') : g ≠ g' := by
  rintro rfl
  unfold Blk at h h'
  rw [h] at h'
  injection h' with h'
  injection h' with _ ht
  exact hne ht
theorem own_far {w : World} {base : Nat} {e : TypeId} {size n : Nat} {v : Value} {xs : List Value} (h : w.ownsRow base e size v n xs) {p : Addr} (hp : p.block < base) (u : Value) : (w.setCell p u).ownsRow base e size v n xs := by
  refine ⟨h.1, ?_⟩
  rcases h.2 with h2 | ⟨g, cap, cur, hv, hg, hh, rest⟩
  · exact .inl h2
  · exact .inr ⟨g, cap, cur, hv, hg, by rw [Below.heap_setCell w p u g (by omega)]; exact hh, rest⟩
theorem own_apart {w : World} {base : Nat} {e : TypeId} {size n : Nat} {v : Value} {xs : List Value} (h : w.ownsRow base e size v n xs) {p : Addr} (hp : v.ownBlock ≠ some p.block) (u : Value) : (w.setCell p u).ownsRow base e size v n xs := by
  refine ⟨h.1, ?_⟩
  rcases h.2 with h2 | ⟨g, cap, cur, hv, hg, hh, rest⟩
  · exact .inl h2
  · refine .inr ⟨g, cap, cur, hv, hg, ?_, rest⟩
    rw [Below.heap_setCell w p u g (by subst hv; simpa [Value.ownBlock] using hp)]
    exact hh
theorem own_ge {w : World} {base : Nat} {e : TypeId} {size n : Nat} {v : Value} {xs : List Value} (h : w.ownsRow base e size v n xs) {g : Nat} (hg : v.ownBlock = some g) : base ≤ g := (h.lt g hg).1
theorem own_grown {w w' : World} {base : Nat} {e : TypeId} {size n : Nat} {v : Value} {xs : List Value} {row : Option Nat} (h : w.ownsRow base e size v n xs) (hg : w.grownBy w' row) (hne : ∀ g, v.ownBlock = some g → row ≠ some g) : w'.ownsRow base e size v n xs := by
  refine ⟨h.1, ?_⟩
  rcases h.2 with h2 | ⟨g, cap, cur, hv, hb, hh, rest⟩
  · exact .inl h2
  · refine .inr ⟨g, cap, cur, hv, hb, ?_, rest⟩
    have := hne g (by subst hv; rfl)
    rw [hg.block g (Array.getElem?_eq_some_iff.1 hh).1 (fun e => this e.symm)]
    exact hh
theorem step_append_any {P : Program} (w : World) {ops : Array Oper} {o : Oper} {a : Act} {K : Act → World → Prop} {Q : Exit → Act → World → Prop} {E : Prop} (hgd : o.guard = none) (s x : Operand) (t : TypeId)
    (ho : o.op = .call { callee := .builtin .append, args := #[s, x], argTypes := #[t, t] })
    (base : Nat) (e : TypeId) (i : TypeInfo) (z : Value) (size bytes : Nat) (ht : P.underlying t = some (.slice e)) (hi : P.info? e = some i) (hz : i.zero = some z)
    (hsize : i.size = size) (hby : i.bytes = bytes) (hzs : z.cells.size = size) (hsz : 0 < size)
    (v : Value) (n : Nat) (xs : List Value) (hs : a.eval s = v) (hown : w.ownsRow base e size v n xs)
    (B : Nat) (A : Option Addr) (m c : Nat) (news : List Value) (hx : a.eval x = .slice A m c) (hr : Reads w B size A m news) (h1 : ∀ u ∈ news, u.oneCell' = true)
    (h63 : n + m ≤ maxLen) (hbytes : (n + m) * bytes ≤ 140737488355328) (hbase : base ≤ w.heap.size)
    (h : ∀ v' w', w'.ownsRow base e size v' (n + m) (xs ++ news) → w.grownBy w' v.ownBlock → (v'.ownBlock = v.ownBlock ∨ v'.ownBlock = some w.heap.size) → (v' = .slice none 0 0 ↔ v = .slice none 0 0 ∧ m = 0) → K (a.put o.dst v') w') :
    if Region.wanted o (yielded ops a.tmps) = true then Oper.wp P o a w K Q else E := by
  have hw : Region.wanted o (yielded ops a.tmps) = true := by simp [Region.wanted, hgd]
  rw [if_pos hw]
  exact wp_append_any w s x t ho base e i z size bytes ht hi hz hsize hby hzs hsz v n xs hs hown B A m c news hx hr h1 h63 hbytes hbase h
theorem own_blk_ne {w : World} {base g : Nat} {e t : TypeId} {size n : Nat} {v : Value} {xs : List Value} {cs : Array Value} (h : w.ownsRow base e size v n xs) (hg : Blk w g t cs) (hne : e ≠ t) : v.ownBlock ≠ some g := by
  rcases h.2 with ⟨rfl, _⟩ | ⟨g', cap, cur, rfl, _, hh, _⟩
  · simp [Value.ownBlock]
  · intro he
    have : g' = g := by simpa [Value.ownBlock] using he
    subst this
    exact Blk.ne_ (t := e) hh hg hne rfl
def Plain (P : Program) (F : Nat) : Prop := ∀ (args : Array Value) (w : World), (callFunc F args).run P w = .ok (.enter F args) w
theorem plain_of {P : Program} {F : Nat} {fn : Func} (hf : P.funcs[F]? = some fn) (hname : (fn.name == "runtime.NumGoroutine") = false) (hb : fn.body.isNone = false) : Plain P F := by
  intro args w
  have h1 : fn.name ≠ "runtime.NumGoroutine" := by simpa using hname
  have h2 : fn.body ≠ none := by intro h; rw [h] at hb; cases hb
  simp [callFunc, hf, h1, h2]
theorem drewN_add (w : World) (a b : Nat) : (w.drewN a).drewN b = w.drewN (a + b) := World.drewN_drewN w a b
theorem eq_of_takes (xs ys : List Int) (n : Nat) (hx : xs.length = n) (hy : ys.length = n) (h : xs.take n = ys.take n) : xs = ys := by
  rw [List.take_of_length_le (by omega), List.take_of_length_le (by omega)] at h
  exact h
theorem any_eq_mem (v : Int) (xs : List Int) : xs.any (fun x => v == x) = decide (v ∈ xs) := by
  rw [Bool.eq_iff_iff, List.any_eq_true]
  simp
end Go.Proofs.Ytgkoaambdejkdaa

namespace Go.Proofs.Ytgkoaambdejkdaa
open Go.RowKit
def refIx (l : List Spot) (a : List Int) (s : Spot) : List Int := (refsOf a s).map fun v => (placeF l v).getD 0
theorem placeV_getD (l : List Spot) (v : Int) : (placeV l v).getD (.int .i64 0) = .int .i64 ((placeF l v).getD 0) := by
  unfold placeV
  cases placeF l v <;> rfl
set_option maxRecDepth 100000 in
set_option maxHeartbeats 1000000 in
theorem object_any (A : Option Addr) (n c b : Nat) (a : List Int) (l : List Spot) (s : Spot) (w : World) (hr : Reads w w.heap.size 1 A n (a.map (.int .u64))) (hc : n ≤ c) (hn : n ≤ 256) (hs : SpotOk a s)
    (ha : ∀ x ∈ a, (Lit.int .u64 x).wf = true) (hM : MapIs w Try.prog 43 .u64 b 300 (placeV l)) :
    Calls Try.prog 66 #[.slice A n c, .agg #[.int .i64 s.loc, .int .i64 s.r, .int .i64 s.b, .int .i64 s.t, .bool s.f], .map (some b)] w fun e w' => Below w.heap.size w w' ∧ ∃ A1 c1 A2 c2,
      e = .returned (.agg #[.int .i64 s.t, .slice A1 s.r.toNat c1, .slice A2 s.b.toNat c2, .bool s.f]) ∧ w'.ownsRow w.heap.size 3 1 (.slice A1 s.r.toNat c1) s.r.toNat ((refIx l a s).map (.int .i64)) ∧
      w'.ownsRow w.heap.size 43 1 (.slice A2 s.b.toNat c2) s.b.toNat ((bodyOf a s).map (.int .u64)) := by
  have hal : a.length = n := by have := hr.1; simpa using this
  have HR := Lib.hid (fun w B hr hB => refs_any A n c B a s w hr hB hc hn hs)
  have HF := Lib.hid (refsOf_length hs)
  have HG := Lib.hid (bodyOf_length hs)
  have HI : Hid (refIx l a s = (refsOf a s).map fun v => (placeF l v).getD 0) := rfl
  have l0 := hs.loc0
  have r0 := hs.r0
  have b0 := hs.b0
  have ft := hs.fits
  have HB : Hid (bodyOf a s = (a.drop (s.loc.toNat + 1 + s.r.toNat)).take s.b.toNat) := rfl
  unfold Spot.long at ft
  have hblt := hM.lt
  have HSub : Hid (∀ v ∈ refsOf a s, v ∈ a) := fun v hv => by
    unfold refsOf at hv
    exact List.mem_of_mem_drop (List.mem_of_mem_take hv)
  clear hs
  generalize refsOf a s = rs at *
  generalize bodyOf a s = bs at *
  generalize refIx l a s = ix at *
  obtain ⟨loc, r, bd, t, f⟩ := s
  dsimp only at *
  obtain ⟨i, rfl⟩ := Int.eq_ofNat_of_zero_le l0
  obtain ⟨q, rfl⟩ := Int.eq_ofNat_of_zero_le r0
  obtain ⟨k, rfl⟩ := Int.eq_ofNat_of_zero_le b0
  simp only [Int.toNat_natCast] at *
  rw [hal] at ft
  have HL := Lib.hid hal
  clear hal l0 r0 b0
  obtain ⟨i0, hi, hz0, hz1, hz2⟩ := info_parts (show (Try.prog.info? 3).map (fun i => (i.zero, i.size, i.bytes)) = some (some (.int .i64 0), 1, 8) by kernel_rfl)
  go_enter Try.func66, Try.ntmps66
  go_wp2_with fail
  have hbw := ((below_new w (.cells #[.int .i64 i, .int .i64 q, .int .i64 k, .int .i64 t, .bool f] 89)).alloc (by simp) (.cells #[.int .i64 0, .slice none 0 0, .slice none 0 0, .bool false] 56)).alloc (by simp; omega) (.cells #[.int .i64 t, .slice none 0 0, .slice none 0 0, .bool f] 56)
  have B0 := ((Blk.new w 89 #[.int .i64 i, .int .i64 q, .int .i64 k, .int .i64 t, .bool f]).alloc (.cells #[.int .i64 0, .slice none 0 0, .slice none 0 0, .bool false] 56)).alloc (.cells #[.int .i64 t, .slice none 0 0, .slice none 0 0, .bool f] 56)
  have B1 := (Blk.new (w.alloc (.cells #[.int .i64 i, .int .i64 q, .int .i64 k, .int .i64 t, .bool f] 89)) 56 #[.int .i64 0, .slice none 0 0, .slice none 0 0, .bool false]).alloc (.cells #[.int .i64 t, .slice none 0 0, .slice none 0 0, .bool f] 56)
  have B2 := Blk.new ((w.alloc (.cells #[.int .i64 i, .int .i64 q, .int .i64 k, .int .i64 t, .bool f] 89)).alloc (.cells #[.int .i64 0, .slice none 0 0, .slice none 0 0, .bool false] 56)) 56 #[.int .i64 t, .slice none 0 0, .slice none 0 0, .bool f]
  simp only [World.size_alloc] at B1 B2
  refine (HR.out _ w.heap.size (hr.below hbw) (by simp; omega)).mono ?_
  rintro e w3 ⟨hb3, A3, c3, rfl, hc3, hrr⟩
  have hbw3 := hbw.trans (hb3.mono (by simp; omega))
  have hM3 := hM.below hbw3 hblt
  have C0 := B0.below hb3 (by simp; omega)
  have C1 := B1.below hb3 (by simp)
  have C2 := B2.below hb3 (by simp)
  clear B0 B1 B2
  have hsz : w.heap.size + 3 ≤ w3.heap.size := by have := hb3.size; simp at this; omega
  have hrrw : Reads w w.heap.size 1 A3 q (rs.map (.int .u64)) := hrr.keep fun p hp => (hbw3.cell hp).symm
  clear hb3 hbw hM3 hrr
  go_wp2
  go_loopw [9, 22] (fun _ x wr => ∃ (p : Nat) (A1 : Option Addr) (c1 : Nat), p ≤ q ∧ x = .int .i64 p ∧ Below w.heap.size w wr ∧ w.heap.size + 3 ≤ wr.heap.size ∧ Blk wr w.heap.size 89 #[.int .i64 i, .int .i64 q, .int .i64 k, .int .i64 t, .bool f] ∧ Blk wr (w.heap.size + 1) 56 #[.int .i64 0, .slice none 0 0, .slice none 0 0, .bool false] ∧
    Blk wr (w.heap.size + 1 + 1) 56 #[.int .i64 t, .slice A1 p c1, .slice none 0 0, .bool f] ∧ wr.ownsRow (w.heap.size + 3) 3 1 (.slice A1 p c1) p ((ix.take p).map (.int .i64))) (fun _ x _ => q - (intOf x).toNat)
  case atStart => exact ⟨0, none, 0, Nat.zero_le _, rfl, hbw3, hsz, C0, C1, C2, by simpa using World.ownsRow_nil _ _ _ _⟩
  case round =>
    clear C0 C1 C2 hsz
    obtain ⟨p, A1, c1, hp, rfl, hb, hsz, B0, B1, B2, hown⟩ := hrel
    by_cases hlt : p < q
    · obtain ⟨ad3, v, rfl, had3, hv, hcv⟩ := (hrrw.below hb).num hlt
      have hvw := ha v (HSub.out v (List.mem_of_getElem? hv))
      have hlook := (hM.below hb hblt).look Try.underlying43 Try.underlying112 (zero_int _) hvw
      rw [placeV_getD] at hlook
      have HT : Hid (ix.take (p + 1) = ix.take p ++ [(placeF l v).getD 0]) := by
        show _ = _
        obtain ⟨h1, rfl⟩ := List.getElem?_eq_some_iff.1 hv
        rw [HI.out, ← List.map_take, ← List.map_take, List.take_succ_eq_append_getElem h1, List.map_append]
        rfl
      generalize (placeF l v).getD 0 = z at *
      clear hv hvw
      have k1 := B2.cell 1
      simp only [List.getElem?_toArray, List.getElem?_cons_zero, List.getElem?_cons_succ] at k1
      have hown2 := hown.alloc (.cells #[.int .i64 z] 3)
      have B0' := B0.alloc (.cells #[.int .i64 z] 3)
      have B1' := B1.alloc (.cells #[.int .i64 z] 3)
      have B2' := B2.alloc (.cells #[.int .i64 z] 3)
      have hb2 := hb.alloc hb.size (.cells #[.int .i64 z] 3)
      have hnew := reads_new wr [.int .i64 z] 3 1 1 rfl
      have hge : ∀ g, (Value.slice A1 p c1).ownBlock = some g → w.heap.size + 3 ≤ g := fun g hg => own_ge hown hg
      have HGe := Lib.hid hge
      clear hown B0 B1 B2 hb hge
      go_wp2_with (at_builtin; refine wpList_append_any _ rfl (.tmp 27) (.tmp 31) 23 rfl (w.heap.size + 3) 3 i0 (.int .i64 0) 1 8 Try.underlying23 hi hz0 hz1 hz2 rfl (by decide) (.slice A1 p c1) p _ rfl hown2 (wr.heap.size + 1) (some ⟨wr.heap.size, 0, none⟩) 1 1 [.int .i64 z] rfl hnew (by simp [Value.oneCell']) (by simp [maxLen]; omega) (by omega) (by have := hsz; simp; omega) ?_; rintro v' w5 hown5 hgr hbl -; obtain ⟨A5, c5, rfl⟩ := own_slice hown5; have B0'' := B0'.grown hgr (fun e => by have := HGe.out _ e.symm; omega); have B1'' := B1'.grown hgr (fun e => by have := HGe.out _ e.symm; omega); have B2'' := B2'.grown hgr (fun e => by have := HGe.out _ e.symm; omega); have k2 := B2''.cell 1; simp only [List.getElem?_toArray, List.getElem?_cons_zero, List.getElem?_cons_succ] at k2; have f2 := B2''.frozen 1)
      have hb3 := hb2.grown hgr hb2.size (fun g hg => by have := HGe.out g hg; omega)
      have hsz5 := hgr.size
      simp only [World.size_alloc] at hsz5
      go_roundw
      case rel => exact ⟨p + 1, A5, c5, by omega, by go_num, hb3.setCell (p := ⟨w.heap.size + 1 + 1, 1, none⟩) (by simp; omega) _, by simp [World.setCell]; omega, B0''.far (p := ⟨w.heap.size + 1 + 1, 1, none⟩) (by simp; omega) _, B1''.far (p := ⟨w.heap.size + 1 + 1, 1, none⟩) (by simp) _,
        B2''.set_ 1 _, by rw [HT.out, List.map_append]; exact own_far hown5 (p := ⟨w.heap.size + 1 + 1, 1, none⟩) (by simp) _⟩
      case measure => simp [intOf]; omega
    · have hpq : p = q := by omega
      subst hpq
      have ht : ix.take p = ix := List.take_of_length_le (by rw [HI.out, List.length_map, HF.out]; exact Nat.le_refl _)
      rw [ht] at hown
      have hrb := (hr.below hb).sub (lo := i + 1 + p) (hi := i + 1 + p + k) (by omega) (by omega) hc
      rw [← List.map_drop, ← List.map_take, show i + 1 + p + k - (i + 1 + p) = k by omega, ← HB.out] at hrb
      have HCl := Lib.hid (fun c' => clone_u64 _ k c' w.heap.size (bs.map (.int .u64)) wr hrb (by omega) (u64s_one _) (by omega))
      have k0 := B0.cell 0
      have k1 := B0.cell 1
      have k2 := B0.cell 2
      simp only [List.getElem?_toArray, List.getElem?_cons_zero, List.getElem?_cons_succ] at k0 k1 k2
      have hpos : 0 < n := by omega
      obtain ⟨ad, rfl, had, -⟩ := hr.2 hpos
      clear ht hrb
      by_cases hci : c = i + 1 + p
      · have HCl := HCl.out
        rw [if_pos hci] at HCl
        have HCl := Lib.hid HCl
        go_wp2_with fail
        refine (HCl.out _).mono ?_
        rintro e w7 ⟨A7, c7, rfl, hown7, hb7⟩
        have D1 := Blk.below (B := wr.heap.size) B1 hb7 (by omega)
        have D2 := Blk.below (B := wr.heap.size) B2 hb7 (by omega)
        have hown8 := own_below hown hb7
        have hb07 := hb.trans (hb7.mono hb.size)
        have m0 := D2.cell 0
        have m1 := D2.cell 1
        have m2 := D2.cell 2
        have m3 := D2.cell 3
        have f2 := D2.frozen 2
        have n0 := D1.cell 0
        have n1 := D1.cell 1
        have n2 := D1.cell 2
        have n3 := D1.cell 3
        have g0 := D1.frozen 0
        have g1 := D1.frozen 1
        have g2 := D1.frozen 2
        have g3 := D1.frozen 3
        simp only [List.getElem?_toArray, List.getElem?_cons_zero, List.getElem?_cons_succ] at m0 m1 m2 m3 n0 n1 n2 n3
        have HO1 := Lib.hid hown8
        have HO2 := Lib.hid hown7
        have HB7 := Lib.hid hb07
        clear hown hown7 hown8 hb07 hb7 D1 D2 B0 B1 B2 k0 k1 k2 hb
        go_wp2
        refine bodyPost_ret (v := .agg #[.int .i64 t, .slice A1 p c1, .slice A7 k c7, .bool f]) ?_ rfl ⟨?_, A1, c1, A7, c7, rfl, ?_, ?_⟩
        · simp only [results, Try.results66]
          go_simp
        · iterate 5 refine Below.setCell ?_ (by dsimp only; omega) _
          exact HB7.out
        · refine own_mono (base' := w.heap.size + 3) ?_ (by omega)
          iterate 5 refine own_far ?_ (by dsimp only; omega) _
          exact HO1.out
        · refine own_mono (base' := w.heap.size + 3) ?_ (by omega)
          iterate 5 refine own_far ?_ (by dsimp only; omega) _
          exact own_mono HO2.out (by omega)
      · have HCl := HCl.out
        rw [if_neg hci] at HCl
        have HCl := Lib.hid HCl
        go_wp2_with fail
        refine (HCl.out _).mono ?_
        rintro e w7 ⟨A7, c7, rfl, hown7, hb7⟩
        have D1 := Blk.below (B := wr.heap.size) B1 hb7 (by omega)
        have D2 := Blk.below (B := wr.heap.size) B2 hb7 (by omega)
        have hown8 := own_below hown hb7
        have hb07 := hb.trans (hb7.mono hb.size)
        have m0 := D2.cell 0
        have m1 := D2.cell 1
        have m2 := D2.cell 2
        have m3 := D2.cell 3
        have f2 := D2.frozen 2
        have n0 := D1.cell 0
        have n1 := D1.cell 1
        have n2 := D1.cell 2
        have n3 := D1.cell 3
        have g0 := D1.frozen 0
        have g1 := D1.frozen 1
        have g2 := D1.frozen 2
        have g3 := D1.frozen 3
        simp only [List.getElem?_toArray, List.getElem?_cons_zero, List.getElem?_cons_succ] at m0 m1 m2 m3 n0 n1 n2 n3
        have HO1 := Lib.hid hown8
        have HO2 := Lib.hid hown7
        have HB7 := Lib.hid hb07
        clear hown hown7 hown8 hb07 hb7 D1 D2 B0 B1 B2 k0 k1 k2 hb
        go_wp2
        refine bodyPost_ret (v := .agg #[.int .i64 t, .slice A1 p c1, .slice A7 k c7, .bool f]) ?_ rfl ⟨?_, A1, c1, A7, c7, rfl, ?_, ?_⟩
        · simp only [results, Try.results66]
          go_simp
        · iterate 5 refine Below.setCell ?_ (by dsimp only; omega) _
          exact HB7.out
        · refine own_mono (base' := w.heap.size + 3) ?_ (by omega)
          iterate 5 refine own_far ?_ (by dsimp only; omega) _
          exact HO1.out
        · refine own_mono (base' := w.heap.size + 3) ?_ (by omega)
          iterate 5 refine own_far ?_ (by dsimp only; omega) _
          exact own_mono HO2.out (by omega)
end Go.Proofs.Ytgkoaambdejkdaa

namespace Go.Proofs.Ytgkoaambdejkdaa
open Go.RowKit
set_option maxRecDepth 100000 in
set_option maxHeartbeats 1000000 in
theorem indexSpot_any (F : Nat) (cap : Value) (A : Option Addr) (n c B : Nat) (l : List Spot) (p : Spot → Bool) (w : World) (hr : Reads w B 5 A n (spotsC l)) (hB : B ≤ w.heap.size) (hn : n ≤ 1000000) (hF : Plain Try.prog F)
    (HC : ∀ (w' : World) (s : Spot), Below w.heap.size w w' → s ∈ l → Calls Try.prog F #[.agg #[.int .i64 s.loc, .int .i64 s.r, .int .i64 s.b, .int .i64 s.t, .bool s.f], cap] w' fun e w'' => e = .returned (.bool (p s)) ∧ Below w'.heap.size w' w'') :
    Calls Try.prog 64 #[.slice A n c, .func (.func F) #[] #[cap]] w fun e w' => e = .returned (.int .i64 (ixOf p l)) ∧ Below w.heap.size w w' := by
  have hll : l.length = n := by have := hr.1; rw [spotsC_length] at this; omega
  have HL := Lib.hid hll
  have HC := Lib.hid HC
  have hcf := fun (x : Value) (w : World) => hF #[x, cap] w
  clear hll hF
  go_enter Try.func64, Try.ntmps64
  go_wp2
  go_loopw [5, 8] (fun _ i wr => ∃ j : Nat, j ≤ n ∧ i = .int .i64 j ∧ Below w.heap.size w wr ∧ Hid (∀ x ∈ l.take j, p x = false)) (fun _ i _ => n - (intOf i).toNat)
  case atStart => exact ⟨0, Nat.zero_le _, rfl, Below.refl _ _, by intro x hx; simp at hx⟩
  case round =>
    obtain ⟨j, hj, rfl, hb, HD⟩ := hrel
    by_cases hlt : j < n
    · obtain ⟨ad, s, rfl, had, hs, c0, c1, c2, c3, c4⟩ := (hr.below (hb.mono hB)).spot hlt
      have HS := Lib.hid hs
      have HQ := Lib.hid (HC.out wr s hb (List.mem_of_getElem? hs))
      clear hs
      cases hp : p s
      · have HF := Lib.hid hp
        clear hp
        go_wp2_with fail
        refine HQ.out.mono ?_
        rw [HF.out]
        rintro e w1 ⟨rfl, hb1⟩
        go_wp2
        go_roundw
        case rel => exact ⟨j + 1, by omega, by go_num, hb.trans (hb1.mono hb.size), fun x hx => by
          rcases take_succ_mem HS.out x hx with h | rfl
          · exact HD.out x h
          · exact HF.out⟩
        case measure => simp [intOf]; omega
      · have HF := Lib.hid hp
        clear hp
        go_wp2_with fail
        refine HQ.out.mono ?_
        rw [HF.out]
        rintro e w1 ⟨rfl, hb1⟩
        go_wp2
        go_ret
        exact ⟨ret_int (ixOf_some HS.out HF.out HD.out).symm, hb.trans (hb1.mono hb.size)⟩
    · go_wp2
      go_ret
      exact ⟨ret_int (ixOf_none (by have := HD.out; rwa [List.take_of_length_le (by rw [HL.out]; omega)] at this)).symm, hb⟩
end Go.Proofs.Ytgkoaambdejkdaa

namespace Go.Proofs.Ytgkoaambdejkdaa
open Go.RowKit
set_option maxHeartbeats 400000 in
theorem atClosure_any (g : Nat) (x : Int) (s : Spot) (w : World) (hg : g < w.heap.size) (hc : w.cell? ⟨g, 0, none⟩ = some (.int .i64 x)) :
    Calls Try.prog 65 #[.agg #[.int .i64 s.loc, .int .i64 s.r, .int .i64 s.b, .int .i64 s.t, .bool s.f], .pointer (some ⟨g, 0, none⟩)] w fun e w' => e = .returned (.bool (s.loc == x)) ∧ Below w.heap.size w w' := by
  go_enter Try.func65, Try.ntmps65
  go_wp2
  go_ret
  exact ⟨rfl, below_new _ _⟩
structure Ob where
  t : Int
  refs : List Int
  body : List Int
  f : Bool
deriving DecidableEq
def obOf (a : List Int) (l : List Spot) (s : Spot) : Ob := ⟨s.t, refIx l a s, bodyOf a s, s.f⟩
def atIx (a : List Int) (x : Int) : Int := ixOf (fun s => s.loc == x) (spotsL a)
theorem refIx_length {a : List Int} {l : List Spot} {s : Spot} (h : SpotOk a s) : (refIx l a s).length = s.r.toNat := by unfold refIx; rw [List.length_map, refsOf_length h]
set_option maxHeartbeats 400000 in
theorem at_bad (A : Option Addr) (n c : Nat) (a : List Int) (x : Int) (w : World) (hr : Reads w w.heap.size 1 A n (a.map (.int .u64))) (hnc : n ≤ c) (ha : ∀ x ∈ a, (Lit.int .u64 x).wf = true) (hE : checkE a ≠ 0) :
    Calls Try.prog 26 #[.slice A n c, .int .i64 x] w fun e w' => e = .returned (.tuple #[.agg #[.int .i64 0, .slice none 0 0, .slice none 0 0, .bool false], .int .i64 (checkE a)]) ∧ Below w.heap.size w w' := by
  have H := Lib.hid (fun w hr => check_bad A n c a w hr hnc ha hE)
  generalize checkE a = E at *
  have hE1 : (E != 0) = true := by simpa using hE
  go_enter Try.func26, Try.ntmps26
  go_wp2_with fail
  have hb0 := (below_new w (.cells #[.int .i64 x] 3)).alloc (by simp) (.cells #[.int .i64 0, .slice none 0 0, .slice none 0 0, .bool false] 56)
  have B1 := Blk.new (w.alloc (.cells #[.int .i64 x] 3)) 56 #[.int .i64 0, .slice none 0 0, .slice none 0 0, .bool false]
  simp only [World.size_alloc] at B1
  refine (H.out _ ((hr.below hb0).more hb0.size)).mono ?_
  rintro e w1 ⟨rfl, hb1⟩
  have D1 := B1.below hb1 (by simp)
  have m0 := D1.cell 0
  have m1 := D1.cell 1
  have m2 := D1.cell 2
  have m3 := D1.cell 3
  have g0 := D1.frozen 0
  have g1 := D1.frozen 1
  have g2 := D1.frozen 2
  have g3 := D1.frozen 3
  simp only [List.getElem?_toArray, List.getElem?_cons_zero, List.getElem?_cons_succ] at m0 m1 m2 m3
  have HB := Lib.hid (below_step hb0 (hb1.mono (by simp)))
  clear hb1 hb0 B1 D1
  go_wp2
  refine bodyPost_ret (v := .tuple #[.agg #[.int .i64 0, .slice none 0 0, .slice none 0 0, .bool false], .int .i64 E]) ?_ rfl ⟨rfl, ?_⟩
  · simp only [results, Try.results26]
    go_simp
  · iterate 4 refine Below.setCell ?_ (by dsimp only; omega) _
    exact HB.out
set_option maxRecDepth 100000 in
set_option maxHeartbeats 1000000 in
theorem at_none (A : Option Addr) (n c : Nat) (a : List Int) (x : Int) (w : World) (hr : Reads w w.heap.size 1 A n (a.map (.int .u64))) (hnc : n ≤ c) (ha : ∀ x ∈ a, (Lit.int .u64 x).wf = true) (hE : checkE a = 0) (hix : atIx a x < 0) :
    Calls Try.prog 26 #[.slice A n c, .int .i64 x] w fun e w' => e = .returned (.tuple #[.agg #[.int .i64 0, .slice none 0 0, .slice none 0 0, .bool false], .int .i64 5]) ∧ Below w.heap.size w w' := by
  have H := Lib.hid (fun w hr => check_ok A n c a w hr hnc ha hE)
  have hm256 := spotsL_length a
  have hix : ixOf (fun s => s.loc == x) (spotsL a) < 0 := hix
  generalize spotsL a = l at *
  generalize hp : (fun s : Spot => s.loc == x) = p at *
  have HPx := Lib.hid hp
  have HIX := Lib.hid (fun A n c B W hr hB hn HC => indexSpot_any 65 (.pointer (some ⟨w.heap.size, 0, none⟩)) A n c B l p W hr hB hn (plain_of (fn := Try.f65) Try.func65 (by kernel_rfl) (by kernel_rfl)) HC)
  generalize ixOf p l = z at *
  clear hp hE
  go_enter Try.func26, Try.ntmps26
  go_wp2_with fail
  have hb0 := (below_new w (.cells #[.int .i64 x] 3)).alloc (by simp) (.cells #[.int .i64 0, .slice none 0 0, .slice none 0 0, .bool false] 56)
  have B0 := (Blk.new w 3 #[.int .i64 x]).alloc (.cells #[.int .i64 0, .slice none 0 0, .slice none 0 0, .bool false] 56)
  have B1 := Blk.new (w.alloc (.cells #[.int .i64 x] 3)) 56 #[.int .i64 0, .slice none 0 0, .slice none 0 0, .bool false]
  simp only [World.size_alloc] at B1
  refine (H.out _ ((hr.below hb0).more hb0.size)).mono ?_
  rintro e w1 ⟨hb1, A', c', b, rfl, hbb, hown, hM⟩
  have D0 := B0.below hb1 (by simp; omega)
  have D1 := B1.below hb1 (by simp)
  have hb01 := below_step hb0 (hb1.mono (by simp))
  have hsz : w.heap.size + 2 ≤ w1.heap.size := by have := hb1.size; simp at this; omega
  have hrl := Reads.of_own hown
  obtain ⟨m, hm⟩ : ∃ m, m = l.length := ⟨_, rfl⟩
  rw [← hm] at hrl hm256
  rw [← hm]
  have HM := Lib.hid hm
  clear hb0 hb1 B0 B1 hown hm
  go_wp2_with fail
  refine (HIX.out _ _ _ _ _ hrl (Nat.le_refl _) (by omega) ?_).mono ?_
  · intro w' s hb' _
    have := atClosure_any w.heap.size x s w' (by have := hb'.size; omega) ((D0.below hb' (by omega)).cell 0)
    rw [← HPx.out]
    exact this
  rintro e w2 ⟨rfl, hb2⟩
  have D2 := D1.below hb2 (by omega)
  have m0 := D2.cell 0
  have m1 := D2.cell 1
  have m2 := D2.cell 2
  have m3 := D2.cell 3
  have g0 := D2.frozen 0
  have g1 := D2.frozen 1
  have g2 := D2.frozen 2
  have g3 := D2.frozen 3
  simp only [List.getElem?_toArray, List.getElem?_cons_zero, List.getElem?_cons_succ] at m0 m1 m2 m3
  have HB := Lib.hid (below_step hb01 hb2)
  clear hb01 hb2 D0 D1 D2
  go_wp2
  refine bodyPost_ret (v := .tuple #[.agg #[.int .i64 0, .slice none 0 0, .slice none 0 0, .bool false], .int .i64 5]) ?_ rfl ⟨rfl, ?_⟩
  · simp only [results, Try.results26]
    go_simp
  · iterate 4 refine Below.setCell ?_ (by dsimp only; omega) _
    exact HB.out
set_option maxRecDepth 100000 in
set_option maxHeartbeats 1000000 in
theorem at_ok (A : Option Addr) (n c : Nat) (a : List Int) (x : Int) (i : Nat) (s : Spot) (w : World) (hr : Reads w w.heap.size 1 A n (a.map (.int .u64))) (hnc : n ≤ c) (ha : ∀ x ∈ a, (Lit.int .u64 x).wf = true) (hE : checkE a = 0)
    (hix : atIx a x = i) (hs : (spotsL a)[i]? = some s) :
    Calls Try.prog 26 #[.slice A n c, .int .i64 x] w fun e w' => Below w.heap.size w w' ∧ ∃ A1 c1 A2 c2, e = .returned (.tuple #[.agg #[.int .i64 s.t, .slice A1 s.r.toNat c1, .slice A2 s.b.toNat c2, .bool s.f], .int .i64 0]) ∧
      w'.ownsRow w.heap.size 3 1 (.slice A1 s.r.toNat c1) s.r.toNat ((refIx (spotsL a) a s).map (.int .i64)) ∧ w'.ownsRow w.heap.size 43 1 (.slice A2 s.b.toNat c2) s.b.toNat ((bodyOf a s).map (.int .u64)) := by
  have H := Lib.hid (fun w hr => check_ok A n c a w hr hnc ha hE)
  have hm256 := spotsL_length a
  have hix : ixOf (fun s => s.loc == x) (spotsL a) = i := hix
  obtain ⟨h0, _⟩ := checkE_ok.1 hE
  obtain ⟨hlen, hP⟩ := parse_ok h0
  have hok := (parse_mem hP s (List.mem_of_getElem? hs)).1
  have hal : a.length = n := by have := hr.1; simpa using this
  have hn : n ≤ 256 := by omega
  have hil := (List.getElem?_eq_some_iff.1 hs).1
  generalize spotsL a = l at *
  have HOb := Lib.hid (fun b w hr hM => object_any A n c b a l s w hr hnc hn hok ha hM)
  generalize refIx l a s = ix at *
  generalize bodyOf a s = bs at *
  generalize hp : (fun s : Spot => s.loc == x) = p at *
  have HPx := Lib.hid hp
  have HIX := Lib.hid (fun A n c B W hr hB hn HC => indexSpot_any 65 (.pointer (some ⟨w.heap.size, 0, none⟩)) A n c B l p W hr hB hn (plain_of (fn := Try.f65) Try.func65 (by kernel_rfl) (by kernel_rfl)) HC)
  rw [hix] at HIX
  have HS := Lib.hid hs
  clear hp hE h0 hP hok hal hs hix hlen
  go_enter Try.func26, Try.ntmps26
  go_wp2_with fail
  have hb0 := (below_new w (.cells #[.int .i64 x] 3)).alloc (by simp) (.cells #[.int .i64 0, .slice none 0 0, .slice none 0 0, .bool false] 56)
  have B0 := (Blk.new w 3 #[.int .i64 x]).alloc (.cells #[.int .i64 0, .slice none 0 0, .slice none 0 0, .bool false] 56)
  have B1 := Blk.new (w.alloc (.cells #[.int .i64 x] 3)) 56 #[.int .i64 0, .slice none 0 0, .slice none 0 0, .bool false]
  simp only [World.size_alloc] at B1
  refine (H.out _ ((hr.below hb0).more hb0.size)).mono ?_
  rintro e w1 ⟨hb1, A', c', b, rfl, hbb, hown, hM⟩
  have D0 := B0.below hb1 (by simp; omega)
  have D1 := B1.below hb1 (by simp)
  have hb01 := below_step hb0 (hb1.mono (by simp))
  have hsz : w.heap.size + 2 ≤ w1.heap.size := by have := hb1.size; simp at this; omega
  have hrl := Reads.of_own hown
  obtain ⟨m, hm⟩ : ∃ m, m = l.length := ⟨_, rfl⟩
  rw [← hm] at hrl hm256 hil
  rw [← hm]
  have HM := Lib.hid hm
  clear hb0 hb1 B0 B1 hown hm
  go_wp2_with fail
  refine (HIX.out _ _ _ _ _ hrl (Nat.le_refl _) (by omega) ?_).mono ?_
  · intro w' s hb' _
    have := atClosure_any w.heap.size x s w' (by have := hb'.size; omega) ((D0.below hb' (by omega)).cell 0)
    rw [← HPx.out]
    exact this
  rintro e w2 ⟨rfl, hb2⟩
  have D2 := D1.below hb2 (by omega)
  have hb02 := below_step hb01 hb2
  obtain ⟨ad, s', rfl, had, hs', c0, c1, c2, c3, c4⟩ := (hrl.below hb2).spot (j := i) (by omega)
  obtain rfl : s' = s := by rw [HS.out] at hs'; exact (Option.some.inj hs').symm
  have HO := Lib.hid (HOb.out b w2 ((hr.below hb02).more hb02.size) (hM.below hb2 hM.lt))
  have hil' : (i : Int) < m := by omega
  have hsz2 : w.heap.size + 2 ≤ w2.heap.size := by have := hb2.size; omega
  clear hs' hb01 hb2 D0 D1 hM
  obtain ⟨loc, r, bd, t, f⟩ := s'
  dsimp only at c0 c1 c2 c3 c4 HO ⊢
  go_wp2_with fail
  refine HO.out.mono ?_
  rintro e w3 ⟨hb3, A1, k1, A2, k2, rfl, hown1, hown2⟩
  have D3 := D2.below hb3 (by omega)
  have m0 := D3.cell 0
  have m1 := D3.cell 1
  have m2 := D3.cell 2
  have m3 := D3.cell 3
  have g0 := D3.frozen 0
  have g1 := D3.frozen 1
  have g2 := D3.frozen 2
  have g3 := D3.frozen 3
  simp only [List.getElem?_toArray, List.getElem?_cons_zero, List.getElem?_cons_succ] at m0 m1 m2 m3
  have HB := Lib.hid (below_step hb02 hb3)
  have HO1 := Lib.hid hown1
  have HO2 := Lib.hid hown2
  clear hb02 hb3 D2 D3 hown1 hown2
  go_wp2
  refine bodyPost_ret (v := .tuple #[.agg #[.int .i64 t, .slice A1 r.toNat k1, .slice A2 bd.toNat k2, .bool f], .int .i64 0]) ?_ rfl ⟨?_, A1, k1, A2, k2, rfl, ?_, ?_⟩
  · simp only [results, Try.results26]
    go_simp
  · iterate 4 refine Below.setCell ?_ (by dsimp only; omega) _
    exact HB.out
  · refine own_mono (base' := w2.heap.size) ?_ (by omega)
    iterate 4 refine own_far ?_ (by dsimp only; omega) _
    exact HO1.out
  · refine own_mono (base' := w2.heap.size) ?_ (by omega)
    iterate 4 refine own_far ?_ (by dsimp only; omega) _
    exact HO2.out
end Go.Proofs.Ytgkoaambdejkdaa
