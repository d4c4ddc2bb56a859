/-
  Texts joined: StoreFrom StoreCheck Chunks JoinLaw PlanDefs PlanLaw.
-/
import Derived.Deep.CutRange
import Derived.Test.YtbmkbnalembbjaaK1
import Derived.Test.YtbmkbnalembbjaaK2
import Derived.Test.YtbmkbnalembbjaaK3
import Derived.Test.YtbmkbnalembbjaaK4
namespace Go.Proofs.Ytbmkbnalembbjaa
open Go.RowKit
def pinsL (p : List Rn) : List Int := p.map (·.loc)
set_option maxRecDepth 100000 in
set_option maxHeartbeats 1000000 in
theorem pinned_any (A : Option Addr) (n c : Nat) (RA : Option Addr) (rn rc : Nat) (PA : Option Addr) (pn pc : Nat) (HA : Option Addr) (hn hc : Nat) (p : List Rn) (w : World) (hr : Reads w w.heap.size 2 PA pn (runsC p)) (hpn : pn ≤ 1000000) :
    Calls Try.prog 86 #[.agg #[.slice A n c, .slice RA rn rc, .slice PA pn pc, .slice HA hn hc]] w fun e w' => ∃ A' c', e = .returned (.slice A' (pinsL p).length c') ∧
      w'.ownsRow w.heap.size 3 1 (.slice A' (pinsL p).length c') (pinsL p).length ((pinsL p).map (.int .i64)) ∧ Below w.heap.size w w' := by
  obtain ⟨i0, hi, hz0, hz1, hz2⟩ := info_parts info_int
  have hl : p.length = pn := by have := hr.1; rw [runsC_length] at this; omega
  have HL := Lib.hid hl
  clear hl
  have hb0 := below_new w (.cells #[.slice A n c, .slice RA rn rc, .slice PA pn pc, .slice HA hn hc] 29)
  go_enter Try.func86, Try.ntmps86
  go_wp2_with fail
  go_loopw [3, 9] (fun o i wr => ∃ (j : Nat) (A' : Option Addr) (k c' : Nat), j ≤ pn ∧ i = .int .i64 j ∧ o = .slice A' k c' ∧ k ≤ j ∧ Hid (k = (pinsL (p.take j)).length) ∧ wr.ownsRow w.heap.size 3 1 (.slice A' k c') k ((pinsL (p.take j)).map (.int .i64)) ∧ Below w.heap.size w wr) (fun _ i _ => pn - (intOf i).toNat)
  case atStart => exact ⟨0, none, 0, 0, Nat.zero_le _, rfl, rfl, Nat.le_refl _, rfl, World.ownsRow_nil _ _ _ _, hb0⟩
  case round =>
    obtain ⟨j, A', k, c', hj, rfl, rfl, hkj, hk, hown, hb⟩ := hrel
    clear hb0
    by_cases hlt : j < pn
    · obtain ⟨ad, x, rfl, had, hx, c0, c1⟩ := (hr.below hb).run hlt
      have HQ : Hid (pinsL (p.take (j + 1)) = pinsL (p.take j) ++ [x.loc]) := by
        show _ = _
        obtain ⟨h1, rfl⟩ := List.getElem?_eq_some_iff.1 hx
        rw [List.take_succ_eq_append_getElem h1]; unfold pinsL; rw [List.map_append]; rfl
      clear hx
      obtain ⟨loc, len⟩ := x
      dsimp only at c0 c1 HQ
      have hown0 := (hown.alloc (.cells #[.int .i64 loc, .int .i64 len] 47)).alloc (.cells #[.int .i64 loc] 3)
      have hb1 := hb.alloc hb.size (.cells #[.int .i64 loc, .int .i64 len] 47)
      have hb2 := hb1.alloc hb1.size (.cells #[.int .i64 loc] 3)
      have hnew := reads_new (wr.alloc (.cells #[.int .i64 loc, .int .i64 len] 47)) [.int .i64 loc] 3 1 1 rfl
      rw [World.size_alloc] at hnew
      clear hown hb1
      go_wp2_with (at_builtin; refine wpList_append_any _ rfl (.tmp 13) (.tmp 16) 24 rfl w.heap.size 3 i0 (.int .i64 0) 1 8 Try.underlying24 hi hz0 hz1 hz2 rfl (by decide) (.slice A' k c') k _ rfl hown0 _ (some ⟨wr.heap.size + 1, 0, none⟩) 1 1 [.int .i64 loc] rfl hnew (by simp [Value.oneCell']) (by unfold maxLen; omega) (by omega) hb2.size ?_; rintro v' w5 hO5 hg5 - -; obtain ⟨A5, c5, rfl⟩ := own_slice hO5)
      have hb3 := hb2.grown hg5 hb2.size (fun g hg => (hown0.lt g hg).1)
      have HO := Lib.hid hO5
      clear hO5 hown0 hg5 hnew hb2
      go_roundw
      case rel => exact ⟨j + 1, A5, k + 1, c5, by omega, by go_num, rfl, by omega, by show _ = _; rw [HQ.out, List.length_append, ← hk.out]; rfl, by rw [HQ.out, List.map_append]; exact HO.out, hb3⟩
      case measure => simp [intOf]; omega
    · have hjn : j = pn := by omega
      have e : p.take j = p := List.take_of_length_le (by rw [HL.out]; omega)
      rw [e] at hk hown
      obtain rfl : k = (pinsL p).length := hk.out
      clear hk e
      go_wp2
      go_ret
      exact ⟨A', c', rfl, hown, hb⟩
theorem Blk.four {w : World} {g : Nat} {t : TypeId} {a b c d : Value} (h : Blk w g t #[a, b, c, d]) :
    w.cell? ⟨g, 0, none⟩ = some a ∧ w.cell? ⟨g, 1, none⟩ = some b ∧ w.cell? ⟨g, 2, none⟩ = some c ∧ w.cell? ⟨g, 3, none⟩ = some d := ⟨h.cell 0, h.cell 1, h.cell 2, h.cell 3⟩
def openL (l : List Slot) : List Int := (l.filter (·.opn)).map (·.loc)
theorem openL_snoc (l : List Slot) (s : Slot) : openL (l ++ [s]) = openL l ++ (if s.opn = true then [s.loc] else []) := by
  unfold openL
  rw [List.filter_append, List.map_append]
  obtain ⟨g, o, x⟩ := s
  cases o <;> simp
def fromL (r : List Int) (l : List Slot) (p : List Rn) : List Int := Lib.compact (sortL ((namedL r ++ openL l) ++ pinsL p))
set_option maxRecDepth 100000 in
set_option maxHeartbeats 1000000 in
theorem from_any (A : Option Addr) (n c : Nat) (RA : Option Addr) (rn rc : Nat) (PA : Option Addr) (pn pc : Nat) (HA : Option Addr) (hn hc : Nat) (r : List Int) (p : List Rn) (l : List Slot) (w : World)
    (hrr : Reads w w.heap.size 1 RA rn (r.map (.int .i64))) (hrp : Reads w w.heap.size 2 PA pn (runsC p)) (hrl : Reads w w.heap.size 3 HA hn (slotsC l)) (hpn : pn ≤ 16) (hhn : hn ≤ 16) (hE : rootE r n = 0) :
    Calls Try.prog 61 #[.agg #[.slice A n c, .slice RA rn rc, .slice PA pn pc, .slice HA hn hc]] w fun e w' => ∃ A' c', e = .returned (.slice A' (fromL r l p).length c') ∧
      w'.ownsRow w.heap.size 3 1 (.slice A' (fromL r l p).length c') (fromL r l p).length ((fromL r l p).map (.int .i64)) ∧ Below w.heap.size w w' := by
  obtain ⟨i0, hi, hz0, hz1, hz2⟩ := info_parts info_int
  have hll : l.length = hn := by have := hrl.1; rw [slotsC_length] at this; omega
  have hpl : p.length = pn := by have := hrp.1; rw [runsC_length] at this; omega
  have hrn : r.length ≤ 32 := (rootE_ok hE).2.2.1
  have HL := Lib.hid hll
  have HN := Lib.hid (fun w hr => named_ok RA rn rc r n w hr hE)
  have HP := Lib.hid (fun w hr => pinned_any A n c RA rn rc PA pn pc HA hn hc p w hr (by omega))
  have HF : Hid (fromL r l p = Lib.compact (sortL ((namedL r ++ openL l) ++ pinsL p))) := rfl
  have hq : (pinsL p).length ≤ 16 := by unfold pinsL; rw [List.length_map]; omega
  have hnl : (namedL r).length ≤ 32 := Nat.le_trans (namedL_length r) hrn
  generalize fromL r l p = F at *
  generalize namedL r = R at *
  generalize pinsL p = Q at *
  have hb0 := below_new w (.cells #[.slice A n c, .slice RA rn rc, .slice PA pn pc, .slice HA hn hc] 29)
  clear hll hpl hrn hE
  go_enter Try.func61, Try.ntmps61
  go_wp2_with fail
  refine (HN.out _ ((hrr.below hb0).more hb0.size)).mono ?_
  rintro e w1 ⟨A1, c1, rfl, hown1, hb1⟩
  rw [World.size_alloc] at hown1
  have hb01 := hb0.trans (hb1.mono hb0.size)
  have DS := (Blk.new w 29 #[.slice A n c, .slice RA rn rc, .slice PA pn pc, .slice HA hn hc]).below hb1 (by rw [World.size_alloc]; omega)
  obtain ⟨s0, s1, s2, s3⟩ := DS.four
  have hR : R ++ openL (l.take 0) = R := by simp [openL]
  clear hb1
  go_wp2_with fail
  clear s0 s1 s2 s3
  go_loopw [3, 19] (fun o i wr => ∃ (j : Nat) (A' : Option Addr) (k c' : Nat), j ≤ hn ∧ i = .int .i64 j ∧ o = .slice A' k c' ∧ k ≤ 32 + j ∧ Hid (k = (R ++ openL (l.take j)).length) ∧ wr.ownsRow (w.heap.size + 1) 3 1 (.slice A' k c') k ((R ++ openL (l.take j)).map (.int .i64)) ∧ Below w.heap.size w wr ∧ Blk wr w.heap.size 29 #[.slice A n c, .slice RA rn rc, .slice PA pn pc, .slice HA hn hc]) (fun _ i _ => hn - (intOf i).toNat)
  case atStart => exact ⟨0, A1, R.length, c1, Nat.zero_le _, rfl, rfl, by omega, by show _ = _; rw [hR], by rw [hR]; exact hown1, hb01, DS⟩
  case round =>
    obtain ⟨j, A', k, c', hj, rfl, rfl, hkj, hk, hown, hb, DS⟩ := hrel
    clear hb0 hb01 hown1 hR
    by_cases hlt : j < hn
    · obtain ⟨ad, x, rfl, had, hx, h0, h1, h2⟩ := (hrl.below hb).slot hlt
      have HQ : Hid (R ++ openL (l.take (j + 1)) = (R ++ openL (l.take j)) ++ (if x.opn = true then [x.loc] else [])) := by
        show _ = _
        obtain ⟨g1, rfl⟩ := List.getElem?_eq_some_iff.1 hx
        rw [List.take_succ_eq_append_getElem g1, openL_snoc, List.append_assoc]
      clear hx
      obtain ⟨gen, opn, loc⟩ := x
      dsimp only at h0 h1 h2 HQ
      generalize hLk : R ++ openL (l.take j) = Lk at *
      clear hLk
      have hb1 := hb.alloc hb.size (.cells #[.int .i64 gen, .bool opn, .int .i64 loc] 50)
      have hown1 := hown.alloc (.cells #[.int .i64 gen, .bool opn, .int .i64 loc] 50)
      have DS1 := DS.alloc (.cells #[.int .i64 gen, .bool opn, .int .i64 loc] 50)
      cases opn
      · have HQ : Hid (R ++ openL (l.take (j + 1)) = Lk) := by have := HQ.out; show _ = _; simpa using this
        go_wp2_with fail
        go_roundw
        case rel => exact ⟨j + 1, A', k, c', by omega, by go_num, rfl, by omega, by rw [HQ.out]; exact hk, by rw [HQ.out]; exact hown1, hb1, DS1⟩
        case measure => simp [intOf]; omega
      · have HQ : Hid (R ++ openL (l.take (j + 1)) = Lk ++ [loc]) := by have := HQ.out; show _ = _; simpa using this
        have hown2 := hown1.alloc (.cells #[.int .i64 loc] 3)
        have hb2 := hb1.alloc hb1.size (.cells #[.int .i64 loc] 3)
        have DS2 := DS1.alloc (.cells #[.int .i64 loc] 3)
        have hnew := reads_new (wr.alloc (.cells #[.int .i64 gen, .bool true, .int .i64 loc] 50)) [.int .i64 loc] 3 1 1 rfl
        rw [World.size_alloc] at hnew
        clear hown hown1 hb hb1 DS DS1
        go_wp2_with (at_builtin; refine wpList_append_any _ rfl (.tmp 25) (.tmp 28) 24 rfl (w.heap.size + 1) 3 i0 (.int .i64 0) 1 8 Try.underlying24 hi hz0 hz1 hz2 rfl (by decide) (.slice A' k c') k _ rfl hown2 _ (some ⟨wr.heap.size + 1, 0, none⟩) 1 1 [.int .i64 loc] rfl hnew (by simp [Value.oneCell']) (by unfold maxLen; omega) (by omega) (by have := DS2.lt; omega) ?_; rintro v' w5 hO5 hg5 - -; obtain ⟨A5, c5, rfl⟩ := own_slice hO5)
        have hb3 := hb2.grown hg5 hb2.size (fun g hg => by have := (hown2.lt g hg).1; omega)
        have DS3 := DS2.grown hg5 (fun h => own_off hown2 (Nat.lt_succ_self _) h.symm)
        have HO := Lib.hid hO5
        clear hO5 hown2 hg5 hnew hb2
        go_roundw
        case rel => exact ⟨j + 1, A5, k + 1, c5, by omega, by go_num, rfl, by omega, by show _ = _; rw [HQ.out, List.length_append, ← hk.out]; rfl, by rw [HQ.out, List.map_append]; exact HO.out, hb3, DS3⟩
        case measure => simp [intOf]; omega
    · have hjn : j = hn := by omega
      have e : l.take j = l := List.take_of_length_le (by rw [HL.out]; omega)
      rw [e] at hk hown
      obtain rfl : k = (R ++ openL l).length := hk.out
      clear hk e
      generalize R ++ openL l = S at *
      obtain ⟨k, hk⟩ : ∃ k, k = S.length := ⟨_, rfl⟩
      obtain ⟨q, hqq⟩ : ∃ q, q = Q.length := ⟨_, rfl⟩
      rw [← hk] at hown hkj ⊢
      rw [← hqq] at HP hq
      have HKQ : Hid (k + q = (S ++ Q).length) := by show _ = _; rw [List.length_append, hk, hqq]
      clear hk hqq
      subst hjn
      obtain ⟨s0, s1, s2, s3⟩ := DS.four
      have hrS := Reads.of_own hown
      go_wp2_with fail
      refine (HP.out _ ((hrp.below hb).more hb.size)).mono ?_
      rintro e w2 ⟨A2, c2, rfl, hown2, hb2⟩
      have hrQ := Reads.of_own hown2
      have hb02 := below_step hb hb2
      have hv := reads_new w2 [.slice A' k c', .slice A2 q c2] 24 2 1 rfl
      have hbv := below_new w2 (.cells #[.slice A' k c', .slice A2 q c2] 24)
      have hb03 := below_step hb02 hbv
      have HCo := Lib.hid (concat2_int A' k c' (S.map (.int .i64)) A2 q c2 (Q.map (.int .i64)) (some ⟨w2.heap.size, 0, none⟩) 2 _ (hv.more (by simp)) ((hrS.below (hb2.trans (hbv.mono hb2.size))).more (Nat.le_trans hb2.size hbv.size)) ((hrQ.below hbv).more hbv.size) (ints_one S) (ints_one Q) (by omega))
      clear hown hown2 hrS hrQ hb2 hv hbv s0 s1 s2 s3 DS
      go_wp2_with fail
      refine HCo.out.mono ?_
      rintro e w3 ⟨A3, c3, rfl, hown3, hb3⟩
      rw [← List.map_append, HKQ.out] at hown3
      rw [HKQ.out]
      have hb04 := below_step hb03 hb3
      have hle : (S ++ Q).length ≤ 64 := by rw [← HKQ.out]; omega
      have hss := sortL_length (S ++ Q)
      clear HCo HKQ hb3
      generalize S ++ Q = T at *
      go_wp2_with fail
      refine (sort_int _ A3 T.length c3 T _ hown3 (by omega)).mono ?_
      rintro e w4 ⟨rfl, hown4, hg4⟩
      have hb05 := below_grown_own hb04 hown3 hg4 hb03.size hb04.size
      go_wp2_with fail
      rw [← hss]
      rw [← hss] at hown4
      refine (compact_int _ A3 (sortL T).length c3 (sortL T) _ hown4 (by omega)).mono ?_
      rintro e w5 ⟨rfl, hown5, hg5⟩
      have hb06 := below_grown_own hb05 hown4 hg5 hb03.size hb05.size
      rw [← HF.out] at hown5 ⊢
      go_wp2
      go_ret
      exact ⟨_, _, rfl, own_mono hown5 hb03.size, hb06⟩
end Go.Proofs.Ytbmkbnalembbjaa

namespace Go.Proofs.Ytbmkbnalembbjaa
open Go.RowKit
theorem fromL_length (r : List Int) (l : List Slot) (p : List Rn) : (fromL r l p).length ≤ r.length + l.length + p.length := by
  unfold fromL
  have h1 := (compact_sublist (sortL ((namedL r ++ openL l) ++ pinsL p))).length_le
  rw [sortL_length, List.length_append, List.length_append] at h1
  have h2 := namedL_length r
  have h3 : (openL l).length ≤ l.length := by unfold openL; rw [List.length_map]; exact List.length_filter_le _ _
  have h4 : (pinsL p).length = p.length := by unfold pinsL; rw [List.length_map]
  omega
def firstE (es : List Int) : Int := (es.find? (· ≠ 0)).getD 0
theorem firstE_eq (a b c d : Int) : firstE [a, b, c, d] = if a ≠ 0 then a else if b ≠ 0 then b else if c ≠ 0 then c else d := by
  unfold firstE
  by_cases h1 : a = 0 <;> by_cases h2 : b = 0 <;> by_cases h3 : c = 0 <;> by_cases h4 : d = 0 <;> simp [h1, h2, h3, h4, List.find?]
theorem at_cases {a : List Int} (h : checkE a = 0) (x : Int) : (atIx a x < 0 ∧ x ∉ begsL (spotsL a)) ∨ ∃ (i : Nat) (s : Spot), atIx a x = i ∧ (spotsL a)[i]? = some s ∧ (x ∈ begsL (spotsL a) ↔ s.f = false) := by
  have hr := spots_rise (checkE_ok.1 h).1
  unfold atIx begsL
  rcases ixOf_cases (fun s : Spot => s.loc == x) (spotsL a) with ⟨h1, h2⟩ | ⟨i, s, h1, h2, h3, _⟩
  · refine .inl ⟨by omega, fun h4 => ?_⟩
    obtain ⟨s, hs, rfl⟩ := List.mem_map.1 h4
    have := h2 s (List.mem_filter.1 hs).1
    simp at this
  · refine .inr ⟨i, s, h1, h2, ?_⟩
    simp only [beq_iff_eq] at h3
    subst h3
    constructor
    · intro h4
      obtain ⟨y, hy, he⟩ := List.mem_map.1 h4
      obtain ⟨hy1, hy2⟩ := List.mem_filter.1 hy
      obtain ⟨j, hj, rfl⟩ := List.mem_iff_getElem.1 hy1
      obtain ⟨hi, rfl⟩ := List.getElem?_eq_some_iff.1 h2
      rcases Nat.lt_trichotomy i j with g | g | g
      · have := List.pairwise_iff_getElem.1 hr i j hi hj g; omega
      · subst g; simpa using hy2
      · have := List.pairwise_iff_getElem.1 hr j i hj hi g; omega
    · intro h4
      exact List.mem_map.2 ⟨s, List.mem_filter.2 ⟨List.mem_of_getElem? h2, by simp [h4]⟩, rfl⟩
def storeE (a r : List Int) (l : List Slot) (p : List Rn) : Int :=
  if firstE [checkE a, rootE r a.length, pinE p, handE l] ≠ 0 then firstE [checkE a, rootE r a.length, pinE p, handE l]
  else if (fromL r l p).all (fun x => decide (x ∈ begsL (spotsL a))) = true then 0 else 5
set_option maxRecDepth 100000 in
set_option maxHeartbeats 2000000 in
theorem storeCheck_any (A : Option Addr) (n c : Nat) (RA : Option Addr) (rn rc : Nat) (PA : Option Addr) (pn pc : Nat) (HA : Option Addr) (hn hc : Nat) (a r : List Int) (p : List Rn) (l : List Slot) (w : World)
    (hra : Reads w w.heap.size 1 A n (a.map (.int .u64))) (hnc : n ≤ c) (ha : ∀ x ∈ a, (Lit.int .u64 x).wf = true)
    (hrr : Reads w w.heap.size 1 RA rn (r.map (.int .i64))) (hrp : Reads w w.heap.size 2 PA pn (runsC p)) (hrl : Reads w w.heap.size 3 HA hn (slotsC l)) (hrn : rn ≤ 9223372036854775807) (hpn : pn ≤ 9223372036854775807) :
    Calls Try.prog 34 #[.agg #[.slice A n c, .slice RA rn rc, .slice PA pn pc, .slice HA hn hc]] w fun e w' => e = .returned (.int .i64 (storeE a r l p)) ∧ Below w.heap.size w w' := by
  have hal : a.length = n := by have := hra.1; simpa using this
  have hb0 := below_new w (.cells #[.slice A n c, .slice RA rn rc, .slice PA pn pc, .slice HA hn hc] 29)
  have DS := Blk.new w 29 #[.slice A n c, .slice RA rn rc, .slice PA pn pc, .slice HA hn hc]
  have H1 := Lib.hid (fun w hr => checkFn_any A n c a w hr hnc ha)
  have H2 := Lib.hid (fun w hr => rootCheck_any RA rn rc r (n : Int) w hr hrn)
  have H3 := Lib.hid (fun w hr => pcheck_any PA pn pc p w hr hpn)
  have H4 := Lib.hid (fun w (hr : Reads w w.heap.size 3 HA hn (slotsC l)) => handCheck_any HA hn hc w.heap.size l w hr (Nat.le_refl _))
  have HSE : Hid (storeE a r l p = if firstE [checkE a, rootE r n, pinE p, handE l] ≠ 0 then firstE [checkE a, rootE r n, pinE p, handE l] else if (fromL r l p).all (fun x => decide (x ∈ begsL (spotsL a))) = true then 0 else 5) := by show _ = _; unfold storeE; rw [hal]
  generalize hE1 : checkE a = E1 at *
  generalize hE2 : rootE r n = E2 at *
  generalize hE3 : pinE p = E3 at *
  generalize hE4 : handE l = E4 at *
  have HE1 := Lib.hid hE1
  have HE2 := Lib.hid hE2
  have HE3 := Lib.hid hE3
  have HE4 := Lib.hid hE4
  have HL := Lib.hid hal
  clear hE1 hE2 hE3 hE4 hal
  generalize storeE a r l p = F at *
  go_enter Try.func34, Try.ntmps34
  go_upto_region 1 with fail
  go_cut [24, 25, 26] from 9 to 54 (fun s24 s25 s26 wc => ∃ g, s24 = .slice (some ⟨g, 0, none⟩) 4 4 ∧ s25 = .int .i64 4 ∧ s26 = .int .i64 0 ∧ Below w.heap.size w wc ∧ Blk wc g 31 #[.int .i64 E1, .int .i64 E2, .int .i64 E3, .int .i64 E4] ∧ Blk wc w.heap.size 29 #[.slice A n c, .slice RA rn rc, .slice PA pn pc, .slice HA hn hc])
  case first =>
    have hb := hb0.drew
    have DS := DS.drew
    obtain ⟨s0, s1, s2, s3⟩ := DS.four
    go_region_held3 (fun w' => w'.cell? ⟨w.heap.size, 0, none⟩ = some (.slice A n c) ∧ w'.cell? ⟨w.heap.size, 1, none⟩ = some (.slice RA rn rc) ∧ w'.cell? ⟨w.heap.size, 2, none⟩ = some (.slice PA pn pc) ∧ w'.cell? ⟨w.heap.size, 3, none⟩ = some (.slice HA hn hc)) (go_keep)
      (first
        | (go_at_call 58; with_reducible refine (H1.out _ ((hra.below hb).more hb.size)).mono ?_; rintro e wA ⟨rfl, hbA⟩; have DS := DS.below hbA DS.lt; obtain ⟨s0, s1, s2, s3⟩ := DS.four; have hb := hb.trans (hbA.mono hb.size))
        | (go_at_call 59; with_reducible refine (H2.out _ ((hrr.below hb).more hb.size)).mono ?_; rintro e wB ⟨rfl, hbB⟩; have DS := DS.below hbB DS.lt; obtain ⟨s0, s1, s2, s3⟩ := DS.four; have hb := hb.trans (hbB.mono hb.size))
        | (go_at_call 60; with_reducible refine (H3.out _ ((hrp.below hb).more hb.size)).mono ?_; rintro e wC ⟨rfl, hbC⟩; have DS := DS.below hbC DS.lt; obtain ⟨s0, s1, s2, s3⟩ := DS.four; have hb := hb.trans (hbC.mono hb.size))
        | (go_at_call 39; with_reducible refine (H4.out _ ((hrl.below hb).more hb.size)).mono ?_; rintro e wD ⟨rfl, hbD⟩; have DS := DS.below hbD DS.lt; obtain ⟨s0, s1, s2, s3⟩ := DS.four; have hb := hb.trans (hbD.mono hb.size)))
    all_goals
      go_wp2_with fail
      go_meet
      exact ⟨_, rfl, rfl, rfl, hb.alloc hb.size _, Blk.new _ _ _, DS.alloc _⟩
  case rest =>
    obtain ⟨g, rfl, rfl, rfl, hb, DE, DS⟩ := hcut
    have hFE := firstE_eq E1 E2 E3 E4
    have k0 := DE.cell 0
    have k1 := DE.cell 1
    have k2 := DE.cell 2
    have k3 := DE.cell 3
    simp only [List.getElem?_toArray, List.getElem?_cons_zero, List.getElem?_cons_succ] at k0 k1 k2 k3
    have HFE := Lib.hid hFE
    have HDS := Lib.hid DS
    have HB := Lib.hid hb
    clear hFE DE DS hb hb0
    go_wp2_with fail
    go_loop [26] (fun i => i = .int .i64 0 ∨ (i = .int .i64 1 ∧ Hid (E1 = 0)) ∨ (i = .int .i64 2 ∧ Hid (E1 = 0 ∧ E2 = 0)) ∨ (i = .int .i64 3 ∧ Hid (E1 = 0 ∧ E2 = 0 ∧ E3 = 0)) ∨ (i = .int .i64 4 ∧ Hid (E1 = 0 ∧ E2 = 0 ∧ E3 = 0 ∧ E4 = 0))) (fun i => 4 - (intOf i).toNat)
    case atStart => exact .inl rfl
    case round =>
      rcases hrel with rfl | ⟨rfl, H0⟩ | ⟨rfl, H0⟩ | ⟨rfl, H0⟩ | ⟨rfl, H0⟩
      · by_cases hz : E1 = 0
        · have HZ : Hid (E1 = 0) := by show _; exact hz
          have hz1 : (E1 != 0) = false := by simp [hz]
          clear hz
          go_wp2_with fail
          go_round
          case rel => exact .inr (.inl ⟨rfl, HZ⟩)
          case measure => simp [intOf]
        · have HR : Hid (F = E1) := by
            show _ = _
            rw [HSE.out, HFE.out]
            simp [hz]
          have hz1 : (E1 != 0) = true := by simp [hz]
          clear hz
          go_wp2_with fail
          go_ret
          exact ⟨by rw [HR.out]; simp, HB.out⟩
      · by_cases hz : E2 = 0
        · have HZ : Hid (E1 = 0 ∧ E2 = 0) := by show _; exact ⟨H0.out, hz⟩
          have hz1 : (E2 != 0) = false := by simp [hz]
          clear hz
          go_wp2_with fail
          go_round
          case rel => exact .inr (.inr (.inl ⟨rfl, HZ⟩))
          case measure => simp [intOf]
        · have HR : Hid (F = E2) := by
            show _ = _
            rw [HSE.out, HFE.out]
            have H1 := H0.out
            simp [hz, H1]
          have hz1 : (E2 != 0) = true := by simp [hz]
          clear hz
          go_wp2_with fail
          go_ret
          exact ⟨by rw [HR.out]; simp, HB.out⟩
      · by_cases hz : E3 = 0
        · have HZ : Hid (E1 = 0 ∧ E2 = 0 ∧ E3 = 0) := by show _; exact ⟨H0.out.1, H0.out.2, hz⟩
          have hz1 : (E3 != 0) = false := by simp [hz]
          clear hz
          go_wp2_with fail
          go_round
          case rel => exact .inr (.inr (.inr (.inl ⟨rfl, HZ⟩)))
          case measure => simp [intOf]
        · have HR : Hid (F = E3) := by
            show _ = _
            rw [HSE.out, HFE.out]
            have H1 := H0.out
            simp [hz, H1]
          have hz1 : (E3 != 0) = true := by simp [hz]
          clear hz
          go_wp2_with fail
          go_ret
          exact ⟨by rw [HR.out]; simp, HB.out⟩
      · by_cases hz : E4 = 0
        · have HZ : Hid (E1 = 0 ∧ E2 = 0 ∧ E3 = 0 ∧ E4 = 0) := by show _; exact ⟨H0.out.1, H0.out.2.1, H0.out.2.2, hz⟩
          have hz1 : (E4 != 0) = false := by simp [hz]
          clear hz
          go_wp2_with fail
          go_round
          case rel => exact .inr (.inr (.inr (.inr ⟨rfl, HZ⟩)))
          case measure => simp [intOf]
        · have HR : Hid (F = E4) := by
            show _ = _
            rw [HSE.out, HFE.out]
            have H1 := H0.out
            simp [hz, H1]
          have hz1 : (E4 != 0) = true := by simp [hz]
          clear hz
          go_wp2_with fail
          go_ret
          exact ⟨by rw [HR.out]; simp, HB.out⟩
      · obtain ⟨rfl, rfl, rfl, rfl⟩ := H0.out
        have hrE := HE2.out
        have hpE := (pinE_ok.1 HE3.out)
        have hhE := (handE_ok.1 HE4.out).1
        have hcE := HE1.out
        have hF : F = if (fromL r l p).all (fun x => decide (x ∈ begsL (spotsL a))) = true then 0 else 5 := by rw [HSE.out, HFE.out]; simp
        have hpn16 : pn ≤ 16 := by have := hrp.1; rw [runsC_length] at this; have := hpE.len; omega
        have hhn16 : hn ≤ 16 := by have := hrl.1; rw [slotsC_length] at this; omega
        have HFr := Lib.hid (fun w hrr hrp hrl => from_any A n c RA rn rc PA pn pc HA hn hc r p l w hrr hrp hrl hpn16 hhn16 hrE)
        have HHF := Lib.hid hF
        have HCE := Lib.hid hcE
        have HAt := Lib.hid (at_cases hcE)
        have HA0 := Lib.hid (fun x w hr (hix : atIx a x < 0) => at_none A n c a x w hr hnc ha hcE hix)
        have HA1 := Lib.hid (fun x i s w hr (hix : atIx a x = (i : Nat)) hs => at_ok A n c a x i s w hr hnc ha hcE hix hs)
        have hLl : (fromL r l p).length ≤ 64 := by
          have g1 := fromL_length r l p
          have g2 := (rootE_ok hrE).2.2.1
          have g3 := hpE.len
          omega
        generalize fromL r l p = L at *
        have hb := HB.out
        have DS := HDS.out
        obtain ⟨s0, s1, s2, s3⟩ := DS.four
        clear hF hcE hrE hpE hhE HSE HFE H1 H2 H3 H4 HE1 HE2 HE3 HE4 H0 k0 k1 k2 k3
        go_wp2_with fail
        refine (HFr.out _ ((hrr.below hb).more hb.size) ((hrp.below hb).more hb.size) ((hrl.below hb).more hb.size)).mono ?_
        rintro e w5 ⟨A5, c5, rfl, hown5, hb5⟩
        have hrL := Reads.of_own hown5
        have DS5 := DS.below hb5 DS.lt
        have hb05 := below_step hb hb5
        obtain ⟨m, hm⟩ : ∃ m, m = L.length := ⟨_, rfl⟩
        rw [← hm] at hrL hLl ⊢
        have HM := Lib.hid hm
        clear hm hown5 DS s0 s1 s2 s3 hb hb5
        go_wp2_with fail
        go_loopw [37] (fun i wr => ∃ j : Nat, j ≤ m ∧ i = .int .i64 j ∧ Hid (∀ x ∈ L.take j, x ∈ begsL (spotsL a)) ∧ Below w5.heap.size w5 wr) (fun i _ => m - (intOf i).toNat)
        case atStart => exact ⟨0, Nat.zero_le _, rfl, by intro x hx; simp at hx, Below.refl _ _⟩
        case round =>
          obtain ⟨j, hj, rfl, HI, hb⟩ := hrel
          have hbr := below_step hb05 hb
          have DSr := DS5.below hb DS5.lt
          obtain ⟨s0, s1, s2, s3⟩ := DSr.four
          by_cases hlt : j < m
          · obtain ⟨ad, x, rfl, had, hx, k0⟩ := (hrL.below hb).num hlt
            have HT : Hid (L.take (j + 1) = L.take j ++ [x]) := by
              show _ = _
              obtain ⟨h1, rfl⟩ := List.getElem?_eq_some_iff.1 hx
              exact List.take_succ_eq_append_getElem h1
            have HX : Hid (x ∈ L) := List.mem_of_getElem? hx
            have HNO : Hid (x ∉ begsL (spotsL a) → F = 5) := fun h => by
              rw [HHF.out, if_neg]
              intro h2
              exact h (of_decide_eq_true (List.all_eq_true.1 h2 x HX.out))
            have hj1 : j + 1 ≤ m := hlt
            have hrW := (hra.below hbr).more hbr.size
            clear hx DS5 DSr
            rcases HAt.out x with ⟨hix, hnb⟩ | ⟨i, sp, hix, hsp, hiff⟩
            · have HN := Lib.hid (HA0.out x _ hrW hix)
              have HR : Hid (F = 5) := HNO.out hnb
              clear hix hnb
              go_wp2_with fail
              refine HN.out.mono ?_
              rintro e w6 ⟨rfl, hb6⟩
              have hb06 := below_step hbr hb6
              go_wp2_with fail
              go_ret
              exact ⟨by rw [HR.out]; simp, hb06.alloc hb06.size _⟩
            · have HN := Lib.hid (HA1.out x i sp _ hrW hix hsp)
              obtain ⟨loc, r0, b0, t0, f0⟩ := sp
              dsimp only at hiff
              have HIF := Lib.hid hiff
              clear hix hsp hiff
              cases f0
              · have HI2 : Hid (∀ y ∈ L.take (j + 1), y ∈ begsL (spotsL a)) := by
                  intro y hy
                  rw [HT.out, List.mem_append] at hy
                  rcases hy with hy | hy
                  · exact HI.out y hy
                  · simp only [List.mem_cons, List.not_mem_nil, or_false] at hy
                    subst hy
                    exact HIF.out.2 rfl
                go_wp2_with fail
                refine HN.out.mono ?_
                rintro e w6 ⟨hb6, A6, c6, A7, c7, rfl, -, -⟩
                have hb7 := hb.trans (hb6.mono hb.size)
                go_wp2_with fail
                go_roundw
                case rel => exact ⟨j + 1, hj1, by go_num, HI2, hb7.alloc hb7.size _⟩
                case measure => simp [intOf]; omega
              · have HR : Hid (F = 5) := HNO.out (fun h => by have := HIF.out.1 h; cases this)
                go_wp2_with fail
                refine HN.out.mono ?_
                rintro e w6 ⟨hb6, A6, c6, A7, c7, rfl, -, -⟩
                have hb06 := below_step hbr hb6
                go_wp2_with fail
                go_ret
                exact ⟨by rw [HR.out]; simp, hb06.alloc hb06.size _⟩
          · have hjm : j = m := by omega
            have e : L.take j = L := List.take_of_length_le (by rw [← HM.out]; omega)
            rw [e] at HI
            have HR : Hid (F = 0) := by
              show _ = _
              rw [HHF.out, if_pos]
              exact List.all_eq_true.2 (fun x hx => decide_eq_true (HI.out x hx))
            clear e
            go_wp2_with fail
            go_ret
            exact ⟨by rw [HR.out]; simp, hbr⟩
end Go.Proofs.Ytbmkbnalembbjaa

namespace Go.Proofs.Ytbmkbnalembbjaa
open Go.RowKit
theorem rdw_word (r b t : Int) (f : Bool) (h : headE r b t f = 0) : readOk (wordOf r b t f) ∧ rdR (wordOf r b t f) = r ∧ rdB (wordOf r b t f) = b ∧ rdT (wordOf r b t f) = t ∧ rdF (wordOf r b t f) = f ∧ 0 ≤ wordOf r b t f ∧ wordOf r b t f < 18446744073709551616 := by
  obtain ⟨h1, h2, h3, h4, h5, h6, h7, h8⟩ := headE_ok.1 h
  have hF : (if f then 281474976710656 else 0 : Int) = 0 ∧ f = false ∨ (if f then 281474976710656 else 0 : Int) = 281474976710656 ∧ f = true := by cases f <;> simp
  have e1 : rdR (wordOf r b t f) = r := by unfold rdR wordOf; rcases hF with ⟨h, _⟩ | ⟨h, _⟩ <;> rw [h] <;> omega
  have e2 : rdB (wordOf r b t f) = b := by unfold rdB wordOf; rcases hF with ⟨h, _⟩ | ⟨h, _⟩ <;> rw [h] <;> omega
  have e3 : rdT (wordOf r b t f) = t := by unfold rdT wordOf; rcases hF with ⟨h, _⟩ | ⟨h, _⟩ <;> rw [h] <;> omega
  have e4 : rdF (wordOf r b t f) = f := by
    unfold rdF wordOf
    rcases hF with ⟨h, h'⟩ | ⟨h, h'⟩
    · rw [h, h', decide_eq_false]; omega
    · rw [h, h', decide_eq_true]; omega
  have e5 : 0 ≤ wordOf r b t f ∧ wordOf r b t f < 562949953421312 := by unfold wordOf; rcases hF with ⟨h, _⟩ | ⟨h, _⟩ <;> rw [h] <;> omega
  refine ⟨⟨by omega, by rw [e1, e2, e3, e4]; exact h⟩, e1, e2, e3, e4, e5.1, by omega⟩
structure Chk where
  r : Int
  b : Int
  t : Int
  f : Bool
  pay : List Int
def Chk.ok (c : Chk) : Prop := headE c.r c.b c.t c.f = 0 ∧ (c.pay.length : Int) = c.r + c.b
def chkW (c : Chk) : List Int := wordOf c.r c.b c.t c.f :: c.pay
def chunksW (cs : List Chk) : List Int := cs.flatMap chkW
def Chk.spot (i : Nat) (c : Chk) : Spot := ⟨i, c.r, c.b, c.t, c.f⟩
def Chk.len (c : Chk) : Nat := 1 + c.pay.length
def spotsFrom : Nat → List Chk → List Spot
  | _, [] => []
  | i, c :: cs => c.spot i :: spotsFrom (i + c.len) cs
theorem chkW_length (c : Chk) : (chkW c).length = c.len := by simp [chkW, Chk.len]; omega
theorem chunksW_cons (c : Chk) (cs : List Chk) : chunksW (c :: cs) = chkW c ++ chunksW cs := rfl
theorem chunksW_append (cs ds : List Chk) : chunksW (cs ++ ds) = chunksW cs ++ chunksW ds := by simp [chunksW]
theorem Chk.long {c : Chk} (h : c.ok) (i : Nat) : (c.spot i).long = c.len := by
  have := h.2
  simp only [Spot.long, Chk.spot, Chk.len]
  omega
theorem chunks_parse : ∀ (cs : List Chk) (pre : List Int), (∀ c ∈ cs, c.ok) → Parse (pre ++ chunksW cs) pre.length (spotsFrom pre.length cs) := by
  intro cs
  induction cs with
  | nil => intro pre _; show _ = _; simp [chunksW]
  | cons c cs ih =>
    intro pre hok
    have hc := hok c List.mem_cons_self
    obtain ⟨w1, w2, w3, w4, w5, -⟩ := rdw_word c.r c.b c.t c.f hc.1
    have hg : (pre ++ chunksW (c :: cs)).getD pre.length 0 = wordOf c.r c.b c.t c.f := by
      rw [List.getD_eq_getElem?_getD, chunksW_cons, chkW, List.getElem?_append_right (Nat.le_refl _)]
      simp
    have hE := headE_ok.1 hc.1
    have hh : hlen (wordOf c.r c.b c.t c.f) = c.len := by
      have := hc.2
      unfold hlen Chk.len
      rw [w2, w3]
      omega
    have hL : (pre ++ chunksW (c :: cs)).length = pre.length + c.len + (chunksW cs).length := by rw [chunksW_cons, List.length_append, List.length_append, chkW_length]; omega
    have hpos : 1 ≤ c.len := by unfold Chk.len; omega
    refine ⟨by rw [hL]; omega, by rw [hg]; exact w1, ?_, by rw [hg, hh, hL]; omega, ?_⟩
    · rw [hg]
      simp only [spotOf, Chk.spot]
      rw [w2, w3, w4, w5]
    · rw [hg, hh]
      have := ih (pre ++ chkW c) (fun d hd => hok d (List.mem_cons_of_mem _ hd))
      rw [List.length_append, chkW_length, List.append_assoc] at this
      exact this
theorem chunks_spots {cs : List Chk} (hok : ∀ c ∈ cs, c.ok) (hl : (chunksW cs).length ≤ 256) : spotsE (chunksW cs) = 0 ∧ spotsL (chunksW cs) = spotsFrom 0 cs := by
  have h := spotsAt_parse _ _ _ (chunks_parse cs [] hok)
  simp only [List.nil_append, List.length_nil] at h
  have hn : ¬ 256 < (chunksW cs).length := by omega
  unfold spotsE spotsL
  rw [h, if_neg hn, if_neg hn]
  exact ⟨rfl, rfl⟩
def starts : Nat → List Chk → List Int
  | _, [] => []
  | i, c :: cs => (if c.f then [] else [(i : Int) + 1]) ++ starts (i + c.len) cs
theorem placeC_some {l : List Spot} {v : Int} : (placeF l v).isSome = true ↔ v = 0 ∨ ∃ s ∈ l, isPlace v s = true := by
  unfold placeF
  by_cases h : v = 0
  · simp [h]
  · rw [if_neg h, Option.isSome_map]
    rw [List.findIdx?_isSome]
    simp [h]
theorem starts_mem {v : Int} : ∀ (cs : List Chk) (i : Nat), (∃ s ∈ spotsFrom i cs, isPlace v s = true) ↔ v ∈ starts i cs := by
  intro cs
  induction cs with
  | nil => intro i; simp [spotsFrom, starts]
  | cons c cs ih =>
    intro i
    simp only [spotsFrom, starts, List.mem_cons, List.mem_append]
    rw [← ih (i + c.len)]
    constructor
    · rintro ⟨s, rfl | hs, hp⟩
      · left
        simp only [isPlace, Chk.spot, Bool.and_eq_true, Bool.not_eq_true', beq_iff_eq] at hp
        rw [hp.1, if_neg (by decide)]
        rw [List.mem_singleton, hp.2]
      · right; exact ⟨s, hs, hp⟩
    · rintro (h | ⟨s, hs, hp⟩)
      · refine ⟨_, .inl rfl, ?_⟩
        cases hf : c.f
        · rw [hf, if_neg (by decide), List.mem_singleton] at h
          simp [isPlace, Chk.spot, hf, h]
        · rw [hf, if_pos rfl] at h
          cases h
      · exact ⟨s, .inr hs, hp⟩
theorem refs_all (P : Int → Bool) : ∀ (cs : List Chk) (pre : List Int), (∀ c ∈ cs, c.ok) → ((spotsFrom pre.length cs).all (fun s => (refsOf (pre ++ chunksW cs) s).all P) = true ↔ ∀ c ∈ cs, ∀ v ∈ c.pay.take c.r.toNat, P v = true) := by
  intro cs
  induction cs with
  | nil => intro pre _; simp [spotsFrom]
  | cons c cs ih =>
    intro pre hok
    have hc := hok c List.mem_cons_self
    have hE := headE_ok.1 hc.1
    have hp := hc.2
    have h1 : refsOf (pre ++ chunksW (c :: cs)) (c.spot pre.length) = c.pay.take c.r.toNat := by
      simp only [refsOf, Chk.spot, Int.toNat_natCast]
      rw [chunksW_cons, chkW, List.drop_append, List.drop_of_length_le (by omega), List.nil_append, show pre.length + 1 - pre.length = 1 by omega, List.cons_append, List.drop_succ_cons, List.drop_zero, List.take_append_of_le_length (by omega)]
    have h2 := ih (pre ++ chkW c) (fun d hd => hok d (List.mem_cons_of_mem _ hd))
    rw [List.length_append, chkW_length, List.append_assoc, ← chunksW_cons] at h2
    simp only [spotsFrom, List.all_cons, Bool.and_eq_true, List.forall_mem_cons]
    rw [h1, h2, List.all_eq_true]
def refsC (cs : List Chk) : Prop := ∀ c ∈ cs, ∀ v ∈ c.pay.take c.r.toNat, v = 0 ∨ v ∈ starts 0 cs
theorem chunks_refs {cs : List Chk} (hok : ∀ c ∈ cs, c.ok) : refsOk (spotsFrom 0 cs) (chunksW cs) = true ↔ refsC cs := by
  have := refs_all (fun v => (placeF (spotsFrom 0 cs) v).isSome) cs [] hok
  simp only [List.length_nil, List.nil_append] at this
  unfold refsOk refsC
  rw [this]
  constructor
  · intro h c hc v hv
    have := placeC_some.1 (h c hc v hv)
    rwa [starts_mem] at this
  · intro h c hc v hv
    have := h c hc v hv
    rw [← starts_mem] at this
    exact placeC_some.2 this
theorem checkE_chunks {cs : List Chk} (hok : ∀ c ∈ cs, c.ok) (hl : (chunksW cs).length ≤ 256) : checkE (chunksW cs) = 0 ↔ refsC cs := by
  obtain ⟨h1, h2⟩ := chunks_spots hok hl
  rw [checkE_ok, h2, chunks_refs hok]
  exact ⟨fun h => h.2, fun h => ⟨h1, h⟩⟩
end Go.Proofs.Ytbmkbnalembbjaa

namespace Go.Proofs.Ytbmkbnalembbjaa
open Go.RowKit
def freeC (p : Nat) : Chk := ⟨0, (p : Int) - 1, 0, true, List.replicate (p - 1) 0⟩
def flushC (p : Nat) : List Chk := if p = 0 then [] else [freeC p]
def joinP : Nat → List Chk → List Chk
  | p, [] => flushC p
  | p, c :: cs => if c.f then joinP (p + c.len) cs else flushC p ++ c :: joinP 0 cs
def flushG (i p : Nat) : List Rn := if p = 0 then [] else [⟨i, p⟩]
def gapsP : Nat → Nat → List Chk → List Rn
  | i, p, [] => flushG (i - p) p
  | i, p, c :: cs => if c.f then gapsP (i + c.len) (p + c.len) cs else flushG (i - p) p ++ gapsP (i + c.len) 0 cs
theorem freeC_len {p : Nat} (h : p ≠ 0) : (freeC p).len = p := by unfold Chk.len freeC; rw [List.length_replicate]; omega
theorem freeC_f (p : Nat) : (freeC p).f = true := rfl
theorem freeC_ok {p : Nat} (h : p ≠ 0) (h2 : p ≤ 256) : (freeC p).ok := by
  refine ⟨headE_ok.2 ?_, ?_⟩
  · unfold freeC; dsimp only; refine ⟨by omega, by omega, by omega, by omega, by omega, by omega, by omega, fun _ => ⟨rfl, rfl⟩⟩
  · unfold freeC; dsimp only; rw [List.length_replicate]; omega
theorem flushC_length (p : Nat) : (chunksW (flushC p)).length = p := by
  unfold flushC
  by_cases h : p = 0
  · rw [if_pos h, h]; rfl
  · rw [if_neg h, chunksW_cons, List.length_append, chkW_length, freeC_len h]; rfl
theorem gapsA_chunks : ∀ (cs : List Chk) (i p : Nat) (acc : List Rn), p ≤ i → (∀ c ∈ cs, c.ok) → gapsA (acc ++ flushG (i - p) p) (decide (0 < p)) (spotsFrom i cs) = acc ++ gapsP i p cs := by
  intro cs
  induction cs with
  | nil => intro i p acc _ _; simp only [spotsFrom, gapsA, gapsP]
  | cons c cs ih =>
    intro i p acc hp hok
    have hc := hok c List.mem_cons_self
    have hok' : ∀ d ∈ cs, d.ok := fun d hd => hok d (List.mem_cons_of_mem _ hd)
    have hpos : 1 ≤ c.len := by unfold Chk.len; omega
    simp only [spotsFrom, gapsA, gapsP]
    rw [Chk.long hc]
    have hsf : (c.spot i).f = c.f := rfl
    have hsl : (c.spot i).loc = i := rfl
    rw [hsf, hsl]
    cases hf : c.f
    · rw [if_pos rfl, if_neg (by decide)]
      have := ih (i + c.len) 0 (acc ++ flushG (i - p) p) (by omega) hok'
      rw [List.append_assoc] at this
      simpa [flushG] using this
    · rw [if_neg (by decide), if_pos rfl]
      have := ih (i + c.len) (p + c.len) acc (by omega) hok'
      rw [show i + c.len - (p + c.len) = i - p by omega] at this
      rw [decide_eq_true (by omega)] at this
      rw [← this]
      by_cases h0 : p = 0
      · rw [if_neg (by simp [h0])]
        subst h0
        have e1 : flushG (i - 0) 0 = [] := rfl
        have e2 : flushG (i - 0) (0 + c.len) = [⟨i, c.len⟩] := by unfold flushG; rw [if_neg (by omega)]; simp
        rw [e1, e2, List.append_nil]
      · rw [if_pos (by simp; omega)]
        simp only [flushG]
        rw [if_neg h0, if_neg (by omega), bump_snoc]
        congr 3
theorem gapsL_chunks {cs : List Chk} (hok : ∀ c ∈ cs, c.ok) : gapsL (spotsFrom 0 cs) = gapsP 0 0 cs := by
  have := gapsA_chunks cs 0 0 [] (by omega) hok
  simpa [flushG, gapsL] using this
def layL (a : List Int) (i n : Nat) : List Int := if n = 0 then a else (fillL a i n 0).set i (wordOf 0 ((n : Int) - 1) 0 true)
def joinL (a : List Int) (l : List Rn) : List Int := l.foldl (fun a r => layL a r.loc.toNat r.len.toNat) a
structure JoinOk (a b : List Int) (l : List Rn) : Prop where
  len : b.length = a.length
  check : checkE b = 0
  gaps : gapsL (spotsL b) = l
  again : joinL b l = b
  free : ((spotsL b).filter (·.f)).length = l.length
  out : ∀ k : Nat, b[k]? = a[k]? ∨ ∃ r ∈ l, r.loc ≤ (k : Int) ∧ (k : Int) - r.loc < r.len
  runs : ∀ r ∈ l, ∃ i n : Nat, r = ⟨i, n⟩ ∧ 1 ≤ n ∧ i + n ≤ a.length
end Go.Proofs.Ytbmkbnalembbjaa

namespace Go.Proofs.Ytbmkbnalembbjaa
open Go.RowKit
def risesP : List Int → Bool
  | a :: b :: t => decide (a < b) && risesP (b :: t)
  | _ => true
theorem risesP_pairwise : ∀ {l : List Int}, risesP l = true → l.Pairwise (· < ·)
  | [], _ => List.Pairwise.nil
  | [_], _ => by simp
  | a :: b :: t, h => by
    simp only [risesP, Bool.and_eq_true, decide_eq_true_eq] at h
    have ih := risesP_pairwise h.2
    refine List.pairwise_cons.2 ⟨fun x hx => ?_, ih⟩
    rcases List.mem_cons.1 hx with rfl | hx
    · exact h.1
    · have := (List.pairwise_cons.1 ih).1 x hx
      omega
def pL (x : Int) (s : Spot) : Bool := (s.loc == x) && !s.f
def longAt (S : List Spot) (x : Int) : Int := match S[(ixOf (pL x) S).toNat]? with | some s => s.long | none => 0
def longsE (a keep pinned : List Int) : Int :=
  if checkE a ≠ 0 then checkE a else if (!risesP keep || !risesP pinned) = true then 3 else if keep.any (fun x => decide (ixOf (pL x) (spotsL a) < 0)) = true then 5 else if pinned.any (fun x => !decide (x ∈ keep)) = true then 5 else 0
def longsV (a keep pinned : List Int) : List Int := if longsE a keep pinned = 0 then keep.map (longAt (spotsL a)) else []
theorem longsE_ok {a keep pinned : List Int} : longsE a keep pinned = 0 ↔ checkE a = 0 ∧ risesP keep = true ∧ risesP pinned = true ∧ (∀ x ∈ keep, 0 ≤ ixOf (pL x) (spotsL a)) ∧ ∀ x ∈ pinned, x ∈ keep := by
  unfold longsE
  by_cases h1 : checkE a = 0
  · rw [if_neg (by simpa using h1)]
    by_cases h2 : (!risesP keep || !risesP pinned) = true
    · rw [if_pos h2]
      constructor
      · intro h; cases h
      · rintro ⟨_, h3, h4, _⟩; rw [h3, h4] at h2; cases h2
    · rw [if_neg h2]
      have h3 : risesP keep = true ∧ risesP pinned = true := by simpa using h2
      by_cases h4 : keep.any (fun x => decide (ixOf (pL x) (spotsL a) < 0)) = true
      · rw [if_pos h4]
        constructor
        · intro h; cases h
        · rintro ⟨_, _, _, h5, _⟩
          obtain ⟨x, hx, hd⟩ := List.any_eq_true.1 h4
          have := h5 x hx
          simp only [decide_eq_true_eq] at hd
          omega
      · rw [if_neg h4]
        have h5 : ∀ x ∈ keep, 0 ≤ ixOf (pL x) (spotsL a) := by
          intro x hx
          rcases Int.lt_or_le (ixOf (pL x) (spotsL a)) 0 with h | h
          · exact absurd (List.any_eq_true.2 ⟨x, hx, decide_eq_true h⟩) h4
          · exact h
        by_cases h6 : pinned.any (fun x => !decide (x ∈ keep)) = true
        · rw [if_pos h6]
          constructor
          · intro h; cases h
          · rintro ⟨_, _, _, _, h7⟩
            obtain ⟨x, hx, hd⟩ := List.any_eq_true.1 h6
            rw [decide_eq_true (h7 x hx)] at hd
            cases hd
        · rw [if_neg h6]
          refine ⟨fun _ => ⟨h1, h3.1, h3.2, h5, fun x hx => ?_⟩, fun _ => rfl⟩
          by_cases hk : x ∈ keep
          · exact hk
          · exact absurd (List.any_eq_true.2 ⟨x, hx, by rw [decide_eq_false hk]; rfl⟩) h6
  · rw [if_pos h1]
    exact ⟨fun h => absurd h h1, fun h => absurd h.1 h1⟩
def slidGo (pinned : List Int) : Int → List Int → List Int → List Int
  | e, x :: ks, n :: ls => (if x ∈ pinned then x else e) :: slidGo pinned ((if x ∈ pinned then x else e) + n) ks ls
  | _, _, _ => []
def pgaps (N : Int) : Int → List Int → List Int → List Rn
  | e, y :: ys, n :: ns => (if e < y then [⟨e, y - e⟩] else []) ++ pgaps N (y + n) ys ns
  | e, _, _ => if e < N then [⟨e, N - e⟩] else []
structure Kept (N : Int) (keep long : List Int) : Prop where
  same : long.length = keep.length
  at_ : ∀ (j : Nat) (x n : Int), keep[j]? = some x → long[j]? = some n → 0 ≤ x ∧ 1 ≤ n ∧ n ≤ 256 ∧ x + n ≤ N
  next : ∀ (j : Nat) (x n y : Int), keep[j]? = some x → long[j]? = some n → keep[j + 1]? = some y → x + n ≤ y
theorem spots_of_ix {a : List Int} (h : spotsE a = 0) {x : Int} (hx : 0 ≤ ixOf (pL x) (spotsL a)) :
    ∃ (i : Nat) (s : Spot), ixOf (pL x) (spotsL a) = i ∧ (spotsL a)[i]? = some s ∧ s.loc = x ∧ s.f = false ∧ SpotOk a s ∧ longAt (spotsL a) x = s.long ∧ ixOf (fun s => s.loc == x) (spotsL a) = i := by
  rcases ixOf_cases (pL x) (spotsL a) with ⟨h1, -⟩ | ⟨i, s, h1, h2, h3, h4⟩
  · omega
  · have h3' : s.loc = x ∧ s.f = false := by simpa [pL] using h3
    refine ⟨i, s, h1, h2, h3'.1, h3'.2, ((parse_mem (parse_ok h).2) s (List.mem_of_getElem? h2)).1, ?_, ?_⟩
    · unfold longAt
      rw [h1, Int.toNat_natCast, h2]
    · refine ixOf_some h2 (by simp [h3'.1]) (fun y hy => ?_)
      have hr := spots_rise h
      rw [List.mem_take_iff_getElem] at hy
      obtain ⟨j, hj, rfl⟩ := hy
      obtain ⟨hi, rfl⟩ := List.getElem?_eq_some_iff.1 h2
      have := List.pairwise_iff_getElem.1 hr j i (by omega) hi (by omega)
      simp only [beq_eq_false_iff_ne]
      omega
theorem kept_of {a keep pinned : List Int} (h : longsE a keep pinned = 0) : Kept a.length keep (longsV a keep pinned) ∧ (a.length : Int) ≤ 256 := by
  obtain ⟨h1, h2, h3, h4, h5⟩ := longsE_ok.1 h
  have hE := (checkE_ok.1 h1).1
  have hlen := (parse_ok hE).1
  have hV : longsV a keep pinned = keep.map (longAt (spotsL a)) := by unfold longsV; rw [if_pos h]
  have hat : ∀ (j : Nat) (x n : Int), keep[j]? = some x → (longsV a keep pinned)[j]? = some n → ∃ s ∈ spotsL a, s.loc = x ∧ s.long = n ∧ SpotOk a s := by
    intro j x n hx hn
    rw [hV, List.getElem?_map, hx] at hn
    obtain ⟨i, s, -, hs, hl, -, hok, hlg, -⟩ := spots_of_ix hE (h4 x (List.mem_of_getElem? hx))
    refine ⟨s, List.mem_of_getElem? hs, hl, ?_, hok⟩
    rw [← hlg]
    exact Option.some.inj hn
  refine ⟨⟨by rw [hV, List.length_map], fun j x n hx hn => ?_, fun j x n y hx hn hy => ?_⟩, by omega⟩
  · obtain ⟨s, hs, rfl, rfl, hok⟩ := hat j x n hx hn
    have := hok.loc0
    have := hok.r0
    have := hok.b0
    have := hok.fits
    have := hok.fit256
    unfold Spot.long at *
    omega
  · obtain ⟨s, hs, rfl, rfl, hok⟩ := hat j x n hx hn
    obtain ⟨i2, t, -, ht, hl2, -, hok2, -, -⟩ := spots_of_ix hE (h4 y (List.mem_of_getElem? hy))
    have hlt : s.loc < y := by
      obtain ⟨ha, rfl⟩ := List.getElem?_eq_some_iff.1 hy
      obtain ⟨hb, hb2⟩ := List.getElem?_eq_some_iff.1 hx
      have := List.pairwise_iff_getElem.1 (risesP_pairwise h2) j (j + 1) hb ha (by omega)
      rw [hb2] at this
      exact this
    have ho := parse_order (parse_ok hE).2
    have hr := spots_rise hE
    obtain ⟨i1, hi1, e1⟩ := List.mem_iff_getElem.1 hs
    obtain ⟨hi2, e2⟩ := List.getElem?_eq_some_iff.1 ht
    rcases Nat.lt_trichotomy i1 i2 with h | h | h
    · have := List.pairwise_iff_getElem.1 ho i1 i2 hi1 hi2 h
      rw [e1, e2] at this
      omega
    · subst h
      rw [e1] at e2
      subst e2
      omega
    · have := List.pairwise_iff_getElem.1 hr i2 i1 hi2 hi1 h
      rw [e1, e2] at this
      omega
end Go.Proofs.Ytbmkbnalembbjaa

namespace Go.Proofs.Ytbmkbnalembbjaa
open Go.RowKit
theorem Kept.tail {N x n : Int} {ks ls : List Int} (h : Kept N (x :: ks) (n :: ls)) : Kept N ks ls :=
  ⟨by have := h.same; simpa using this, fun j x n h1 h2 => h.at_ (j + 1) x n (by simpa using h1) (by simpa using h2), fun j x n y h1 h2 h3 => h.next (j + 1) x n y (by simpa using h1) (by simpa using h2) (by simpa using h3)⟩
structure Slid (N e : Int) (pinned keep L Y : List Int) : Prop where
  len : Y.length = keep.length
  low : ∀ (j : Nat) (y : Int), Y[j]? = some y → e ≤ y
  at_ : ∀ (j : Nat) (x y k : Int), keep[j]? = some x → L[j]? = some k → Y[j]? = some y → y ≤ x ∧ (x ∈ pinned → y = x) ∧ y + k ≤ N ∧ ∀ y', Y[j + 1]? = some y' → y + k ≤ y'
theorem slid_of (N : Int) (pinned : List Int) : ∀ (keep L : List Int) (e : Int), Kept N keep L → (∀ x, keep[0]? = some x → e ≤ x) → Slid N e pinned keep L (slidGo pinned e keep L) := by
  intro keep
  induction keep with
  | nil => intro L e _ _; exact ⟨by simp [slidGo], fun j y h => by simp [slidGo] at h, fun j x y k h => by simp at h⟩
  | cons x ks ih =>
    intro L e hK he
    cases L with
    | nil => have := hK.same; simp at this
    | cons n ls =>
      obtain ⟨x0, n1, n2, hxn⟩ := hK.at_ 0 x n rfl rfl
      have hex := he x rfl
      obtain ⟨z, hz⟩ : ∃ z, z = (if x ∈ pinned then x else e) := ⟨_, rfl⟩
      have hz1 : e ≤ z ∧ z ≤ x := by rw [hz]; split <;> omega
      have hz2 : x ∈ pinned → z = x := fun h => by rw [hz, if_pos h]
      have ih' := ih ls (z + n) hK.tail (fun y hy => by have := hK.next 0 x n y rfl rfl (by simpa using hy); omega)
      have hY : slidGo pinned e (x :: ks) (n :: ls) = z :: slidGo pinned (z + n) ks ls := by simp only [slidGo]; rw [← hz]
      rw [hY]
      refine ⟨by simp [ih'.len], fun j y h => ?_, fun j x' y k h1 h2 h3 => ?_⟩
      · cases j with
        | zero => obtain rfl : z = y := by simpa using h
                  exact hz1.1
        | succ j => have := ih'.low j y (by simpa using h); omega
      · cases j with
        | zero =>
          obtain rfl : x = x' := by simpa using h1
          obtain rfl : n = k := by simpa using h2
          obtain rfl : z = y := by simpa using h3
          exact ⟨hz1.2, hz2, by omega, fun y' h => ih'.low 0 y' (by simpa using h)⟩
        | succ j =>
          obtain ⟨a1, a2, a3, a4⟩ := ih'.at_ j x' y k (by simpa using h1) (by simpa using h2) (by simpa using h3)
          exact ⟨a1, a2, a3, fun y' h => a4 y' (by simpa using h)⟩
def rsum : List Rn → Int
  | [] => 0
  | r :: l => r.len + rsum l
def isum : List Int → Int
  | [] => 0
  | x :: l => x + isum l
theorem rsum_append (a b : List Rn) : rsum (a ++ b) = rsum a + rsum b := by
  induction a with
  | nil => simp [rsum]
  | cons x a ih => simp only [List.cons_append, rsum, ih]; omega
theorem pgaps_sum (N : Int) (pinned : List Int) : ∀ (keep L : List Int) (e : Int), Kept N keep L → (∀ x, keep[0]? = some x → e ≤ x) → e ≤ N → rsum (pgaps N e (slidGo pinned e keep L) L) + isum L = N - e ∧
    ∀ r ∈ pgaps N e (slidGo pinned e keep L) L, 0 ≤ r.len ∧ r.len ≤ N - e := by
  intro keep
  induction keep with
  | nil =>
    intro L e hK _ heN
    cases L with
    | cons n ls => have := hK.same; simp at this
    | nil =>
      simp only [slidGo, pgaps]
      by_cases h : e < N
      · rw [if_pos h]
        refine ⟨by simp [rsum, isum], fun r hr => ?_⟩
        obtain rfl := List.mem_singleton.1 hr
        dsimp only
        omega
      · rw [if_neg h]
        refine ⟨by simp only [rsum, isum]; omega, fun r hr => by cases hr⟩
  | cons x ks ih =>
    intro L e hK he heN
    cases L with
    | nil => have := hK.same; simp at this
    | cons n ls =>
      obtain ⟨x0, n1, n2, hxn⟩ := hK.at_ 0 x n rfl rfl
      have hex := he x rfl
      obtain ⟨z, hz⟩ : ∃ z, z = (if x ∈ pinned then x else e) := ⟨_, rfl⟩
      have hz1 : e ≤ z ∧ z ≤ x := by rw [hz]; split <;> omega
      obtain ⟨i1, i2⟩ := ih ls (z + n) hK.tail (fun y hy => by have := hK.next 0 x n y rfl rfl (by simpa using hy); omega) (by omega)
      have hY : slidGo pinned e (x :: ks) (n :: ls) = z :: slidGo pinned (z + n) ks ls := by simp only [slidGo]; rw [← hz]
      rw [hY]
      simp only [pgaps, isum]
      rw [rsum_append]
      refine ⟨?_, fun r hr => ?_⟩
      · by_cases h : e < z
        · rw [if_pos h]; simp only [rsum]; omega
        · rw [if_neg h]; simp only [rsum]; omega
      · rcases List.mem_append.1 hr with hr | hr
        · by_cases h : e < z
          · rw [if_pos h] at hr
            obtain rfl := List.mem_singleton.1 hr
            dsimp only
            omega
          · rw [if_neg h] at hr; cases hr
        · have := i2 r hr
          omega
theorem pgaps_count (N : Int) (pinned : List Int) : ∀ (keep L : List Int) (e : Int), (pgaps N e (slidGo pinned e keep L) L).length ≤ (keep.filter (fun x => decide (x ∈ pinned))).length + 1 := by
  intro keep
  induction keep with
  | nil =>
    intro L e
    simp only [slidGo, pgaps]
    split <;> simp
  | cons x ks ih =>
    intro L e
    cases L with
    | nil => simp only [slidGo, pgaps]; split <;> simp
    | cons n ls =>
      simp only [slidGo, pgaps, List.length_append]
      by_cases h : x ∈ pinned
      · rw [if_pos h, List.filter_cons_of_pos (by simpa using h)]
        have := ih ls (x + n)
        have h2 : (if e < x then [(⟨e, x - e⟩ : Rn)] else []).length ≤ 1 := by split <;> simp
        simp only [List.length_cons]
        omega
      · rw [if_neg h, List.filter_cons_of_neg (by simpa using h), if_neg (show ¬ e < e by omega)]
        have := ih ls (e + n)
        simp only [List.length_nil]
        omega
theorem nodup_sub : ∀ (l p : List Int), l.Pairwise (· < ·) → (∀ x ∈ l, x ∈ p) → l.length ≤ p.length := by
  intro l
  induction l with
  | nil => intro p _ _; simp
  | cons x l ih =>
    intro p hl hp
    obtain ⟨h1, h2⟩ := List.pairwise_cons.1 hl
    have hx := hp x List.mem_cons_self
    have := ih (p.erase x) h2 (fun y hy => (List.mem_erase_of_ne (by have := h1 y hy; omega)).2 (hp y (List.mem_cons_of_mem _ hy)))
    rw [List.length_erase_of_mem hx] at this
    have : 0 < p.length := List.length_pos_of_mem hx
    simp only [List.length_cons]
    omega
theorem pgaps_few {N : Int} {pinned keep L : List Int} (hr : risesP keep = true) : (pgaps N 0 (slidGo pinned 0 keep L) L).length ≤ pinned.length + 1 := by
  have h1 := pgaps_count N pinned keep L 0
  have h2 := nodup_sub (keep.filter (fun x => decide (x ∈ pinned))) pinned ((risesP_pairwise hr).filter _) (fun x hx => by
    have := (List.mem_filter.1 hx).2
    simpa using this)
  omega
end Go.Proofs.Ytbmkbnalembbjaa
