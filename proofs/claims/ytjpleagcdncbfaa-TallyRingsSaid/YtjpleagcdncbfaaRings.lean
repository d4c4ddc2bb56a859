/-
  package tally: Rings.
-/
import Derived.Test.YtjpleagcdncbfaaTallyCounter
import Derived.Test.YtjpleagcdncbfaaTintFns
namespace Go.Proofs.Ytjpleagcdncbfaa
open Go.RowKit

def ringsL (l M xs : List Int) : List Int := xs.filter fun x => decide (0 < l.count x) && !decide (x ∈ M)
theorem allLinks_sub {a : List Int} {s : Spot} {x : Int} : ∀ {l : List Spot}, s ∈ l → s.f = false → x ∈ linksL a s → x ∈ allLinks a l
  | t :: l, h, hf, hx => by
    simp only [allLinks, List.mem_append]
    rcases List.mem_cons.1 h with rfl | h
    · rw [hf]; exact .inl (by simpa using hx)
    · exact .inr (allLinks_sub h hf hx)
theorem linksAt_sub {a : List Int} {S : List Spot} {x y : Int} (h : x ∈ linksAt a S y) : x ∈ allLinks a S := by
  unfold linksAt at h
  split at h
  · rename_i s hs
    obtain ⟨h1, h2, -⟩ := spotAt_some hs
    exact allLinks_sub h1 h2 h
  · cases h

set_option maxRecDepth 100000 in
set_option maxHeartbeats 2000000 in
theorem rings_ok (A : Option Addr) (n c : Nat) (a : List Int) (A2 : Option Addr) (n2 c2 : Nat) (f : List Int) (w : World) (hr : Reads w w.heap.size 1 A n (a.map (.int .u64))) (hnc : n ≤ c) (ha : ∀ x ∈ a, (Lit.int .u64 x).wf = true)
    (hr2 : Reads w w.heap.size 1 A2 n2 (f.map (.int .i64))) (hn2 : n2 ≤ 1000000000000000000) (hx2 : ∀ x ∈ f, (Lit.int .i64 x).wf = true) (hE : checkE a = 0) (hall : ∀ x ∈ f, x ∈ begsL (spotsL a)) :
    Calls Try.prog 19 #[.slice A n c, .slice A2 n2 c2] w fun e w' => Below w.heap.size w w' ∧
      ∃ (M L : List Int) (A' : Option Addr) (c' : Nat), Reached a (spotsL a) f M ∧ L = ringsL (allLinks a (spotsL a) ++ f) M (begsL (spotsL a)) ∧ L.length ≤ 256 ∧ e = .returned (.tuple #[.slice A' L.length c', .int .i64 0]) ∧ w'.ownsRow w.heap.size 3 1 (.slice A' L.length c') L.length (L.map (.int .i64)) := by
  have h0 := (checkE_ok.1 hE).1
  have H := Lib.hid (fun w hr hr2 => counter_ok A n c a A2 n2 c2 f w hr hnc ha hr2 hn2 hx2 hE)
  have H2 := Lib.hid (fun w hr hr2 => reach_ok A n c a A2 n2 c2 f w hr hnc ha hr2 hn2 hx2 hE)
  have HBb := Lib.hid (begsL_bounds h0)
  have hkb : (begsL (spotsL a)).length ≤ 256 := by
    unfold begsL
    rw [List.length_map]
    have := List.length_filter_le (fun s : Spot => !s.f) (spotsL a)
    have := spotsL_length a
    omega
  have HAll := Lib.hid hall
  generalize spotsL a = S at *
  generalize allLinks a S ++ f = l at *
  obtain ⟨i0, hi, hz0, hz1, hz2⟩ := info_parts info_int
  clear hE h0 ha hx2 hall
  go_enter Try.func19, Try.ntmps19
  go_wp2_with fail
  refine (H.out _ hr hr2).mono ?_
  rintro e w1 ⟨hb1, ⟨-, gh, rfl, hC⟩ | ⟨⟨x, hx, hx2⟩, -⟩⟩
  · have HC := Lib.hid hC
    clear hC
    go_wp2_with fail
    refine (H2.out _ ((hr.below hb1).more hb1.size) ((hr2.below hb1).more hb1.size)).mono ?_
    rintro e w2 ⟨hb2, ⟨M, AM, cM, hM, rfl, hownM⟩ | ⟨⟨x, hx, hx2⟩, -⟩⟩
    · obtain ⟨b1, b2, R0, N1, N2, Ao, k, co, f1, gB, g1, g2, g3, g4, g5, g6, g7, g8, gM1, gM2, g9, g10, g11, gO, gK, gF⟩ := HC.out
      have hM256 : M.length ≤ 256 := nodup_bound 256 M hM.once (fun x hx => HBb.out x (hM.begs x hx))
      obtain ⟨mm, hmm⟩ : ∃ mm, mm = M.length := ⟨_, rfl⟩
      rw [← hmm] at hownM hM256 ⊢
      have HM := Lib.hid hM
      have gB := gB.below hb2 gB.lt
      have gM2 := gM2.below hb2 gM2.lt
      have hrO := Reads.of_own (own_below gO hb2)
      have hrM := Reads.of_own hownM
      have hb02 := below_step hb1 hb2
      have k0 := gB.cell 0
      simp only [List.getElem?_toArray, List.getElem?_cons_zero, List.getElem?_cons_succ] at k0
      have HK := Lib.hid g11
      rw [← g11] at hkb
      have hM2l := gM2.lt
      have hBl := gB.lt
      clear HC hM hownM gM1 gO gK gF g9 g10 g11 g1 g2 g3 g4 g5 g6 g7 g8 hb1 hb2 hmm
      go_wp2
      go_loopw [10, 12, 33] (fun o _ i wr => ∃ (j c' : Nat) (A' : Option Addr) (L : List Int), j ≤ k ∧ i = .int .i64 j ∧ o = .slice A' L.length c' ∧ L.length ≤ j ∧ Hid (L = ringsL l M ((begsL S).take j)) ∧ Hid (wr.ownsRow w2.heap.size 3 1 (.slice A' L.length c') L.length (L.map (.int .i64))) ∧ Below w2.heap.size w2 wr) (fun _ _ i _ => k - (intOf i).toNat)
      case atStart => exact ⟨0, 0, none, [], Nat.zero_le _, rfl, rfl, Nat.le_refl _, by rfl, World.ownsRow_nil _ _ _ _, Below.refl _ _⟩
      case round =>
        obtain ⟨j, c', A', L, hj, rfl, rfl, hLj, HLq, HO, hb⟩ := hrel
        by_cases hlt : j < k
        · obtain ⟨ad, x, e3, had, hx, cx⟩ := (hrO.below hb).num hlt
          have hxb := HBb.out x (List.mem_of_getElem? hx)
          have hwx : (Lit.int .i64 x).wf = true := by simp [Lit.wf, IntKind.min, IntKind.max, IntKind.signed, IntKind.bits]; omega
          have gBr := gB.below hb hBl
          have k2r := gBr.cell 2
          simp only [List.getElem?_toArray, List.getElem?_cons_zero, List.getElem?_cons_succ] at k2r
          have hlC := (gM2.below hb hM2l).look (k := 3) (t := 49) Try.underlying3 Try.underlying49 (zero_intv _) hwx
          rw [manyF_get] at hlC
          have HT : Hid ((begsL S).take (j + 1) = (begsL S).take j ++ [x]) := by
            show _ = _
            obtain ⟨q1, q2⟩ := List.getElem?_eq_some_iff.1 hx
            rw [List.take_succ_eq_append_getElem q1, q2]
          have HR : Hid (ringsL l M ((begsL S).take (j + 1)) = if (decide (0 < l.count x) && !decide (x ∈ M)) = true then L ++ [x] else L) := by
            show _ = _
            rw [HT.out, HLq.out]
            unfold ringsL
            rw [List.filter_append]
            by_cases hp : (decide (0 < l.count x) && !decide (x ∈ M)) = true
            · rw [if_pos hp, List.filter_cons, if_pos hp]; rfl
            · rw [if_neg hp, List.filter_cons, if_neg hp]; simp
          have hj1 : j + 1 ≤ k := hlt
          subst e3
          obtain ⟨C, hC⟩ : ∃ C, C = l.count x := ⟨_, rfl⟩
          rw [← hC] at hlC HR
          clear hC hx hxb gBr
          by_cases h0 : 0 < C
          · have z1 : decide (0 < C) = true := decide_eq_true h0
            have HZ1 := Lib.hid z1
            by_cases hxM : x ∈ M
            · have HCn := Lib.hid (fun u => contains_int AM mm cM _ M x true (wr.drewN u) ((hrM.below hb).below (below_drewN (Below.refl _ _) u)) (by omega) (decide_eq_true hxM))
              have HR2 : Hid (L = ringsL l M ((begsL S).take (j + 1))) := by
                show _ = _
                rw [HR.out, if_neg (by simp [hxM])]
              clear hxM
              go_wp2_with fail
              refine (HCn.out 0).mono ?_
              rintro e w6 ⟨rfl, rfl⟩
              go_wp2
              go_roundw
              case rel => exact ⟨j + 1, c', A', L, hj1, by go_num, rfl, by omega, HR2, HO, hb⟩
              case measure => simp [intOf]; omega
            · have HCn := Lib.hid (contains_int AM mm cM _ M x false wr (hrM.below hb) (by omega) (decide_eq_false hxM))
              have HR2 : Hid (L ++ [x] = ringsL l M ((begsL S).take (j + 1))) := by
                show _ = _
                rw [HR.out, if_pos (by simp [hxM, h0])]
              have hrn := reads_new wr [.int .i64 x] 3 1 1 rfl
              have hOy := HO.out.alloc (.cells #[.int .i64 x] 3)
              have hby := hb.alloc hb.size (.cells #[.int .i64 x] 3)
              have hws := hb.size
              have HLn : Hid ((L ++ [x]).length = L.length + 1) := by show _ = _; rw [List.length_append]; rfl
              obtain ⟨q, hq⟩ : ∃ q, q = L.length := ⟨_, rfl⟩
              rw [← hq] at hOy HLn hLj ⊢
              clear hxM HO hq
              go_wp2_with fail
              refine HCn.out.mono ?_
              rintro e w6 ⟨rfl, rfl⟩
              go_wp2_with (at_builtin; refine wpList_append_any _ rfl (.tmp 50) (.tmp 52) 23 rfl w2.heap.size 3 i0 (.int .i64 0) 1 8 Try.underlying23 hi hz0 hz1 hz2 rfl (by decide) (.slice A' q c') q _ rfl hOy _ (some ⟨wr.heap.size, 0, none⟩) 1 1 [.int .i64 x] rfl hrn (by simp [Value.oneCell']) (by unfold maxLen; omega) (by omega) (by simp; omega) ?_; rintro v' w3 hown3 hgr - -; obtain ⟨A5, c5, rfl⟩ := own_slice hown3)
              go_roundw
              case rel =>
                refine ⟨j + 1, c5, A5, L ++ [x], hj1, by go_num, by rw [HLn.out], by rw [HLn.out]; omega, HR2, ?_, hby.grown hgr hby.size (fun g hg => by have := (hOy.lt g hg).1; omega)⟩
                show World.ownsRow _ _ _ _ _ _ _
                rw [HLn.out, List.map_append]
                exact hown3
              case measure => simp [intOf]; omega
          · have z1 : decide (0 < C) = false := decide_eq_false h0
            have HR2 : Hid (L = ringsL l M ((begsL S).take (j + 1))) := by
              show _ = _
              rw [HR.out, z1, if_neg (by simp)]
            go_wp2
            go_roundw
            case rel => exact ⟨j + 1, c', A', L, hj1, by go_num, rfl, by omega, HR2, HO, hb⟩
            case measure => simp [intOf]; omega
        · have hjk : j = k := by omega
          have HL2 : Hid (L = ringsL l M (begsL S)) := by
            have := HLq.out
            rwa [hjk, List.take_of_length_le (by rw [← HK.out]; exact Nat.le_refl _)] at this
          have g0 : decide (j < k) = false := decide_eq_false hlt
          have hLk : L.length ≤ 256 := by omega
          clear hjk HLq
          go_wp2
          go_ret2
          exact ⟨below_step hb02 hb, M, L, A', c', HM.out, HL2.out, hLk, rfl, own_mono HO.out hb02.size⟩
    · exact absurd (HAll.out x hx) hx2
  · exact absurd (HAll.out x hx) hx2
end Go.Proofs.Ytjpleagcdncbfaa
