/-
  Texts joined: SlidePlan SpliceLaw GapFits Plan Gaps GapFirst WalksTrue.
-/
import Derived.Laws.CopyOwn
import Derived.KernelRfl
import Derived.Test.YtbmkbnalembbjaaGreatDoorRows
import Derived.Deep.RegionHeld3
import Derived.IntWalk
import Derived.Test.YtbmkbnalembbjaaGreatDoorR0
import Derived.Test.YtbmkbnalembbjaaGreatDoorR1
import Derived.Test.YtbmkbnalembbjaaGreatDoorR2
import Derived.Test.YtbmkbnalembbjaaGreatDoorR3
import Derived.Test.YtbmkbnalembbjaaGreatDoorR4
import Derived.Test.YtbmkbnalembbjaaGreatDoorR5
import Derived.Test.YtbmkbnalembbjaaGreatDoorR6
namespace Go.Proofs.YtbmkbnalembbjaaGreatDoor
open Go.RowKit
theorem rows_slid {a : List Int} {φ : Int → Int} (N : Nat) (pinned : List Int) : ∀ (keep L : List Int) (e : Nat), Kept N keep L → (∀ x, keep[0]? = some x → (e : Int) ≤ x) → e ≤ N →
    (∀ (j : Nat) (x k : Int), keep[j]? = some x → L[j]? = some k → (rowAt a φ x).ok ∧ (rowAt a φ x).f = false ∧ ((rowAt a φ x).len : Int) = k) →
    RowsOk N e (List.zipWith (fun x y => (y.toNat, rowAt a φ x)) keep (slidGo pinned e keep L)) ∧ ysOf (List.zipWith (fun x y => (y.toNat, rowAt a φ x)) keep (slidGo pinned e keep L)) = slidGo pinned e keep L ∧
      lensOf (List.zipWith (fun x y => (y.toNat, rowAt a φ x)) keep (slidGo pinned e keep L)) = L := by
  intro keep
  induction keep with
  | nil =>
    intro L e hK _ he _
    cases L with
    | nil => exact ⟨he, rfl, rfl⟩
    | cons n ls => have := hK.same; simp at this
  | cons x ks ih =>
    intro L e hK he heN hrow
    cases L with
    | nil => have := hK.same; simp at this
    | cons n ls =>
      obtain ⟨x0, n1, n2, hxn⟩ := hK.at_ 0 x n rfl rfl
      have hex := he x rfl
      obtain ⟨r1, r2, r3⟩ := hrow 0 x n rfl rfl
      obtain ⟨z, hz⟩ : ∃ z : Nat, (z : Int) = (if x ∈ pinned then x else (e : Int)) := by
        by_cases h : x ∈ pinned
        · rw [if_pos h]; exact ⟨x.toNat, by omega⟩
        · rw [if_neg h]; exact ⟨e, rfl⟩
      have hz1 : e ≤ z ∧ (z : Int) ≤ x := by
        by_cases h : x ∈ pinned
        · rw [if_pos h] at hz; omega
        · rw [if_neg h] at hz; omega
      have hY : slidGo pinned e (x :: ks) (n :: ls) = (z : Int) :: slidGo pinned ((z + (rowAt a φ x).len : Nat) : Int) ks ls := by
        simp only [slidGo]
        rw [← hz, show ((z + (rowAt a φ x).len : Nat) : Int) = (z : Int) + n by omega]
      obtain ⟨i1, i2, i3⟩ := ih ls (z + (rowAt a φ x).len) hK.tail (fun y hy => by have := hK.next 0 x n y rfl rfl (by simpa using hy); omega) (by omega) (fun j x' k h1 h2 => hrow (j + 1) x' k (by simpa using h1) (by simpa using h2))
      rw [hY, List.zipWith_cons_cons]
      simp only [ysOf, lensOf] at i2 i3 ⊢
      rw [List.map_cons, List.map_cons, i2, i3]
      refine ⟨⟨?_, r1, r2, ?_⟩, ?_, ?_⟩
      · rw [Int.toNat_natCast]; exact hz1.1
      · rw [Int.toNat_natCast]; exact i1
      · rw [Int.toNat_natCast]
      · rw [r3]
structure Planned (a keep pinned L Y : List Int) : Prop where
  nodup : keep.Nodup
  len : Y.length = keep.length
  lenL : L.length = keep.length
  nn : ∀ y ∈ Y, 0 ≤ y
  rows : RowsOk a.length 0 (rowsOf a keep Y)
  ys : ysOf (rowsOf a keep Y) = Y
  lens : lensOf (rowsOf a keep Y) = L
  begs : ∀ x ∈ keep, x ∈ begsL (spotsL a)
  nn2 : ∀ x ∈ keep, 0 ≤ x
  at_ : ∀ (j : Nat) (x y : Int), keep[j]? = some x → Y[j]? = some y → ∃ (s : Spot) (i : Nat), spotAt (spotsL a) x = some s ∧ atIx a x = i ∧ (spotsL a)[i]? = some s ∧ SpotOk a s ∧ y + s.long ≤ a.length ∧ L[j]? = some s.long ∧ 0 ≤ y ∧ y ≤ x
theorem pL_isBeg (x : Int) : pL x = isBeg x := by
  funext s
  unfold pL isBeg
  rw [Bool.and_comm]
theorem planned_of {a keep pinned : List Int} (hE : longsE a keep pinned = 0) : Planned a keep pinned (longsV a keep pinned) (slidGo pinned 0 keep (longsV a keep pinned)) := by
  obtain ⟨hK, hN⟩ := kept_of hE
  obtain ⟨h1, h2, h3, h4, h5⟩ := longsE_ok.1 hE
  have h0 := (checkE_ok.1 h1).1
  have hV : longsV a keep pinned = keep.map (longAt (spotsL a)) := by unfold longsV; rw [if_pos hE]
  have hspot : ∀ x ∈ keep, ∃ (s : Spot) (i : Nat), spotAt (spotsL a) x = some s ∧ atIx a x = i ∧ (spotsL a)[i]? = some s ∧ SpotOk a s ∧ longAt (spotsL a) x = s.long := by
    intro x hx
    obtain ⟨i, s, e1, e2, e3, e4, e5, e6, e7⟩ := spots_of_ix h0 (h4 x hx)
    refine ⟨s, i, ?_, e7, e2, e5, e6⟩
    unfold spotAt
    rw [← pL_isBeg]
    rcases ixOf_cases (pL x) (spotsL a) with ⟨f1, f2⟩ | ⟨i', s', f1, f2, f3, f4⟩
    · have := f2 s (List.mem_of_getElem? e2)
      simp [pL, e3, e4] at this
    · have : i' = i := by omega
      subst this
      obtain rfl := Option.some.inj (f2.symm.trans e2)
      rw [List.find?_eq_some_iff_append]
      refine ⟨f3, (spotsL a).take i', (spotsL a).drop (i' + 1), ?_, fun y hy => by simp [f4 y hy]⟩
      obtain ⟨q1, q2⟩ := List.getElem?_eq_some_iff.1 f2
      rw [← q2, ← List.drop_eq_getElem_cons q1, List.take_append_drop]
  have hn : keep.Nodup := by
    rw [List.nodup_iff_pairwise_ne]
    exact (risesP_pairwise h2).imp (fun h => by omega)
  have he : ∀ x, keep[0]? = some x → (0 : Int) ≤ x := fun x hx => by
    obtain ⟨s, i, e1, -, -, e4, -⟩ := hspot x (List.mem_of_getElem? hx)
    have := e4.loc0
    have := (spotAt_some e1).2.2
    omega
  have hS := slid_of a.length pinned keep (longsV a keep pinned) 0 hK he
  have hrows := rows_slid (a := a) (φ := posL keep (slidGo pinned 0 keep (longsV a keep pinned))) a.length pinned keep (longsV a keep pinned) 0 hK he (Nat.zero_le _) (fun j x k hx hk => by
    obtain ⟨s, i, e1, -, -, e4, e5⟩ := hspot x (List.mem_of_getElem? hx)
    rw [rowAt_some e1]
    obtain ⟨k1, k2, -, -⟩ := kC_ok (posL keep (slidGo pinned 0 keep (longsV a keep pinned))) e4 (spotAt_some e1).2.1
    refine ⟨k1, rfl, ?_⟩
    rw [hV, List.getElem?_map, hx] at hk
    have := Option.some.inj hk
    omega)
  refine ⟨hn, hS.len, hK.same, fun y hy => ?_, hrows.1, hrows.2.1, hrows.2.2, fun x hx => ?_, fun x hx => ?_, fun j x y hx hy => ?_⟩
  · obtain ⟨j, hj⟩ := List.mem_iff_getElem?.1 hy
    exact hS.low j y hj
  · obtain ⟨s, i, e1, -⟩ := hspot x hx
    exact begsL_iff.2 ⟨s, e1⟩
  · obtain ⟨s, i, e1, -, -, e4, -⟩ := hspot x hx
    have := e4.loc0
    have := (spotAt_some e1).2.2
    omega
  · obtain ⟨s, i, e1, e2, e3, e4, e5⟩ := hspot x (List.mem_of_getElem? hx)
    have hk : (longsV a keep pinned)[j]? = some s.long := by rw [hV, List.getElem?_map, hx, Option.map_some, e5]
    obtain ⟨g1, g2, g3, g4⟩ := hS.at_ j x y s.long hx hk hy
    exact ⟨s, i, e1, e2, e3, e4, g3, hk, hS.low j y hy, g1⟩
def nowM (keep Y : List Int) (j : Nat) : Int → Option Value := fun v => if v = 0 then some (.int .u64 0) else if v - 1 ∈ keep.take j then some (.int .u64 (posL keep Y (v - 1) + 1)) else none
theorem nowM_zero (keep Y : List Int) : nowM keep Y 0 = upd (fun _ => none) 0 (.int .u64 0) := by
  funext v
  simp [nowM, upd]
theorem nowM_succ {keep Y : List Int} (hn : keep.Nodup) {j : Nat} {x y : Int} (hx : keep[j]? = some x) (hy : Y[j]? = some y) (h0 : 0 ≤ x) : nowM keep Y (j + 1) = upd (nowM keep Y j) (x + 1) (.int .u64 (y + 1)) := by
  funext v
  unfold nowM upd
  obtain ⟨h1, h2⟩ := List.getElem?_eq_some_iff.1 hx
  rw [List.take_succ_eq_append_getElem h1, h2]
  by_cases hv : v = x + 1
  · subst hv
    rw [if_neg (by omega), if_pos rfl, show x + 1 - 1 = x by omega, if_pos (by simp), posL_at hn hx hy]
  · rw [if_neg hv]
    have : (v - 1 ∈ keep.take j ++ [x]) ↔ v - 1 ∈ keep.take j := by
      rw [List.mem_append, List.mem_singleton]
      exact ⟨fun h => h.resolve_right (by omega), .inl⟩
    simp only [this]
theorem nowM_at {keep Y : List Int} {v : Int} (h : v ≠ 0 → v - 1 ∈ keep) : nowM keep Y keep.length v = some (.int .u64 (refT (posL keep Y) v)) := by
  unfold nowM refT
  by_cases h0 : v = 0
  · rw [if_pos h0, if_pos h0]
  · rw [if_neg h0, if_neg h0, List.take_length, if_pos (h h0)]
end Go.Proofs.YtbmkbnalembbjaaGreatDoor

namespace Go.Proofs.YtbmkbnalembbjaaGreatDoor
open Go.RowKit
theorem splice_set {α : Type} {L cs : List α} {off k : Nat} (v : α) (h : off ≤ L.length) (hk : k < cs.length) : (splice L off cs).set (off + k) v = splice L off (cs.set k v) := by
  unfold splice
  rw [List.set_append_right _ _ (by rw [List.length_take]; omega), List.length_take, Nat.min_eq_left h, show off + k - off = k by omega, List.set_append_left _ _ hk, List.length_set]
theorem splice_at {α : Type} {L cs : List α} {off k : Nat} (h : off ≤ L.length) (hk : k < cs.length) : (splice L off cs)[off + k]? = cs[k]? := by
  unfold splice
  rw [List.getElem?_append_right (by rw [List.length_take]; omega), List.length_take, Nat.min_eq_left h, show off + k - off = k by omega, List.getElem?_append_left hk]
theorem splice_map {α β : Type} (f : α → β) (L cs : List α) (off : Nat) : (splice L off cs).map f = splice (L.map f) off (cs.map f) := by
  unfold splice
  simp
theorem obj_words {a : List Int} {s : Spot} (h : SpotOk a s) : (a.drop s.loc.toNat).take s.long.toNat = wordOf s.r s.b s.t s.f :: (refsOf a s ++ bodyOf a s) := by
  have l0 := h.loc0
  have r0 := h.r0
  have b0 := h.b0
  have ft := h.fits
  unfold Spot.long at ft ⊢
  obtain ⟨h1, h2⟩ := List.getElem?_eq_some_iff.1 h.word
  rw [List.drop_eq_getElem_cons h1, h2, show (1 + s.r + s.b).toNat = (s.r.toNat + s.b.toNat) + 1 by omega, List.take_succ_cons]
  congr 1
  unfold refsOf bodyOf
  rw [List.take_add, List.drop_drop]
theorem zero_u64 (w : World) : (zeroValue 45).run Tryz.prog w = .ok (.int .u64 0) w := by kernel_rfl
theorem mid_set {Wd z : Int} {A rs bs : List Int} {q : Nat} (hA : A.length = q) (hq : q < rs.length) : (Wd :: (A ++ (rs.drop q ++ bs))).set (1 + q) z = Wd :: ((A ++ [z]) ++ (rs.drop (q + 1) ++ bs)) := by
  rw [Nat.add_comm 1 q, List.set_cons_succ, List.set_append_right _ _ (by omega), hA, Nat.sub_self, List.drop_eq_getElem_cons hq, List.cons_append, List.set_cons_zero]
  simp
end Go.Proofs.YtbmkbnalembbjaaGreatDoor

namespace Go.Proofs.YtbmkbnalembbjaaGreatDoor
open Go.RowKit
theorem info_intG : (Tryz.prog.info? 3).map (fun i => (i.zero, i.size, i.bytes)) = some (some (.int .i64 0), 1, 8) := by kernel_rfl
def fitsL (l : List Rn) (n : Int) : List Int := if fitsE l n = 0 then fitIx n 0 l else []
set_option maxHeartbeats 400000 in
theorem fits_arg (A : Option Addr) (m c : Nat) (n : Int) (w : World) (hn : n < 1) :
    Calls Tryz.prog 100 #[.slice A m c, .int .i64 n] w fun e w' => e = .returned (.tuple #[.slice none 0 0, .int .i64 1]) ∧ w = w' := by
  go_enter Tryz.func100, Tryz.ntmps100
  go_wp2
  go_ret2
  exact ⟨rfl, rfl⟩
set_option maxRecDepth 100000 in
set_option maxHeartbeats 1000000 in
theorem fits_any (A : Option Addr) (m c : Nat) (l : List Rn) (n : Int) (w : World) (hr : Reads w w.heap.size 2 A m (runsC l)) (hm : m * 16 ≤ 140737488351232) :
    Calls Tryz.prog 100 #[.slice A m c, .int .i64 n] w fun e w' => Below w.heap.size w w' ∧ ∃ A' c', e = .returned (.tuple #[.slice A' (fitsL l n).length c', .int .i64 (fitsE l n)]) ∧ w'.ownsRow w.heap.size 3 1 (.slice A' (fitsL l n).length c') (fitsL l n).length ((fitsL l n).map (.int .i64)) := by
  by_cases hn : n < 1
  · have he : fitsE l n = 1 := by unfold fitsE; rw [if_pos hn]
    have hl : fitsL l n = [] := by unfold fitsL; rw [he]; rfl
    rw [he, hl]
    refine (fits_arg A m c n w hn).mono ?_
    rintro e w' ⟨rfl, rfl⟩
    exact ⟨Below.refl _ _, none, 0, rfl, World.ownsRow_nil _ _ _ _⟩
  · have hn1 : 1 ≤ n := by omega
    have hll : l.length = m := by have := hr.1; rw [runsC_length] at this; omega
    have HL := Lib.hid hll
    obtain ⟨i0, hi, hz0, hz1, hz2⟩ := info_parts info_intG
    clear hll hn
    go_enter Tryz.func100, Tryz.ntmps100
    go_wp2
    go_loopw [6, 7, 8, 13] (fun o _ _ i wr => ∃ (j : Nat) (A' : Option Addr) (k c' : Nat), j ≤ m ∧ i = .int .i64 j ∧ o = .slice A' k c' ∧ k ≤ j ∧ Hid (k = (fitIx n 0 (l.take j)).length) ∧ Hid ((l.take j).any badRun = false) ∧ wr.ownsRow w.heap.size 3 1 (.slice A' k c') k ((fitIx n 0 (l.take j)).map (.int .i64)) ∧ Below w.heap.size w wr) (fun _ _ _ i _ => m - (intOf i).toNat)
    case atStart => exact ⟨0, none, 0, 0, Nat.zero_le _, rfl, rfl, Nat.le_refl _, rfl, rfl, World.ownsRow_nil _ _ _ _, Below.refl _ _⟩
    case round =>
      obtain ⟨j, A', k, c', hj, rfl, rfl, hkj, hk, hB, hown, hb⟩ := hrel
      by_cases hlt : j < m
      · obtain ⟨ad, r, rfl, had, hs, c0, c1⟩ := (hr.below hb).run hlt
        have HT : Hid (l.take (j + 1) = l.take j ++ [r]) := by
          show _ = _
          obtain ⟨h1, rfl⟩ := List.getElem?_eq_some_iff.1 hs
          exact List.take_succ_eq_append_getElem h1
        have HLen : Hid ((l.take j).length = j) := by show _ = _; rw [List.length_take, HL.out]; omega
        have HSM : Hid (r ∈ l) := List.mem_of_getElem? hs
        clear hs
        obtain ⟨loc, ln⟩ := r
        dsimp only at c0 c1
        have hown0 := hown.alloc (.cells #[.int .i64 loc, .int .i64 ln] 133)
        have hb0 := hb.alloc hb.size (.cells #[.int .i64 loc, .int .i64 ln] 133)
        clear hown hb
        by_cases hbad : badRun ⟨loc, ln⟩ = true
        · have hE : Hid (fitsE l n = 4) := by
            show _ = _
            unfold fitsE
            rw [if_neg (by omega), if_pos (List.any_eq_true.2 ⟨_, HSM.out, hbad⟩)]
          have hbad' : loc < 0 ∨ ln < 1 := by simpa [badRun] using hbad
          clear hbad
          by_cases h0 : loc < 0
          all_goals
            try have h1 : ln < 1 := by omega
            go_wp2
            go_ret2
            have hl : fitsL l n = [] := by unfold fitsL; rw [hE.out]; rfl
            rw [hE.out, hl]
            exact ⟨hb0, none, 0, rfl, World.ownsRow_nil _ _ _ _⟩
        · have HB2 : Hid ((l.take (j + 1)).any badRun = false) := by
            show _ = _
            rw [HT.out, List.any_append, hB.out]
            simp at hbad
            simp [hbad]
          have hg : ¬ loc < 0 ∧ ¬ ln < 1 := by simpa [badRun] using hbad
          obtain ⟨g0, g1⟩ := hg
          clear hbad
          by_cases hfit : n ≤ ln
          · have HQ : Hid (fitIx n 0 (l.take (j + 1)) = fitIx n 0 (l.take j) ++ [(j : Int)]) := by
              show _ = _
              rw [HT.out, fitIx_snoc, if_pos hfit, HLen.out, Nat.zero_add]
            have hown2 := hown0.alloc (.cells #[.int .i64 j] 3)
            have hb2 := hb0.alloc hb0.size (.cells #[.int .i64 j] 3)
            have hnew := reads_new (wr.alloc (.cells #[.int .i64 loc, .int .i64 ln] 133)) [.int .i64 j] 3 1 1 rfl
            simp only [World.size_alloc] at hnew
            clear hown0 hb0
            go_wp2_with (at_builtin; refine wpList_append_any _ rfl (.tmp 32) (.tmp 34) 23 rfl w.heap.size 3 i0 (.int .i64 0) 1 8 Tryz.underlying23 hi hz0 hz1 hz2 rfl (by decide) (.slice A' k c') k _ rfl hown2 (wr.heap.size + 1 + 1) (some ⟨wr.heap.size + 1, 0, none⟩) 1 1 [.int .i64 j] rfl hnew (by simp [Value.oneCell']) (by simp [maxLen]; omega) (by omega) (by have := hb2.size; exact this) ?_; rintro v' w3 hown3 hgr hbl -; obtain ⟨A'', c'', rfl⟩ := own_slice hown3)
            have hb3 : Below w.heap.size w w3 := hb2.grown hgr hb2.size (fun g hg => (hown2.lt g hg).1)
            go_roundw
            case rel => exact ⟨j + 1, A'', k + 1, c'', by omega, by go_num, rfl, by omega, by show _ = _; rw [HQ.out, List.length_append, ← hk.out]; rfl, HB2, by rw [HQ.out, List.map_append]; exact hown3, hb3⟩
            case measure => simp [intOf]; omega
          · have HQ : Hid (fitIx n 0 (l.take (j + 1)) = fitIx n 0 (l.take j)) := by
              show _ = _
              rw [HT.out, fitIx_snoc, if_neg hfit, List.append_nil]
            go_wp2
            go_roundw
            case rel => exact ⟨j + 1, A', k, c', by omega, by go_num, rfl, by omega, by show _ = _; rw [HQ.out]; exact hk.out, HB2, by rw [HQ.out]; exact hown0, hb0⟩
            case measure => simp [intOf]; omega
      · have hjm : j = m := by omega
        subst hjm
        rw [List.take_of_length_le (by rw [HL.out]; exact Nat.le_refl _)] at hk hB hown
        by_cases hk0 : k = 0
        · have he : Hid (fitsE l n = 7) := by
            show _ = _
            unfold fitsE
            rw [if_neg (by omega), if_neg (by rw [hB.out]; decide), if_pos (List.length_eq_zero_iff.1 (hk.out.symm.trans hk0))]
          subst hk0
          go_wp2
          go_ret2
          have hl : fitsL l n = [] := by unfold fitsL; rw [he.out]; rfl
          rw [he.out, hl]
          exact ⟨hb, none, 0, rfl, World.ownsRow_nil _ _ _ _⟩
        · have he : Hid (fitsE l n = 0) := by
            show _ = _
            refine fitsE_ok.2 ⟨hn1, hB.out, fun h => hk0 (by rw [hk.out, h]; rfl)⟩
          have hk1 : ((k : Int) == 0) = false := by simpa using hk0
          go_wp2
          go_ret2
          have hl : fitsL l n = fitIx n 0 l := by unfold fitsL; rw [if_pos he.out]
          rw [he.out, hl, ← hk.out]
          exact ⟨hb, A', c', rfl, hown⟩
end Go.Proofs.YtbmkbnalembbjaaGreatDoor

namespace Go.Proofs.YtbmkbnalembbjaaGreatDoor
open Go.RowKit
set_option maxHeartbeats 400000 in
theorem rises_any (A : Option Addr) (n c B : Nat) (l : List Int) (w : World) (hr : Reads w B 1 A n (l.map (.int .i64))) (hn : n ≤ 1000000000000000000) :
    Calls Tryz.prog 162 #[.slice A n c] w fun e w' => e = .returned (.bool (risesP l)) ∧ ∃ q, w' = w.drewN q := by
  have hll : l.length = n := by have := hr.1; simpa using this
  have HL := Lib.hid hll
  clear hll
  go_enter Tryz.func162, Tryz.ntmps162
  go_wp2
  go_loopw [3] (fun i wr => ∃ j : Nat, j ≤ n ∧ i = .int .i64 (j + 1) ∧ Hid (risesP l = risesP (l.drop j)) ∧ ∃ q, wr = w.drewN q) (fun i _ => n + 1 - (intOf i).toNat)
  case atStart => exact ⟨0, Nat.zero_le _, rfl, rfl, 0, rfl⟩
  case round =>
    obtain ⟨j, hj, rfl, hR, q, rfl⟩ := hrel
    by_cases hlt : j + 1 < n
    · obtain ⟨ad, x, rfl, _, hx, cx⟩ := hr.num (k := j) (by omega)
      obtain ⟨ad2, y, e2, _, hy, cy⟩ := hr.num (k := j + 1) (by omega)
      obtain rfl : ad = ad2 := by injection e2
      rw [addr_add_pos _ _ (Nat.succ_pos _)] at cy
      have HD : Hid (l.drop j = x :: y :: l.drop (j + 1 + 1)) := by show _ = _; rw [drop_of_get hx, drop_of_get hy]
      have HD2 := Lib.hid (drop_of_get hy)
      have hlt2 : ((j : Int) + 1) < n := by omega
      have hw1 : IntKind.i64.wrap (j : Int) = j := IntWalk.i64_in _ (by omega)
      have hw2 : IntKind.i64.wrap ((j : Int) + 1 + 1) = (j : Int) + 1 + 1 := IntWalk.i64_in _ (by omega)
      have ht : ((j : Int) + 1).toNat = j + 1 := by omega
      have hp : (0 : Int) ≤ (j : Int) + 1 := by omega
      have hlt3 : (j : Int) < n := by omega
      clear hx hy e2
      by_cases hxy : x < y
      · have hd : decide (y ≤ x) = false := decide_eq_false (by omega)
        have HR2 : Hid (risesP l = risesP (l.drop (j + 1))) := by
          show _ = _
          rw [hR.out, HD.out, HD2.out]
          simp only [risesP]
          rw [decide_eq_true hxy, Bool.true_and]
        go_wp2
        go_quiet (fail)
        go_wp2
        go_roundw
        case rel => exact ⟨j + 1, by omega, by simp, HR2, _, rfl⟩
        case measure => simp [intOf]; omega
      · have hd : decide (y ≤ x) = true := decide_eq_true (by omega)
        have HR2 : Hid (risesP l = false) := by
          show _ = _
          rw [hR.out, HD.out]
          simp only [risesP]
          rw [decide_eq_false hxy, Bool.false_and]
        go_wp2
        go_quiet (fail)
        go_wp2
        go_ret
        rw [HR2.out]
        exact ⟨rfl, _, drewN_add _ _ _⟩
    · have HR2 : Hid (risesP l = true) := by
        show _ = _
        rw [hR.out]
        match hm : l.drop j with
        | [] => rfl
        | [_] => rfl
        | a :: b :: t =>
          have := congrArg List.length hm
          rw [List.length_drop, HL.out] at this
          simp only [List.length_cons] at this
          omega
      have hge : ¬ (j : Int) + 1 < n := by omega
      go_wp2
      go_ret
      rw [HR2.out]
      exact ⟨rfl, _, rfl⟩
set_option maxHeartbeats 400000 in
theorem longsC1_any (g : Nat) (x : Int) (s : Spot) (w : World) (hg : g < w.heap.size) (hc : w.cell? ⟨g, 0, none⟩ = some (.int .i64 x)) :
    Calls Tryz.prog 163 #[.agg #[.int .i64 s.loc, .int .i64 s.r, .int .i64 s.b, .int .i64 s.t, .bool s.f], .pointer (some ⟨g, 0, none⟩)] w fun e w' => e = .returned (.bool (pL x s)) ∧ Below w.heap.size w w' := by
  obtain ⟨loc, r, b, t, f⟩ := s
  have hc' : ∀ o, (w.alloc o).cell? ⟨g, 0, none⟩ = some (.int .i64 x) := fun o => by rw [World.cell?_alloc_lt _ _ _ (by exact hg)]; exact hc
  unfold pL
  dsimp only
  by_cases h : loc = x
  · subst h
    go_enter Tryz.func163, Tryz.ntmps163
    go_wp2
    go_ret
    exact ⟨by simp, below_new _ _⟩
  · have h1 : (loc == x) = false := by simpa using h
    rw [h1, Bool.false_and]
    go_enter Tryz.func163, Tryz.ntmps163
    go_wp2
    go_ret
    exact ⟨rfl, below_new _ _⟩
set_option maxHeartbeats 400000 in
theorem longsC2_any (g B : Nat) (A : Option Addr) (n c : Nat) (keep : List Int) (x : Int) (w : World) (hc : w.cell? ⟨g, 0, none⟩ = some (.slice A n c)) (hr : Reads w B 1 A n (keep.map (.int .i64))) (hn : n ≤ 1000000000000000000) :
    Calls Tryz.prog 164 #[.int .i64 x, .pointer (some ⟨g, 0, none⟩)] w fun e w' => e = .returned (.bool (!decide (x ∈ keep))) ∧ Below w.heap.size w w' := by
  have H := Lib.hid (contains_int A n c B keep x _ w hr hn rfl)
  generalize decide (x ∈ keep) = b at *
  go_enter Tryz.func164, Tryz.ntmps164
  go_wp2_with fail
  refine H.out.mono ?_
  rintro e w1 ⟨rfl, rfl⟩
  go_wp2
  go_ret
  exact ⟨rfl, Below.refl _ _⟩
set_option maxRecDepth 100000 in
set_option maxHeartbeats 1000000 in
theorem slid_any (A A2 A3 : Option Addr) (n c c2 m c3 _ : Nat) (N : Int) (keep long pinned : List Int) (w : World) (hr : Reads w w.heap.size 1 A n (keep.map (.int .i64))) (hr2 : Reads w w.heap.size 1 A2 n (long.map (.int .i64))) (hr3 : Reads w w.heap.size 1 A3 m (pinned.map (.int .i64)))
    (hn : n * 8 ≤ 140737488351232) (hm : m ≤ 1000000000000000000) (hK : Kept N keep long) (hN : 0 ≤ N ∧ N ≤ 256) :
    Calls Tryz.prog 153 #[.slice A n c, .slice A2 n c2, .slice A3 m c3] w fun e w' => Below w.heap.size w w' ∧ ∃ A' c', e = .returned (.slice A' n c') ∧ w'.ownsRow w.heap.size 3 1 (.slice A' n c') n ((slidGo pinned 0 keep long).map (.int .i64)) := by
  have hkl : keep.length = n := by have := hr.1; simpa using this
  have hll : long.length = n := by have := hr2.1; simpa using this
  have HL := Lib.hid hkl
  have HL2 := Lib.hid hll
  have HK := Lib.hid hK
  obtain ⟨i0, hi, hz0, hz1, hz2⟩ := info_parts info_intG
  clear hkl hll hK
  go_enter Tryz.func153, Tryz.ntmps153
  go_wp2
  go_loopw [7, 8, 9, 10, 13] (fun o e _ _ i wr => ∃ (j : Nat) (A' : Option Addr) (c' : Nat) (acc : List Int) (y : Int), j ≤ n ∧ i = .int .i64 j ∧ o = .slice A' j c' ∧ e = .int .i64 y ∧ 0 ≤ y ∧ y ≤ 256 ∧ Hid (∀ x, keep[j]? = some x → y ≤ x) ∧
    Hid (slidGo pinned 0 keep long = acc ++ slidGo pinned y (keep.drop j) (long.drop j)) ∧ wr.ownsRow w.heap.size 3 1 (.slice A' j c') j (acc.map (.int .i64)) ∧ Below w.heap.size w wr) (fun _ _ _ _ i _ => n - (intOf i).toNat)
  case atStart => exact ⟨0, none, 0, [], 0, Nat.zero_le _, rfl, rfl, rfl, by omega, by omega, (fun x hx => by
    have hx2 : ∃ n0, long[0]? = some n0 := ⟨_, List.getElem?_eq_getElem (by rw [HL2.out]; have := (List.getElem?_eq_some_iff.1 hx).1; rw [HL.out] at this; exact this)⟩
    obtain ⟨n0, hn0⟩ := hx2
    exact (HK.out.at_ 0 x n0 hx hn0).1), rfl, World.ownsRow_nil _ _ _ _, Below.refl _ _⟩
  case round =>
    obtain ⟨j, A', c', acc, y, hj, rfl, rfl, rfl, hy0, hy1, hle, hG, hown, hb⟩ := hrel
    by_cases hlt : j < n
    · obtain ⟨ad, x, rfl, had, hx, cx⟩ := (hr.below hb).num hlt
      obtain ⟨ad2, k, rfl, had2, hk, ck⟩ := (hr2.below hb).num hlt
      obtain ⟨x0, k1, k2, hxk⟩ := HK.out.at_ j x k hx hk
      have hyx := hle.out x hx
      have HNX := Lib.hid (fun y => HK.out.next j x k y hx hk)
      obtain ⟨z, hz⟩ : ∃ z, z = (if x ∈ pinned then x else y) := ⟨_, rfl⟩
      have hz0' : 0 ≤ z ∧ z ≤ x := by rw [hz]; split <;> omega
      have HG2 : Hid (slidGo pinned 0 keep long = (acc ++ [z]) ++ slidGo pinned (z + k) (keep.drop (j + 1)) (long.drop (j + 1))) := by
        show _ = _
        rw [hG.out, drop_of_get hx, drop_of_get hk]
        simp only [slidGo]
        rw [← hz, List.append_assoc]
        rfl
      have hlt2 : (j : Int) < n := by omega
      have hzw : IntKind.i64.wrap (z + k) = z + k := IntWalk.i64_in _ (by omega)
      have HC := Lib.hid (fun w B hr => contains_int A3 m c3 B pinned x _ w hr hm rfl)
      have hr3b := hr3.below hb
      have HLE : Hid (∀ v, keep[j + 1]? = some v → z + k ≤ v) := fun v hv => by have := HNX.out v hv; omega
      by_cases hp : x ∈ pinned
      · rw [if_pos hp] at hz
        subst hz
        rw [decide_eq_true hp] at HC
        have hown2 := hown.alloc (.cells #[.int .i64 z] 3)
        have hb2 := hb.alloc hb.size (.cells #[.int .i64 z] 3)
        have hnew := reads_new wr [.int .i64 z] 3 1 1 rfl
        clear hx hk hp hG hle HNX hz0'
        go_wp2_with (first
          | (go_at_call 79; refine (HC.out _ _ hr3b).mono ?_; rintro e w1 ⟨rfl, rfl⟩)
          | (at_builtin; refine wpList_append_any _ rfl (.tmp 23) (.tmp 25) 23 rfl w.heap.size 3 i0 (.int .i64 0) 1 8 Tryz.underlying23 hi hz0 hz1 hz2 rfl (by decide) (.slice A' j c') j _ rfl hown2 (wr.heap.size + 1) (some ⟨wr.heap.size, 0, none⟩) 1 1 [.int .i64 z] rfl hnew (by simp [Value.oneCell']) (by simp [maxLen]; omega) (by omega) (by have := hb2.size; exact this) ?_; rintro v' w3 hown3 hgr hbl -; obtain ⟨A'', c'', rfl⟩ := own_slice hown3;
              have hb3 : Below w.heap.size w w3 := hb2.grown hgr hb2.size (fun g hg => (hown2.lt g hg).1); have ck3 := (hb3.cell (p := ad2.add j) (by rw [block_of_add]; exact had2)).trans ((hb.cell (p := ad2.add j) (by rw [block_of_add]; exact had2)).symm.trans ck)))
        go_roundw
        case rel => exact ⟨j + 1, A'', c'', acc ++ [z], z + k, by omega, by go_num, rfl, rfl, by omega, by omega, HLE, HG2, by rw [List.map_append]; exact hown3, hb3⟩
        case measure => simp [intOf]; omega
      · rw [if_neg hp] at hz
        subst hz
        rw [decide_eq_false hp] at HC
        have hown2 := hown.alloc (.cells #[.int .i64 z] 3)
        have hb2 := hb.alloc hb.size (.cells #[.int .i64 z] 3)
        have hnew := reads_new wr [.int .i64 z] 3 1 1 rfl
        clear hx hk hp hG hle HNX hz0'
        go_wp2_with (first
          | (go_at_call 79; refine (HC.out _ _ hr3b).mono ?_; rintro e w1 ⟨rfl, rfl⟩)
          | (at_builtin; refine wpList_append_any _ rfl (.tmp 23) (.tmp 25) 23 rfl w.heap.size 3 i0 (.int .i64 0) 1 8 Tryz.underlying23 hi hz0 hz1 hz2 rfl (by decide) (.slice A' j c') j _ rfl hown2 (wr.heap.size + 1) (some ⟨wr.heap.size, 0, none⟩) 1 1 [.int .i64 z] rfl hnew (by simp [Value.oneCell']) (by simp [maxLen]; omega) (by omega) (by have := hb2.size; exact this) ?_; rintro v' w3 hown3 hgr hbl -; obtain ⟨A'', c'', rfl⟩ := own_slice hown3;
              have hb3 : Below w.heap.size w w3 := hb2.grown hgr hb2.size (fun g hg => (hown2.lt g hg).1); have ck3 := (hb3.cell (p := ad2.add j) (by rw [block_of_add]; exact had2)).trans ((hb.cell (p := ad2.add j) (by rw [block_of_add]; exact had2)).symm.trans ck)))
        go_roundw
        case rel => exact ⟨j + 1, A'', c'', acc ++ [z], z + k, by omega, by go_num, rfl, rfl, by omega, by omega, HLE, HG2, by rw [List.map_append]; exact hown3, hb3⟩
        case measure => simp [intOf]; omega
    · have hjn : j = n := by omega
      subst hjn
      rw [List.drop_of_length_le (by rw [HL.out]; exact Nat.le_refl _)] at hG
      have hG : Hid (slidGo pinned 0 keep long = acc) := by
        have h := hG.out
        simp only [slidGo, List.append_nil] at h
        exact h
      go_wp2
      go_ret
      rw [hG.out]
      exact ⟨hb, A', c', rfl, hown⟩
set_option maxRecDepth 100000 in
set_option maxHeartbeats 1000000 in
theorem longs_any (A A2 A3 : Option Addr) (n c n2 c2 m c3 : Nat) (a keep pinned : List Int) (w : World) (hr : Reads w w.heap.size 1 A n (a.map (.int .u64))) (hnc : n ≤ c) (ha : ∀ x ∈ a, (Lit.int .u64 x).wf = true)
    (hr2 : Reads w w.heap.size 1 A2 n2 (keep.map (.int .i64))) (hr3 : Reads w w.heap.size 1 A3 m (pinned.map (.int .i64))) (hn2 : n2 * 8 ≤ 140737488351232) (hm : m ≤ 1000000000000000000) :
    Calls Tryz.prog 152 #[.slice A n c, .slice A2 n2 c2, .slice A3 m c3] w fun e w' => Below w.heap.size w w' ∧ ∃ A' c', e = .returned (.tuple #[.slice A' (longsV a keep pinned).length c', .int .i64 (longsE a keep pinned)]) ∧
      w'.ownsRow w.heap.size 3 1 (.slice A' (longsV a keep pinned).length c') (longsV a keep pinned).length ((longsV a keep pinned).map (.int .i64)) := by
  have HCk := fun w hr => checkFn_any A n c a w hr hnc ha
  by_cases hE : checkE a = 0
  · have hE0 := (checkE_ok.1 hE).1
    have HSp := fun w hr => spots_any A n c a w hr ha
    rw [hE] at HCk
    rw [hE0] at HSp
    have hV : longsE a keep pinned ≠ 0 → longsV a keep pinned = [] := fun h => by unfold longsV; rw [if_neg h]
    have hB0 := Below.refl w.heap.size w
    have HR1 := fun w B hr => rises_any A2 n2 c2 B keep w hr (by omega)
    have HR2 := fun w B hr => rises_any A3 m c3 B pinned w hr hm
    cases hr1 : risesP keep
    · have hL : longsE a keep pinned = 3 := by unfold longsE; rw [if_neg (by simpa using hE), hr1, if_pos (by rfl)]
      rw [hV (by rw [hL]; decide), hL]
      rw [hr1] at HR1
      have HCk := Lib.hid HCk
      have HR1 := Lib.hid HR1
      clear HSp HR2 hV hE hE0 hL hB0 hr1
      go_enter Tryz.func152, Tryz.ntmps152
      go_wp2_with fail
      have hba := below_new w (.cells #[.slice A2 n2 c2] 23)
      refine (HCk.out _ ((hr.below hba).more hba.size)).mono ?_
      rintro e w1 ⟨rfl, hb1⟩
      have hb01 := below_step hba hb1
      have k0 := ((Blk.new w 23 #[.slice A2 n2 c2]).below hb1 (by simp)).cell 0
      simp only [List.getElem?_toArray, List.getElem?_cons_zero] at k0
      go_wp2_with fail
      refine (HR1.out _ _ (hr2.below hb01)).mono ?_
      rintro e w2 ⟨rfl, q, rfl⟩
      go_wp2
      go_ret2
      exact ⟨below_drewN hb01 _, none, 0, rfl, World.ownsRow_nil _ _ _ _⟩
    · cases hr2' : risesP pinned
      · have hL : longsE a keep pinned = 3 := by unfold longsE; rw [if_neg (by simpa using hE), hr1, hr2', if_pos (by rfl)]
        rw [hV (by rw [hL]; decide), hL]
        rw [hr1] at HR1
        rw [hr2'] at HR2
        have HCk := Lib.hid HCk
        have HR1 := Lib.hid HR1
        have HR2 := Lib.hid HR2
        clear HSp hV hE hE0 hL hB0 hr1 hr2'
        go_enter Tryz.func152, Tryz.ntmps152
        go_wp2_with fail
        have hba := below_new w (.cells #[.slice A2 n2 c2] 23)
        refine (HCk.out _ ((hr.below hba).more hba.size)).mono ?_
        rintro e w1 ⟨rfl, hb1⟩
        have hb01 := below_step hba hb1
        have k0 := ((Blk.new w 23 #[.slice A2 n2 c2]).below hb1 (by simp)).cell 0
        simp only [List.getElem?_toArray, List.getElem?_cons_zero] at k0
        go_wp2_with fail
        refine (HR1.out _ _ (hr2.below hb01)).mono ?_
        rintro e w2 ⟨rfl, q, rfl⟩
        go_wp2_with fail
        refine (HR2.out _ _ (hr3.below (below_drewN hb01 _))).mono ?_
        rintro e w3 ⟨rfl, q2, rfl⟩
        go_wp2
        go_ret2
        exact ⟨below_drewN hb01 _, none, 0, rfl, World.ownsRow_nil _ _ _ _⟩
      · have hE' : longsE a keep pinned = if keep.any (fun x => decide (ixOf (pL x) (spotsL a) < 0)) = true then 5 else if pinned.any (fun x => !decide (x ∈ keep)) = true then 5 else 0 := by
          unfold longsE; rw [if_neg (by simpa using hE), hr1, hr2', if_neg (by decide)]
        have hbad : ∀ x ∈ keep, ixOf (pL x) (spotsL a) < 0 → longsE a keep pinned = 5 := fun x hx h => by
          rw [hE', if_pos (List.any_eq_true.2 ⟨x, hx, decide_eq_true h⟩)]
        have hgood : (∀ x ∈ keep, 0 ≤ ixOf (pL x) (spotsL a)) → longsE a keep pinned = if pinned.any (fun x => !decide (x ∈ keep)) = true then 5 else 0 := fun h => by
          rw [hE', if_neg]
          intro h2
          obtain ⟨x, hx, hd⟩ := List.any_eq_true.1 h2
          have := h x hx
          simp only [decide_eq_true_eq] at hd
          omega
        have hsp := fun x => spots_of_ix hE0 (x := x)
        have hV2 : longsE a keep pinned = 0 → longsV a keep pinned = keep.map (longAt (spotsL a)) := fun h => by unfold longsV; rw [if_pos h]
        have hS := spotsL_length a
        generalize longsE a keep pinned = E at *
        generalize longsV a keep pinned = V at *
        generalize spotsL a = S at *
        have hk2 : keep.length = n2 := by have := hr2.1; simpa using this
        obtain ⟨k, hk⟩ : ∃ k, k = S.length := ⟨_, rfl⟩
        rw [← hk] at HSp hS
        have HK2 := Lib.hid hk2
        rw [hr1] at HR1
        rw [hr2'] at HR2
        have HCk := Lib.hid HCk
        have HR1 := Lib.hid HR1
        have HR2 := Lib.hid HR2
        have HSp := Lib.hid HSp
        have HBad := Lib.hid hbad
        have HGood := Lib.hid hgood
        have HFound := Lib.hid hsp
        have HV := Lib.hid hV
        have HV2 := Lib.hid hV2
        have HCt := Lib.hid (fun (g : Nat) (W : World) (hg : W.cell? ⟨g, 0, none⟩ = some (.slice A2 n2 c2)) (hkp : ∀ W', Below W.heap.size W W' → W'.cell? ⟨g, 0, none⟩ = some (.slice A2 n2 c2)) (hr2 : Reads W W.heap.size 1 A2 n2 (keep.map (.int .i64))) (hr3 : Reads W W.heap.size 1 A3 m (pinned.map (.int .i64))) =>
          containsIntF_any 164 (.pointer (some ⟨g, 0, none⟩)) A3 m c3 _ pinned (fun x => !decide (x ∈ keep)) W hr3 (Nat.le_refl _) hm (plain_of (fn := Tryz.f164) Tryz.func164 (by kernel_rfl) (by kernel_rfl)) (fun w' x hb' _ => longsC2_any g _ A2 n2 c2 keep x w' (hkp w' hb') (hr2.below hb') (by omega)))
        obtain ⟨i0, hi, hz0, hz1, hz2⟩ := info_parts info_intG
        clear hE hE0 hE' hbad hgood hsp hV hV2 hk2 hr1 hr2' hB0 hk
        go_enter Tryz.func152, Tryz.ntmps152
        go_wp2_with fail
        have hba := below_new w (.cells #[.slice A2 n2 c2] 23)
        refine (HCk.out _ ((hr.below hba).more hba.size)).mono ?_
        rintro e w1 ⟨rfl, hb1⟩
        have hb01 := below_step hba hb1
        have B1 := (Blk.new w 23 #[.slice A2 n2 c2]).below hb1 (by simp)
        have k0 := B1.cell 0
        simp only [List.getElem?_toArray, List.getElem?_cons_zero] at k0
        go_wp2_with fail
        refine (HR1.out _ _ (hr2.below hb01)).mono ?_
        rintro e w2 ⟨rfl, q, rfl⟩
        go_wp2_with fail
        refine (HR2.out _ _ (hr3.below (below_drewN hb01 _))).mono ?_
        rintro e w3 ⟨rfl, q2, rfl⟩
        have hb03 : Below w.heap.size w (w1.drewN (q + q2)) := below_drewN hb01 _
        have B3 := B1.drewN (q + q2)
        go_wp2_with fail
        refine (HSp.out _ ((hr.below hb03).more hb03.size)).mono ?_
        rintro e w5 ⟨hb5, As, cs, rfl, hownS⟩
        have hrS := Reads.of_own hownS
        have hb05 := below_step hb03 hb5
        have B5 := B3.below hb5 (by have := B3.lt; omega)
        have k5 := B5.cell 0
        simp only [List.getElem?_toArray, List.getElem?_cons_zero] at k5
        have hr25 := (hr2.below hb05).more hb05.size
        have hr35 := (hr3.below hb05).more hb05.size
        clear hownS hba hb1 hb01 B1 k0 hb03 B3 hb5
        go_wp2
        go_loopw [11, 13, 14, 15, 16, 37] (fun o _ _ _ _ i wr => ∃ (j : Nat) (A' : Option Addr) (c' : Nat) (acc : List Int), j ≤ n2 ∧ i = .int .i64 j ∧ o = .slice A' j c' ∧ Hid (acc = (keep.take j).map (longAt S)) ∧ Hid (∀ x ∈ keep.take j, 0 ≤ ixOf (pL x) S) ∧
          wr.ownsRow w5.heap.size 3 1 (.slice A' j c') j (acc.map (.int .i64)) ∧ Below w5.heap.size w5 wr) (fun _ _ _ _ _ i _ => n2 - (intOf i).toNat)
        case atStart => exact ⟨0, none, 0, [], Nat.zero_le _, rfl, rfl, rfl, (fun x hx => by simp at hx), World.ownsRow_nil _ _ _ _, Below.refl _ _⟩
        case round =>
          obtain ⟨j, A', c', acc, hj, rfl, rfl, hacc, hF, hown, hb⟩ := hrel
          by_cases hlt : j < n2
          · obtain ⟨ad, x, rfl, had, hx, cx⟩ := (hr25.below hb).num hlt
            have HT : Hid (keep.take (j + 1) = keep.take j ++ [x]) := by
              show _ = _
              obtain ⟨h1, rfl⟩ := List.getElem?_eq_some_iff.1 hx
              exact List.take_succ_eq_append_getElem h1
            have HXM : Hid (x ∈ keep) := List.mem_of_getElem? hx
            have hb0 := hb.alloc hb.size (.cells #[.int .i64 x] 3)
            have B0 := Blk.new wr 3 #[.int .i64 x]
            have HIX := Lib.hid (indexSpot_any 163 (.pointer (some ⟨wr.heap.size, 0, none⟩)) As k cs _ S (pL x) (wr.alloc (.cells #[.int .i64 x] 3)) (hrS.below hb0) (by have := hb0.size; exact this) (by omega) (plain_of (fn := Tryz.f163) Tryz.func163 (by kernel_rfl) (by kernel_rfl)) (fun w' s hb' _ => longsC1_any wr.heap.size x s w' (by have := hb'.size; simp only [World.size_alloc] at this; omega) ((B0.below hb' (by simp)).cell 0)))
            have hown0 := hown.alloc (.cells #[.int .i64 x] 3)
            have HTk : Hid (hown0 = hown0) := rfl
            clear hx HTk
            by_cases hix : ixOf (pL x) S < 0
            · have HE5 := Lib.hid (HBad.out x HXM.out hix)
              generalize ixOf (pL x) S = I at *
              go_wp2_with fail
              refine HIX.out.mono ?_
              rintro e w6 ⟨rfl, hb6⟩
              go_wp2
              go_ret2
              have hv := HV.out (by rw [HE5.out]; decide)
              rw [hv, HE5.out]
              exact ⟨below_step hb05 (hb0.trans (hb6.mono hb0.size)), none, 0, rfl, World.ownsRow_nil _ _ _ _⟩
            · obtain ⟨i, s, hi1, hs, hl1, hl2, hok, hlg, -⟩ := HFound.out x (by omega)
              have hil := (List.getElem?_eq_some_iff.1 hs).1
              rw [hi1] at HIX
              have hik : i < k := by rw [show k = S.length by have := hrS.1; rw [spotsC_length] at this; omega]; exact hil
              have HLG := Lib.hid hlg
              have HS := Lib.hid hs
              have HI0 : Hid (0 ≤ ixOf (pL x) S) := by show _ ≤ _; omega
              have hlong : s.long = 1 + s.r + s.b := rfl
              have HL := Lib.hid (fun w => hlongc_ok s.r s.b s.t s.f w hok.head)
              have hr0 := hok.r0
              have hb0' := hok.b0
              have hf256 := hok.fit256
              clear hok hl1 hl2 hi1 hs hlg hix hil
              go_wp2_with fail
              refine HIX.out.mono ?_
              rintro e w6 ⟨rfl, hb6⟩
              have hb06 := hb0.trans (hb6.mono hb0.size)
              obtain ⟨ads, s', rfl, hads, hs', c0, c1, c2, c3, c4⟩ := (hrS.below hb06).spot hik
              obtain rfl : s = s' := Option.some.inj (HS.out.symm.trans hs')
              obtain ⟨loc, r, b, t, f⟩ := s
              dsimp only at *
              have hown6 := own_below hown0 hb6
              clear hs' hb6 hown0
              go_wp2_with fail
              refine (HL.out _).mono ?_
              rintro e w7 ⟨rfl, hb7⟩
              have hb07 := hb06.trans (hb7.mono hb06.size)
              have hown7 := (own_below hown6 hb7).alloc (.cells #[.int .i64 (1 + r + b)] 3)
              have hb8 := hb07.alloc hb07.size (.cells #[.int .i64 (1 + r + b)] 3)
              have hnew := reads_new w7 [.int .i64 (1 + r + b)] 3 1 1 rfl
              clear hb7 hown6
              go_wp2_with (at_builtin; refine wpList_append_any _ rfl (.tmp 55) (.tmp 57) 23 rfl w5.heap.size 3 i0 (.int .i64 0) 1 8 Tryz.underlying23 hi hz0 hz1 hz2 rfl (by decide) (.slice A' j c') j _ rfl hown7 (w7.heap.size + 1) (some ⟨w7.heap.size, 0, none⟩) 1 1 [.int .i64 (1 + r + b)] rfl hnew (by simp [Value.oneCell']) (by simp [maxLen]; omega) (by omega) (by have := hb8.size; exact this) ?_; rintro v' w9 hown9 hgr hbl -; obtain ⟨A'', c'', rfl⟩ := own_slice hown9)
              have hb9 : Below w5.heap.size w5 w9 := hb8.grown hgr hb8.size (fun g hg => (hown7.lt g hg).1)
              go_roundw
              case rel => exact ⟨j + 1, A'', c'', acc ++ [1 + r + b], by omega, by go_num, rfl, by show _ = _; rw [HT.out, List.map_append, ← hacc.out]; simp [HLG.out, hlong], (fun y hy => by
                rw [HT.out] at hy
                rcases List.mem_append.1 hy with hy | hy
                · exact hF.out y hy
                · obtain rfl := List.mem_singleton.1 hy
                  exact HI0.out), by rw [List.map_append]; exact hown9, hb9⟩
              case measure => simp [intOf]; omega
          · have hjn : j = n2 := by omega
            subst hjn
            rw [List.take_of_length_le (by rw [HK2.out]; exact Nat.le_refl _)] at hacc hF
            have kr := (hb.cell (p := ⟨w.heap.size, 0, none⟩) (by have := B5.lt; exact this)).trans k5
            have HCt2 := Lib.hid (HCt.out w.heap.size wr kr (fun W' hW => (hW.cell (p := ⟨w.heap.size, 0, none⟩) (by have := B5.lt; have := hb.size; dsimp only; omega)).trans kr) ((hr25.below hb).more hb.size) ((hr35.below hb).more hb.size))
            have HE := Lib.hid (HGood.out hF.out)
            cases hany : pinned.any (fun x => !decide (x ∈ keep))
            · rw [hany] at HCt2 HE
              have HE0 : Hid (E = 0) := HE.out.trans (by rfl)
              go_wp2_with fail
              refine HCt2.out.mono ?_
              rintro e w6 ⟨rfl, hb6⟩
              go_wp2
              go_ret2
              have hv := HV2.out HE0.out
              rw [← hacc.out] at hv
              have hlen : acc.length = j := by have := hown.1; simpa using this
              rw [hv, HE0.out, hlen]
              exact ⟨below_step hb05 (hb.trans (hb6.mono hb.size)), A', c', rfl, own_mono (own_below hown hb6) hb05.size⟩
            · rw [hany] at HCt2 HE
              have HE0 : Hid (E = 5) := HE.out.trans (by rfl)
              go_wp2_with fail
              refine HCt2.out.mono ?_
              rintro e w6 ⟨rfl, hb6⟩
              go_wp2
              go_ret2
              have hv := HV.out (by rw [HE0.out]; decide)
              rw [hv, HE0.out]
              exact ⟨below_step hb05 (hb.trans (hb6.mono hb.size)), none, 0, rfl, World.ownsRow_nil _ _ _ _⟩
  · have hL : longsE a keep pinned = checkE a := by unfold longsE; rw [if_pos hE]
    have hV : longsV a keep pinned = [] := by unfold longsV; rw [hL, if_neg hE]
    rw [hL, hV]
    clear hL hV
    have HCk := Lib.hid HCk
    generalize checkE a = E at *
    have hE1 : (E != 0) = true := by simpa using hE
    go_enter Tryz.func152, Tryz.ntmps152
    go_wp2_with fail
    have hba := below_new w (.cells #[.slice A2 n2 c2] 23)
    refine (HCk.out _ ((hr.below hba).more hba.size)).mono ?_
    rintro e w1 ⟨rfl, hb1⟩
    go_wp2
    go_ret2
    exact ⟨below_step hba hb1, none, 0, rfl, World.ownsRow_nil _ _ _ _⟩
end Go.Proofs.YtbmkbnalembbjaaGreatDoor

namespace Go.Proofs.YtbmkbnalembbjaaGreatDoor
open Go.RowKit
def gspotsL (a : List Int) : List Spot := if checkE a = 0 then spotsL a else []
set_option maxHeartbeats 400000 in
theorem gspots_any (A : Option Addr) (n c : Nat) (a : List Int) (w : World) (hr : Reads w w.heap.size 1 A n (a.map (.int .u64))) (hnc : n ≤ c) (ha : ∀ x ∈ a, (Lit.int .u64 x).wf = true) :
    Calls Tryz.prog 98 #[.slice A n c] w fun e w' => Below w.heap.size w w' ∧ ∃ A' c', e = .returned (.tuple #[.slice A' (gspotsL a).length c', .int .i64 (checkE a)]) ∧ w'.ownsRow w.heap.size 165 5 (.slice A' (gspotsL a).length c') (gspotsL a).length (spotsC (gspotsL a)) := by
  have H1 := Lib.hid (fun w hr => checkFn_any A n c a w hr hnc ha)
  by_cases hE : checkE a = 0
  · have H2 := fun w hr => spots_any A n c a w hr ha
    rw [(checkE_ok.1 hE).1] at H2
    have H2 := Lib.hid H2
    rw [show gspotsL a = spotsL a by unfold gspotsL; rw [if_pos hE]]
    rw [hE] at H1 ⊢
    clear hE
    go_enter Tryz.func98, Tryz.ntmps98
    go_wp2_with fail
    refine (H1.out _ hr).mono ?_
    rintro e w1 ⟨rfl, hb1⟩
    go_wp2_with fail
    refine (H2.out _ ((hr.below hb1).more hb1.size)).mono ?_
    rintro e w2 ⟨hb2, A', c', rfl, hown⟩
    go_wp2
    go_ret2
    exact ⟨below_step hb1 hb2, A', c', rfl, own_mono hown hb1.size⟩
  · rw [show gspotsL a = [] by unfold gspotsL; rw [if_neg hE]]
    generalize checkE a = E at *
    have hE1 : (E != 0) = true := by simpa using hE
    clear hE
    go_enter Tryz.func98, Tryz.ntmps98
    go_wp2_with fail
    refine (H1.out _ hr).mono ?_
    rintro e w1 ⟨rfl, hb1⟩
    go_wp2
    go_ret2
    exact ⟨hb1, none, 0, rfl, World.ownsRow_nil _ _ _ _⟩
set_option maxHeartbeats 400000 in
theorem glong_ok (r b t : Int) (f : Bool) (w : World) (hE : headE r b t f = 0) :
    Calls Tryz.prog 103 #[.agg #[.int .i64 r, .int .i64 b, .int .i64 t, .bool f]] w fun e w' => e = .returned (.int .i64 (1 + r + b)) ∧ Below w.heap.size w w' := by
  have H := Lib.hid (fun w => hlongc_ok r b t f w hE)
  clear hE
  go_enter Tryz.func103, Tryz.ntmps103
  go_wp2_with fail
  refine (H.out _).mono ?_
  rintro e w1 ⟨rfl, hb1⟩
  go_wp2
  go_ret
  exact ⟨rfl, below_step (below_new _ _) hb1⟩
theorem info_run : (Tryz.prog.info? 133).map (fun i => (i.zero, i.size, i.bytes)) = some (some (.agg #[.int .i64 0, .int .i64 0]), 2, 16) := by kernel_rfl
set_option maxRecDepth 100000 in
set_option maxHeartbeats 1000000 in
theorem ggaps_any (A : Option Addr) (n c : Nat) (l : List Spot) (w : World) (hr : Reads w w.heap.size 5 A n (spotsC l)) (hn : n ≤ 256) (hl : ∀ s ∈ l, headE s.r s.b s.t s.f = 0) :
    Calls Tryz.prog 99 #[.slice A n c] w fun e w' => Below w.heap.size w w' ∧ ∃ A' c', e = .returned (.slice A' (gapsL l).length c') ∧ w'.ownsRow w.heap.size 133 2 (.slice A' (gapsL l).length c') (gapsL l).length (runsC (gapsL l)) := by
  have hll : l.length = n := by have := hr.1; rw [spotsC_length] at this; omega
  have HL := Lib.hid hll
  have HH := Lib.hid hl
  obtain ⟨i0, hi, hz0, hz1, hz2⟩ := info_parts info_run
  clear hll hl
  go_enter Tryz.func99, Tryz.ntmps99
  go_wp2
  go_loopw [3, 4, 5, 8] (fun o _ _ i wr => ∃ (j : Nat) (A' : Option Addr) (k c' : Nat) (acc : List Rn) (prev : Bool), j ≤ n ∧ i = .int .i64 j ∧ o = .slice A' k c' ∧ k ≤ j ∧ Hid (k = acc.length) ∧ Hid (gapsL l = gapsA acc prev (l.drop j)) ∧ Hid (∀ s, 0 < j → l[j - 1]? = some s → s.f = prev) ∧ Hid (j = 0 → prev = false) ∧ Hid (prev = true → 0 < k) ∧ Hid (∀ r ∈ acc, 0 ≤ r.len ∧ r.len ≤ 256 * j) ∧
    wr.ownsRow w.heap.size 133 2 (.slice A' k c') k (runsC acc) ∧ Below w.heap.size w wr) (fun _ _ _ i _ => n - (intOf i).toNat)
  case atStart => exact ⟨0, none, 0, 0, [], false, Nat.zero_le _, rfl, rfl, Nat.le_refl _, rfl, rfl, fun s h => absurd h (by omega), fun _ => rfl, (fun h => by cases h), (fun r h => by cases h), World.ownsRow_nil _ _ _ _, Below.refl _ _⟩
  case round =>
    obtain ⟨j, A', k, c', acc, prev, hj, rfl, rfl, hkj, hk, hG, hpv, hp0, hpk, hacc, hown, hb⟩ := hrel
    by_cases hlt : j < n
    · obtain ⟨ad, s, rfl, had, hs, c0, c1, c2, c3, c4⟩ := (hr.below hb).spot hlt
      have HD := Lib.hid (drop_of_get hs)
      have HSM : Hid (s ∈ l) := List.mem_of_getElem? hs
      have HS := Lib.hid hs
      have hE := headE_ok.1 (HH.out s HSM.out)
      have HG := Lib.hid (fun w => glong_ok s.r s.b s.t s.f w (HH.out s HSM.out))
      obtain ⟨r0, r1, b0, b1, t0, t1, l1, -⟩ := hE
      clear hs
      have HNP : Hid (∀ s', 0 < j + 1 → l[j + 1 - 1]? = some s' → s'.f = s.f) := by
        intro s' _ h
        rw [Nat.add_sub_cancel, HS.out] at h
        rw [← Option.some.inj h]
      obtain ⟨loc, r, b, t, f⟩ := s
      dsimp only at *
      have hown0 := hown.alloc (.cells #[.int .i64 loc, .int .i64 r, .int .i64 b, .int .i64 t, .bool f] 165)
      have hb0 := hb.alloc hb.size (.cells #[.int .i64 loc, .int .i64 r, .int .i64 b, .int .i64 t, .bool f] 165)
      have B0 := Blk.new wr 165 #[.int .i64 loc, .int .i64 r, .int .i64 b, .int .i64 t, .bool f]
      cases f
      · have HG2 : Hid (gapsL l = gapsA acc false (l.drop (j + 1))) := by
          show _ = _
          rw [hG.out, HD.out]
          simp only [gapsA]
          rfl
        clear B0
        go_wp2
        go_roundw
        case rel => exact ⟨j + 1, A', k, c', acc, false, by omega, by go_num, rfl, by omega, hk, HG2, HNP, fun _ => rfl, (fun h => by cases h), fun r hr => by have := hacc.out r hr; omega, hown0, hb0⟩
        case measure => simp [intOf]; omega
      · cases prev
        · have HG2 : Hid (gapsL l = gapsA (acc ++ [⟨loc, 1 + r + b⟩]) true (l.drop (j + 1))) := by
            show _ = _
            rw [hG.out, HD.out]
            simp only [gapsA]
            rfl
          have k0 := B0.cell 0
          have k1 := B0.cell 1
          have k2 := B0.cell 2
          have k3 := B0.cell 3
          have k4 := B0.cell 4
          simp only [List.getElem?_toArray, List.getElem?_cons_zero, List.getElem?_cons_succ] at k0 k1 k2 k3 k4
          by_cases hj0 : j = 0
          · have h0 : ¬ (0 < (j : Int)) := by omega
            have h0' : decide (0 < j) = false := by simp [hj0]
            clear hj0
            go_wp2
            go_region_held3 (fun w' => w'.cell? ⟨wr.heap.size, 0, none⟩ = some (.int .i64 loc) ∧ w'.cell? ⟨wr.heap.size, 1, none⟩ = some (.int .i64 r) ∧ w'.cell? ⟨wr.heap.size, 2, none⟩ = some (.int .i64 b) ∧ w'.cell? ⟨wr.heap.size, 3, none⟩ = some (.int .i64 t) ∧ w'.cell? ⟨wr.heap.size, 4, none⟩ = some (.bool true)) (go_keep)
              (first
                | (go_at_call 103; refine (HG.out _).mono ?_; rintro e w2 ⟨rfl, hb2⟩; have q0 := (hb2.cell (p := ⟨wr.heap.size, 0, none⟩) (by simp)).trans k0; have q1 := (hb2.cell (p := ⟨wr.heap.size, 1, none⟩) (by simp)).trans k1; have q2 := (hb2.cell (p := ⟨wr.heap.size, 2, none⟩) (by simp)).trans k2; have q3 := (hb2.cell (p := ⟨wr.heap.size, 3, none⟩) (by simp)).trans k3; have q4 := (hb2.cell (p := ⟨wr.heap.size, 4, none⟩) (by simp)).trans k4;
                   have D2 := B0.drew.below hb2 (by simp); have hown2 := (own_below hown0.drew hb2).alloc (.cells #[.int .i64 loc, .int .i64 (1 + r + b)] 133); have hb02 := hb0.drew.trans (hb2.mono hb0.size); have hb03 := hb02.alloc hb02.size (.cells #[.int .i64 loc, .int .i64 (1 + r + b)] 133); have D3 := D2.alloc (.cells #[.int .i64 loc, .int .i64 (1 + r + b)] 133); have hnew := reads_new w2 (runC ⟨loc, 1 + r + b⟩) 133 1 2 rfl)
                | (refine step_append_any _ (by rfl) (.tmp 13) (.tmp 20) 126 (by rfl) w.heap.size 133 i0 _ 2 16 Tryz.underlying126 hi hz0 hz1 hz2 rfl (by omega) (.slice A' k c') k _ (by rfl) hown2 (w2.heap.size + 1) (some ⟨w2.heap.size, 0, none⟩) 1 1 (runC ⟨loc, 1 + r + b⟩) (by rfl) hnew (by simp [runC, Value.oneCell']) (by simp [maxLen]; omega) (by omega) (by have := hb03.size; exact this) ?_; rintro v' w3 hown3 hgr hbl -; obtain ⟨A'', c'', rfl⟩ := own_slice hown3;
                   have D4 := D3.grown hgr (fun e => own_blk_ne hown2 D3 (by decide) e.symm); have s0 := D4.cell 0; have s1 := D4.cell 1; have s2 := D4.cell 2; have s3 := D4.cell 3; have s4 := D4.cell 4; simp only [List.getElem?_toArray, List.getElem?_cons_zero, List.getElem?_cons_succ] at s0 s1 s2 s3 s4))
            go_wp2
            have hb4 : Below w.heap.size w w3 := hb03.grown hgr hb03.size (fun g hg => (hown2.lt g hg).1)
            go_roundw
            case rel => exact ⟨j + 1, A'', k + 1, c'', acc ++ [⟨loc, 1 + r + b⟩], true, by omega, by go_num, rfl, by omega, by show _ = _; rw [List.length_append, ← hk.out]; rfl, HG2, HNP, (fun h => absurd h (by omega)), (fun _ => Nat.succ_pos _), (fun x hx => by
              rcases List.mem_append.1 hx with hx | hx
              · have := hacc.out x hx; omega
              · obtain rfl := List.mem_singleton.1 hx
                dsimp only
                omega), by rw [runsC_snoc]; exact hown3, hb4⟩
            case measure => simp [intOf]; omega
          · obtain ⟨p, rfl⟩ : ∃ p, j = p + 1 := ⟨j - 1, by omega⟩
            obtain ⟨ad', s', e', had', hs', -, -, -, -, d4⟩ := (hr.below hb).spot (j := p) (by omega)
            obtain rfl : ad' = ad := by injection e' with e'; exact e'.symm
            rw [hpv.out s' (by omega) (by simpa using hs')] at d4
            have hp1 : ((p + 1 : Nat) : Int) - 1 = p := by omega
            have h0 : 0 < ((p + 1 : Nat) : Int) := by omega
            clear hs' hj0
            have d4' : ∀ o, (wr.alloc o).cell? ⟨(ad'.add (p * 5)).block, (ad'.add (p * 5)).off + 1 + 3, none⟩ = some (.bool false) := fun o => by
              rw [World.cell?_alloc_lt _ _ _ (by dsimp only; rw [block_of_add]; have := hb.size; omega)]
              exact d4
            clear d4
            go_wp2
            go_region_held3 (fun w' => w'.cell? ⟨wr.heap.size, 0, none⟩ = some (.int .i64 loc) ∧ w'.cell? ⟨wr.heap.size, 1, none⟩ = some (.int .i64 r) ∧ w'.cell? ⟨wr.heap.size, 2, none⟩ = some (.int .i64 b) ∧ w'.cell? ⟨wr.heap.size, 3, none⟩ = some (.int .i64 t) ∧ w'.cell? ⟨wr.heap.size, 4, none⟩ = some (.bool true)) (go_keep)
              (first
                | (go_at_call 103; refine (HG.out _).mono ?_; rintro e w2 ⟨rfl, hb2⟩; have q0 := (hb2.cell (p := ⟨wr.heap.size, 0, none⟩) (by simp)).trans k0; have q1 := (hb2.cell (p := ⟨wr.heap.size, 1, none⟩) (by simp)).trans k1; have q2 := (hb2.cell (p := ⟨wr.heap.size, 2, none⟩) (by simp)).trans k2; have q3 := (hb2.cell (p := ⟨wr.heap.size, 3, none⟩) (by simp)).trans k3; have q4 := (hb2.cell (p := ⟨wr.heap.size, 4, none⟩) (by simp)).trans k4;
                   have D2 := B0.drew.below hb2 (by simp); have hown2 := (own_below hown0.drew hb2).alloc (.cells #[.int .i64 loc, .int .i64 (1 + r + b)] 133); have hb02 := hb0.drew.trans (hb2.mono hb0.size); have hb03 := hb02.alloc hb02.size (.cells #[.int .i64 loc, .int .i64 (1 + r + b)] 133); have D3 := D2.alloc (.cells #[.int .i64 loc, .int .i64 (1 + r + b)] 133); have hnew := reads_new w2 (runC ⟨loc, 1 + r + b⟩) 133 1 2 rfl)
                | (refine step_append_any _ (by rfl) (.tmp 13) (.tmp 20) 126 (by rfl) w.heap.size 133 i0 _ 2 16 Tryz.underlying126 hi hz0 hz1 hz2 rfl (by omega) (.slice A' k c') k _ (by rfl) hown2 (w2.heap.size + 1) (some ⟨w2.heap.size, 0, none⟩) 1 1 (runC ⟨loc, 1 + r + b⟩) (by rfl) hnew (by simp [runC, Value.oneCell']) (by simp [maxLen]; omega) (by omega) (by have := hb03.size; exact this) ?_; rintro v' w3 hown3 hgr hbl -; obtain ⟨A'', c'', rfl⟩ := own_slice hown3;
                   have D4 := D3.grown hgr (fun e => own_blk_ne hown2 D3 (by decide) e.symm); have s0 := D4.cell 0; have s1 := D4.cell 1; have s2 := D4.cell 2; have s3 := D4.cell 3; have s4 := D4.cell 4; simp only [List.getElem?_toArray, List.getElem?_cons_zero, List.getElem?_cons_succ] at s0 s1 s2 s3 s4))
            go_wp2
            have hb4 : Below w.heap.size w w3 := hb03.grown hgr hb03.size (fun g hg => (hown2.lt g hg).1)
            go_roundw
            case rel => exact ⟨p + 1 + 1, A'', k + 1, c'', acc ++ [⟨loc, 1 + r + b⟩], true, by omega, by go_num, rfl, by omega, by show _ = _; rw [List.length_append, ← hk.out]; rfl, HG2, HNP, (fun h => absurd h (by omega)), (fun _ => Nat.succ_pos _), (fun x hx => by
              rcases List.mem_append.1 hx with hx | hx
              · have := hacc.out x hx; omega
              · obtain rfl := List.mem_singleton.1 hx
                dsimp only
                omega), by rw [runsC_snoc]; exact hown3, hb4⟩
            case measure => simp [intOf]; omega
        · have hj0 : 0 < j := by
            rcases Nat.eq_zero_or_pos j with h | h
            · have := hp0.out h; cases this
            · exact h
          obtain ⟨p, rfl⟩ : ∃ p, j = p + 1 := ⟨j - 1, by omega⟩
          obtain ⟨ad', s', e', had', hs', -, -, -, -, d4⟩ := (hr.below hb).spot (j := p) (by omega)
          obtain rfl : ad' = ad := by injection e' with e'; exact e'.symm
          rw [hpv.out s' (by omega) (by simpa using hs')] at d4
          have hp1 : ((p + 1 : Nat) : Int) - 1 = p := by omega
          have h0 : 0 < ((p + 1 : Nat) : Int) := by omega
          have d4' : ∀ o, (wr.alloc o).cell? ⟨(ad'.add (p * 5)).block, (ad'.add (p * 5)).off + 1 + 3, none⟩ = some (.bool true) := fun o => by
            rw [World.cell?_alloc_lt _ _ _ (by dsimp only; rw [block_of_add]; have := hb.size; omega)]
            exact d4
          have hk0 := hpk.out rfl
          obtain ⟨q, hkq⟩ : ∃ q, k = q + 1 := ⟨k - 1, by omega⟩
          obtain ⟨acc', r0, rfl⟩ : ∃ acc' r0, acc = acc' ++ [r0] := by
            rcases List.eq_nil_or_concat acc with h | ⟨l, r, h⟩
            · have := hk.out; rw [h] at this; simp at this; omega
            · exact ⟨l, r, by rw [h, List.concat_eq_append]⟩
          obtain ⟨l0, n0⟩ := r0
          have hq : acc'.length = q := by have := hk.out; simp at this; omega
          have HQ := Lib.hid hq
          have hn0 := hacc.out ⟨l0, n0⟩ (List.mem_append_right _ (List.mem_singleton.2 rfl))
          obtain ⟨n1, n2⟩ := hn0
          dsimp only at n1 n2
          obtain ⟨g, cap, hv, hgb, -⟩ := hown.form (by omega)
          obtain ⟨rfl, rfl⟩ : A' = some ⟨g, 0, none⟩ ∧ c' = cap := by simpa using hv
          have hgl := (hown.lt g rfl).2
          have e0 := hown0.cellAt (q * 2 + 1) (by omega)
          rw [← hq, runsC_last, hq] at e0
          have f0 := hown0.frozenAt (q * 2 + 1)
          have HG2 : Hid (gapsL l = gapsA (acc' ++ [⟨l0, n0 + (1 + r + b)⟩]) true (l.drop (p + 1 + 1))) := by
            show _ = _
            rw [hG.out, HD.out]
            simp only [gapsA, bump_snoc]
            rfl
          have k0 := B0.cell 0
          have k1 := B0.cell 1
          have k2 := B0.cell 2
          have k3 := B0.cell 3
          have k4 := B0.cell 4
          simp only [List.getElem?_toArray, List.getElem?_cons_zero, List.getElem?_cons_succ] at k0 k1 k2 k3 k4
          have HOW := Lib.hid hown0
          have HBB := Lib.hid hb0
          have w2 : IntKind.i64.wrap ((k : Int) - 1) = (k : Int) - 1 := IntWalk.i64_in _ (by omega)
          have w3 : ((k : Int) - 1).toNat = q := by omega
          have w4 : (k : Int) - 1 < k := by omega
          have w5 : (0 : Int) ≤ (k : Int) - 1 := by omega
          have w6 : (1 : Int) ≤ (k : Int) := by omega
          have w1 : IntKind.i64.wrap (n0 + (1 + r + b)) = n0 + (1 + r + b) := IntWalk.i64_in _ (by omega)
          have HKQ := Lib.hid hkq
          clear hs' hj0 d4 hv hown hown0 hq hkq
          go_wp2
          go_region_with (go_at_call 103; refine (HG.out _).mono ?_; rintro e w2 ⟨rfl, hb2⟩; have q0 := (hb2.cell (p := ⟨wr.heap.size, 0, none⟩) (by simp)).trans k0; have q1 := (hb2.cell (p := ⟨wr.heap.size, 1, none⟩) (by simp)).trans k1; have q2 := (hb2.cell (p := ⟨wr.heap.size, 2, none⟩) (by simp)).trans k2; have q3 := (hb2.cell (p := ⟨wr.heap.size, 3, none⟩) (by simp)).trans k3; have q4 := (hb2.cell (p := ⟨wr.heap.size, 4, none⟩) (by simp)).trans k4; have e1 := (hb2.cell (p := ⟨g, q * 2 + 1, none⟩) (by simp; omega)).trans e0; have f1 := (hb2.frozen (p := ⟨g, q * 2 + 1, none⟩) (by simp; omega)).trans f0; have HB2 := Lib.hid hb2)
          all_goals
            have hown5 := own_below HOW.out.drew HB2.out
            have hown6 := (hown5.stored (q * 2 + 1) (.int .i64 (n0 + (1 + r + b)))).1
            have hq := HQ.out
            rw [← hq, runsC_bump, hq] at hown6
            have hb6 := HBB.out.drew.trans (HB2.out.mono HBB.out.size)
            have hb7 := hb6.setCell (p := ⟨g, q * 2 + 1, none⟩) hgb (.int .i64 (n0 + (1 + r + b)))
            go_wp2
            go_roundw
            case rel => exact ⟨p + 1 + 1, some ⟨g, 0, none⟩, k, c', acc' ++ [⟨l0, n0 + (1 + r + b)⟩], true, by omega, by go_num, rfl, by omega, by show _ = _; rw [List.length_append, HQ.out, HKQ.out]; rfl, HG2, HNP, (fun h => absurd h (by omega)), (fun _ => hk0), (fun x hx => by
              rcases List.mem_append.1 hx with hx | hx
              · have := hacc.out x (List.mem_append_left _ hx); omega
              · obtain rfl := List.mem_singleton.1 hx
                dsimp only
                omega), hown6, hb7⟩
            case measure => simp [intOf]; omega
    · have hjn : j = n := by omega
      subst hjn
      rw [List.drop_of_length_le (by rw [HL.out]; exact Nat.le_refl _)] at hG
      have hG : Hid (gapsL l = acc) := hG
      go_wp2
      go_ret
      rw [hG.out, ← hk.out]
      exact ⟨hb, A', c', rfl, hown⟩
end Go.Proofs.YtbmkbnalembbjaaGreatDoor

namespace Go.Proofs.YtbmkbnalembbjaaGreatDoor
open Go.RowKit
def firstV (l : List Rn) (n : Int) : Int := (fitsL l n).headD 0
def lenAt (l : List Rn) (i : Int) : Int := match l[i.toNat]? with | some r => r.len | none => 0
def bestGo (l : List Rn) (b : Int) : List Int → Int
  | [] => b
  | i :: t => bestGo l (if lenAt l i < lenAt l b then i else b) t
def bestV (l : List Rn) (n : Int) : Int := bestGo l (firstV l n) (fitsL l n)
theorem fitsL_mem {l : List Rn} {n x : Int} (h : x ∈ fitsL l n) : ∃ (j : Nat) (r : Rn), l[j]? = some r ∧ n ≤ r.len ∧ x = (j : Int) := by
  unfold fitsL at h
  split at h
  · obtain ⟨j, r, h1, h2, h3⟩ := fitIx_mem.1 h
    exact ⟨j, r, h1, h2, by simpa using h3⟩
  · cases h
theorem fitsL_bad {l : List Rn} {n : Int} (h : fitsE l n ≠ 0) : fitsL l n = [] := by unfold fitsL; rw [if_neg h]
theorem fitsL_ok {l : List Rn} {n : Int} (h : fitsE l n = 0) : fitsL l n = fitIx n 0 l ∧ fitIx n 0 l ≠ [] := by
  refine ⟨by unfold fitsL; rw [if_pos h], (fitsE_ok.1 h).2.2⟩
set_option maxHeartbeats 400000 in
theorem first_any (A : Option Addr) (m c : Nat) (l : List Rn) (n : Int) (w : World) (hr : Reads w w.heap.size 2 A m (runsC l)) (hm : m * 16 ≤ 140737488351232) :
    Calls Tryz.prog 67 #[.slice A m c, .int .i64 n] w fun e w' => e = .returned (.tuple #[.int .i64 (firstV l n), .int .i64 (fitsE l n)]) ∧ Below w.heap.size w w' := by
  have H := Lib.hid (fun w hr => fits_any A m c l n w hr hm)
  by_cases hE : fitsE l n = 0
  · obtain ⟨h1, h2⟩ := fitsL_ok hE
    rw [hE] at H ⊢
    unfold firstV
    generalize fitsL l n = L at *
    subst h1
    obtain ⟨x, t, hx⟩ := List.exists_cons_of_ne_nil h2
    rw [hx] at H ⊢
    clear hE h2 hx
    go_enter Tryz.func67, Tryz.ntmps67
    go_wp2_with fail
    refine (H.out _ hr).mono ?_
    rintro e w1 ⟨hb1, A', c', rfl, hown⟩
    obtain ⟨ad, x', rfl, -, hx', hc⟩ := (Reads.of_own hown).num (k := 0) (by simp)
    obtain rfl : x = x' := by simpa using hx'
    have hk0 : 0 < (x :: t).length := by simp
    generalize (x :: t).length = k at *
    have hc0 : w1.cell? ad = some (.int .i64 x) := by simpa [Addr.add] using hc
    clear hown hx'
    go_wp2
    go_ret2
    exact ⟨rfl, hb1⟩
  · have hl := fitsL_bad hE
    have hf : firstV l n = 0 := by unfold firstV; rw [hl]; rfl
    rw [hf]
    clear hf
    rw [hl] at H
    generalize fitsE l n = E at *
    have hE1 : (E != 0) = true := by simpa using hE
    clear hE hl
    go_enter Tryz.func67, Tryz.ntmps67
    go_wp2_with fail
    refine (H.out _ hr).mono ?_
    rintro e w1 ⟨hb1, A', c', rfl, -⟩
    go_wp2
    go_ret2
    exact ⟨rfl, hb1⟩
def ggL (a : List Int) : List Rn := if checkE a = 0 then gapsL (spotsL a) else []
theorem gspots_small (a : List Int) : (gspotsL a).length ≤ 256 ∧ (∀ s ∈ gspotsL a, headE s.r s.b s.t s.f = 0) ∧ (checkE a ≠ 0 → gspotsL a = []) ∧ gapsL (gspotsL a) = ggL a := by
  unfold gspotsL ggL
  by_cases h : checkE a = 0
  · rw [if_pos h, if_pos h]
    refine ⟨spotsL_length a, fun s hs => ((parse_mem (parse_ok (checkE_ok.1 h).1).2) s hs).1.head, fun h2 => absurd h h2, rfl⟩
  · rw [if_neg h, if_neg h]
    exact ⟨by simp, by simp, fun _ => rfl, rfl⟩
set_option maxHeartbeats 400000 in
theorem ggapsE_any (A : Option Addr) (n c : Nat) (a : List Int) (w : World) (hr : Reads w w.heap.size 1 A n (a.map (.int .u64))) (hnc : n ≤ c) (ha : ∀ x ∈ a, (Lit.int .u64 x).wf = true) :
    Calls Tryz.prog 66 #[.slice A n c] w fun e w' => Below w.heap.size w w' ∧ ∃ A' c', e = .returned (.tuple #[.slice A' (ggL a).length c', .int .i64 (checkE a)]) ∧ w'.ownsRow w.heap.size 133 2 (.slice A' (ggL a).length c') (ggL a).length (runsC (ggL a)) := by
  have H1 := Lib.hid (fun w hr => gspots_any A n c a w hr hnc ha)
  obtain ⟨s1, s2, s3, s4⟩ := gspots_small a
  have H2 := Lib.hid (fun A' c' w hr => ggaps_any A' (gspotsL a).length c' (gspotsL a) w hr s1 s2)
  rw [s4] at H2
  have hg : checkE a ≠ 0 → ggL a = [] := fun h => by unfold ggL; rw [if_neg h]
  generalize checkE a = E at *
  generalize gspotsL a = L at *
  generalize ggL a = G at *
  clear s1 s2 s4
  by_cases hE : E = 0
  · subst hE
    clear hg s3
    go_enter Tryz.func66, Tryz.ntmps66
    go_wp2_with fail
    refine (H1.out _ hr).mono ?_
    rintro e w1 ⟨hb1, A', c', rfl, hown⟩
    have hrl := Reads.of_own hown
    clear hown
    go_wp2_with fail
    refine (H2.out _ _ _ hrl).mono ?_
    rintro e w2 ⟨hb2, A2, c2, rfl, hown2⟩
    go_wp2
    go_ret2
    exact ⟨below_step hb1 hb2, A2, c2, rfl, own_mono hown2 hb1.size⟩
  · have hE1 : (E != 0) = true := by simpa using hE
    obtain rfl := hg hE
    clear hg hE s3
    go_enter Tryz.func66, Tryz.ntmps66
    go_wp2_with fail
    refine (H1.out _ hr).mono ?_
    rintro e w1 ⟨hb1, A', c', rfl, hown⟩
    clear hown
    go_wp2
    go_ret2
    exact ⟨hb1, none, 0, rfl, World.ownsRow_nil _ _ _ _⟩
end Go.Proofs.YtbmkbnalembbjaaGreatDoor

namespace Go.Proofs.YtbmkbnalembbjaaGreatDoor
open Go.RowKit
end Go.Proofs.YtbmkbnalembbjaaGreatDoor
