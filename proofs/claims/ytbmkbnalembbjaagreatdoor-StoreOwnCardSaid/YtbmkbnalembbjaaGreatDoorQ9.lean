/-
  Texts joined: RootSwap SlicesPin StorePuts CleanTwice StLaw OwnT OwnBase OwnI.
-/
import Derived.Test.YtbmkbnalembbjaaGreatDoorRows
import Derived.OwnWalkIn
import Derived.Test.YtbmkbnalembbjaaGreatDoorQ0
import Derived.Test.YtbmkbnalembbjaaGreatDoorQ2
import Derived.Test.YtbmkbnalembbjaaGreatDoorQ3
import Derived.Test.YtbmkbnalembbjaaGreatDoorQ8
namespace Go.Proofs.YtbmkbnalembbjaaGreatDoor
open Go.RowKit
def swapE (r : List Int) (n : Int) (t : List Int) : Int := if rootE r n ≠ 0 then rootE r n else if (t.length : Int) ≠ n then 3 else if t.any (fun v => !inR v n) = true then 4 else 0
def swapV (t : List Int) (v : Int) : Int := if 0 ≤ v then t.getD v.toNat 0 else v
theorem swapE_ok {r t : List Int} {n : Int} (h : swapE r n t = 0) : rootE r n = 0 ∧ (t.length : Int) = n ∧ ∀ v ∈ t, -1 ≤ v ∧ v < n := by
  unfold swapE at h
  split at h
  · rename_i h1; exact absurd h h1
  · rename_i h1
    split at h
    · cases h
    · rename_i h2
      split at h
      · cases h
      · rename_i h3
        refine ⟨by simpa using h1, by simpa using h2, fun v hv => ?_⟩
        have h4 : ¬ (!inR v n) = true := fun h5 => h3 (List.any_eq_true.2 ⟨v, hv, h5⟩)
        simp only [inR, Bool.not_eq_true', Bool.not_eq_false, Bool.and_eq_true, decide_eq_true_eq] at h4
        exact h4
theorem swapE_of {r t : List Int} {n : Int} (h : rootE r n = 0) (h1 : (t.length : Int) = n) (h2 : ∀ v ∈ t, -1 ≤ v ∧ v < n) : swapE r n t = 0 := by
  unfold swapE
  rw [if_neg (by simp [h]), if_neg (by simp [h1]), if_neg]
  intro h3
  obtain ⟨v, hv, h4⟩ := List.any_eq_true.1 h3
  have := h2 v hv
  simp only [inR, Bool.not_eq_true', Bool.and_eq_false_iff, decide_eq_false_iff_not] at h4
  omega
set_option maxHeartbeats 400000 in
theorem swapOut_any (v n : Int) (g : Nat) (w : World) (hc : w.cell? ⟨g, 0, none⟩ = some (.int .i64 n)) :
    Calls Tryz.prog 108 #[.int .i64 v, .pointer (some ⟨g, 0, none⟩)] w fun e w' => e = .returned (.bool (!inR v n)) ∧ Below w.heap.size w w' := by
  have H := Lib.hid (fun w => within_any v n w)
  generalize inR v n = b at *
  go_enter Tryz.func108, Tryz.ntmps108
  go_wp2_with (go_at_call 87; refine (H.out _).mono ?_; rintro e w' ⟨rfl, rfl⟩)
  go_ret
  exact ⟨rfl, Below.refl _ _⟩
theorem swap_step {r t : List Int} {j : Nat} (h : j < r.length) : ((r.take j).map (swapV t) ++ r.drop j).set j (swapV t r[j]) = (r.take (j + 1)).map (swapV t) ++ r.drop (j + 1) := by
  have hl : ((r.take j).map (swapV t)).length = j := by rw [List.length_map, List.length_take]; omega
  rw [List.drop_eq_getElem_cons h, List.set_append_right _ _ (by omega), hl, Nat.sub_self, List.set_cons_zero, List.take_succ_eq_append_getElem h, List.map_append, List.append_assoc]
  rfl
theorem swap_at {r t : List Int} {j : Nat} (h : j < r.length) : ((r.take j).map (swapV t) ++ r.drop j)[j]? = some r[j] := by
  have hl : ((r.take j).map (swapV t)).length = j := by rw [List.length_map, List.length_take]; omega
  rw [List.getElem?_append_right (by omega), hl, Nat.sub_self, List.drop_eq_getElem_cons h]
  rfl
theorem swap_skip {r t : List Int} {j : Nat} (h : j < r.length) (h0 : r[j] < 0) : (r.take j).map (swapV t) ++ r.drop j = (r.take (j + 1)).map (swapV t) ++ r.drop (j + 1) := by
  rw [← swap_step h]
  have : swapV t r[j] = r[j] := by unfold swapV; rw [if_neg (by omega)]
  rw [this]
  obtain ⟨q1, q2⟩ := List.getElem?_eq_some_iff.1 (swap_at (t := t) h)
  have h1 := List.set_getElem_self q1
  rw [q2] at h1
  exact h1.symm
end Go.Proofs.YtbmkbnalembbjaaGreatDoor

namespace Go.Proofs.YtbmkbnalembbjaaGreatDoor
open Go.RowKit
theorem info_pin : (Tryz.prog.info? 57).map (fun i => (i.zero, i.size, i.bytes)) = some (some (.agg #[.int .i64 0, .int .i64 0]), 2, 16) := by kernel_rfl
set_option maxHeartbeats 400000 in
theorem equal_pin (A A2 : Option Addr) (n c c2 B B2 : Nat) (l : List Rn) (w : World) (hr : Reads w B 2 A n (runsC l)) (hr2 : Reads w B2 2 A2 n (runsC l)) (hn : n ≤ 1000000000000000000) :
    Calls Tryz.prog 31 #[.slice A n c, .slice A2 n c2] w fun e w' => e = .returned (.bool true) ∧ ∃ q, w' = w.drewN q := by
  go_enter Tryz.func31, Tryz.ntmps31
  go_wp2
  go_loopw [13] (fun i wr => ∃ j : Nat, j ≤ n ∧ i = .int .i64 j ∧ ∃ q, wr = w.drewN q) (fun i _ => n - (intOf i).toNat)
  case atStart => exact ⟨0, Nat.zero_le _, rfl, 0, rfl⟩
  case round =>
    obtain ⟨j, hj, rfl, q, rfl⟩ := hrel
    by_cases hlt : j < n
    · obtain ⟨ad, r, rfl, _, hs, c0, c1⟩ := hr.run hlt
      obtain ⟨ad2, r2, rfl, _, hs2, d0, d1⟩ := hr2.run hlt
      obtain rfl : r = r2 := Option.some.inj (hs.symm.trans hs2)
      obtain ⟨x, y⟩ := r
      dsimp only at *
      have hlt' : (j : Int) < n := by omega
      clear hs hs2
      go_wp2
      go_quiet (fail)
      go_wp2
      go_roundw
      case rel => exact ⟨j + 1, by omega, by go_num, _, rfl⟩
      case measure => simp [intOf]; omega
    · go_wp2
      go_ret
      exact ⟨rfl, _, rfl⟩
end Go.Proofs.YtbmkbnalembbjaaGreatDoor

namespace Go.Proofs.YtbmkbnalembbjaaGreatDoor
open Go.RowKit
theorem begs_bounds {a : List Int} (h : checkE a = 0) {x : Int} (hx : x ∈ begsL (spotsL a)) : 0 ≤ x ∧ x ≤ 256 := by
  obtain ⟨s, hs, rfl⟩ := List.mem_map.1 hx
  exact spots_bounds (checkE_ok.1 h).1 s (List.mem_filter.1 hs).1
theorem begs_lt {a : List Int} (h : checkE a = 0) {x : Int} (hx : x ∈ begsL (spotsL a)) : 0 ≤ x ∧ x < a.length := by
  have h2 := begsL_bounds (checkE_ok.1 h).1 _ hx
  obtain ⟨s, hs, rfl⟩ := List.mem_map.1 hx
  have h1 := ((parse_mem (parse_ok (checkE_ok.1 h).1).2) s (List.mem_filter.1 hs).1).1
  have h3 := h1.fits
  have h4 := h1.r0
  have h5 := h1.b0
  unfold Spot.long at h3
  omega
theorem at_wf {x : Int} (h : 0 ≤ x ∧ x ≤ 256) : (Lit.int .i64 x).wf = true := by
  simp [Lit.wf, IntKind.min, IntKind.max, IntKind.signed, IntKind.bits]; omega
def putsL (t : List Int) : List Int → List Int → List Int
  | x :: f, y :: g => putsL (t.set x.toNat y) f g
  | _, _ => t
theorem putsL_length (f g : List Int) : ∀ t : List Int, (putsL t f g).length = t.length := by
  induction f generalizing g with
  | nil => intro t; cases g <;> rfl
  | cons x f ih =>
    intro t
    cases g with
    | nil => rfl
    | cons y g => rw [putsL, ih, List.length_set]
theorem putsL_snoc {f g : List Int} (h : f.length = g.length) (x y : Int) : ∀ t : List Int, putsL t (f ++ [x]) (g ++ [y]) = (putsL t f g).set x.toNat y := by
  induction f generalizing g with
  | nil => intro t; cases g with
    | nil => rfl
    | cons b g => cases h
  | cons a f ih =>
    intro t
    cases g with
    | nil => cases h
    | cons b g => simp only [List.cons_append, putsL]; exact ih (by simpa using h) _
theorem putsL_mem {f g : List Int} : ∀ {t : List Int} {v : Int}, v ∈ putsL t f g → v ∈ t ∨ v ∈ g := by
  induction f generalizing g with
  | nil => intro t v h; cases g <;> exact .inl h
  | cons x f ih =>
    intro t v h
    cases g with
    | nil => exact .inl h
    | cons y g =>
      rw [putsL] at h
      rcases ih h with h | h
      · rcases List.mem_or_eq_of_mem_set h with h | h
        · exact .inl h
        · exact .inr (by rw [h]; exact List.mem_cons_self)
      · exact .inr (List.mem_cons_of_mem _ h)
theorem putsL_other {f g : List Int} {k : Nat} (h : ∀ x ∈ f, x.toNat ≠ k) : ∀ t : List Int, (putsL t f g)[k]? = t[k]? := by
  induction f generalizing g with
  | nil => intro t; cases g <;> rfl
  | cons x f ih =>
    intro t
    cases g with
    | nil => rfl
    | cons y g =>
      rw [putsL, ih (fun z hz => h z (List.mem_cons_of_mem _ hz)), List.getElem?_set_ne (h x List.mem_cons_self)]
theorem putsL_at {f g : List Int} (hd : f.Nodup) (h0 : ∀ x ∈ f, 0 ≤ x) {i : Nat} {x y : Int} (hx : f[i]? = some x) (hy : g[i]? = some y) : ∀ t : List Int, x.toNat < t.length → (putsL t f g)[x.toNat]? = some y := by
  induction f generalizing g i with
  | nil => simp at hx
  | cons a f ih =>
    intro t ht
    cases g with
    | nil => simp at hy
    | cons b g =>
      rw [putsL]
      cases i with
      | zero =>
        simp only [List.getElem?_cons_zero, Option.some.injEq] at hx hy
        subst hx hy
        have hn := (List.nodup_cons.1 hd).1
        rw [putsL_other (fun z hz he => hn (by have h1 := h0 z (List.mem_cons_of_mem _ hz); have h2 := h0 a List.mem_cons_self; have : z = a := by omega
                                               rwa [← this]))]
        rw [List.getElem?_set_self ht]
      | succ i =>
        simp only [List.getElem?_cons_succ] at hx hy
        exact ih (List.nodup_cons.1 hd).2 (fun z hz => h0 z (List.mem_cons_of_mem _ hz)) hx hy _ (by rw [List.length_set]; exact ht)
theorem own_blk {w : World} {base size n g : Nat} {e t : TypeId} {v : Value} {xs : List Value} {cs : Array Value} (h : w.ownsRow base e size v n xs) (hB : Blk w g t cs) (hne : e ≠ t) : v.ownBlock ≠ some g := by
  intro hg
  rcases h.2 with ⟨rfl, _⟩ | ⟨g1, cap, cur, rfl, _, hh, _⟩
  · cases hg
  · obtain rfl : g1 = g := by simpa [Value.ownBlock] using hg
    have hB : w.heap[g1]? = some (.cells cs t (0, 0)) := hB
    rw [hh] at hB
    injection hB with hB
    injection hB with _ hB
    exact hne hB
theorem puts_in {a f p L Y b now : List Int} (h : CleanIs a f p L Y b now) (k : Nat) (hk : a.length ≤ k) : ∀ v ∈ putsL (List.replicate k 0) f now, 0 ≤ v ∧ v < k := by
  have hC := cleaned_of h
  intro v hv
  rcases putsL_mem hv with h1 | h1
  · obtain ⟨h2, rfl⟩ := List.mem_replicate.1 h1
    omega
  · have h2 := begs_lt hC.laid.check (hC.alive v (List.mem_append_left _ h1))
    have h3 := hC.laid.len
    omega
theorem two_made (w : World) (base n k : Nat) (hb : base ≤ w.heap.size) (hn : n ≤ maxLen) (hk : k ≤ maxLen) :
    ((w.alloc (.cells (madeCells #[.int .i64 0] n) 3)).alloc (.cells (madeCells #[.int .i64 0] k) 3)).ownsRow base 3 1 (.slice (some ⟨w.heap.size, 0, none⟩) n n) n (List.replicate n (.int .i64 0)) ∧
    ((w.alloc (.cells (madeCells #[.int .i64 0] n) 3)).alloc (.cells (madeCells #[.int .i64 0] k) 3)).ownsRow base 3 1 (.slice (some ⟨w.heap.size + 1, 0, none⟩) k k) k (List.replicate k (.int .i64 0)) ∧
    Below base w ((w.alloc (.cells (madeCells #[.int .i64 0] n) 3)).alloc (.cells (madeCells #[.int .i64 0] k) 3)) := by
  have h1 := own_make1 w base 3 (.int .i64 0) n _ rfl hb hn
  have h2 := own_make1 (w.alloc (.cells (madeCells #[.int .i64 0] n) 3)) base 3 (.int .i64 0) k _ rfl (by rw [World.size_alloc]; omega) hk
  rw [World.size_alloc] at h2
  have hb1 := (Below.refl base w).alloc hb (.cells (madeCells #[.int .i64 0] n) 3)
  exact ⟨h1.alloc _, h2, hb1.alloc (by rw [World.size_alloc]; omega) _⟩
def freeL (b : List Int) : Int := rsum (ggL b)
end Go.Proofs.YtbmkbnalembbjaaGreatDoor

namespace Go.Proofs.YtbmkbnalembbjaaGreatDoor
open Go.RowKit
theorem slid_pairwise {N : Int} (pinned : List Int) : ∀ (keep L : List Int) (e : Int), Kept N keep L → (∀ x, keep[0]? = some x → e ≤ x) → (slidGo pinned e keep L).Pairwise (· < ·) := by
  intro keep
  induction keep with
  | nil => intro L e _ _; simp [slidGo]
  | cons x ks ih =>
    intro L e hK he
    cases L with
    | nil => simp [slidGo]
    | cons n ls =>
      obtain ⟨x0, n1, n2, hxn⟩ := hK.at_ 0 x n rfl rfl
      have hex := he x rfl
      obtain ⟨z, hz⟩ : ∃ z, z = (if x ∈ pinned then x else e) := ⟨_, rfl⟩
      have hz1 : e ≤ z ∧ z ≤ x := by rw [hz]; split <;> omega
      have hh : ∀ y, ks[0]? = some y → z + n ≤ y := fun y hy => by have := hK.next 0 x n y rfl rfl (by simpa using hy); omega
      have hS := slid_of N pinned ks ls (z + n) hK.tail hh
      have hY : slidGo pinned e (x :: ks) (n :: ls) = z :: slidGo pinned (z + n) ks ls := by simp only [slidGo]; rw [← hz]
      rw [hY]
      refine List.pairwise_cons.2 ⟨fun y hy => ?_, ih ls (z + n) hK.tail hh⟩
      obtain ⟨j, hj⟩ := List.mem_iff_getElem?.1 hy
      have := hS.low j y hj
      omega
theorem slid_slid (pinned : List Int) : ∀ (keep L : List Int) (e : Int), slidGo pinned e (slidGo pinned e keep L) L = slidGo pinned e keep L := by
  intro keep
  induction keep with
  | nil => intro L e; simp [slidGo]
  | cons x ks ih =>
    intro L e
    cases L with
    | nil => simp [slidGo]
    | cons n ls =>
      obtain ⟨z, hz⟩ : ∃ z, z = (if x ∈ pinned then x else e) := ⟨_, rfl⟩
      have hzz : (if z ∈ pinned then z else e) = z := by
        by_cases h : z ∈ pinned
        · rw [if_pos h]
        · rw [if_neg h]
          by_cases hx : x ∈ pinned
          · rw [if_pos hx] at hz; rw [hz] at h; exact absurd hx h
          · rw [if_neg hx] at hz; exact hz.symm
      have hY : slidGo pinned e (x :: ks) (n :: ls) = z :: slidGo pinned (z + n) ks ls := by simp only [slidGo]; rw [← hz]
      rw [hY]
      simp only [slidGo]
      rw [hzz, ih]
theorem Cleaned.again {a f p L Y b now : List Int} (h : Cleaned a f p L Y b now) (hI : CleanIs a f p L Y b now) : CleanOk b now p ∧ ∀ L' Y' b' now', CleanIs b now p L' Y' b' now' → L' = Y ∧ Y' = Y ∧ b' = b ∧ now' = now := by
  refine ⟨⟨h.laid.check, h.alive, hI.rises⟩, fun L' Y' b' now' hI' => ?_⟩
  have hP := h.plan
  obtain ⟨hK, -⟩ := kept_of hI.longs
  have hYs : Y.Pairwise (· < ·) := by
    rw [hI.y]
    exact slid_pairwise p L _ 0 hK (fun x hx => hP.nn2 x (List.mem_of_getElem? hx))
  have hmap : L.map (posL L Y) = Y := posL_map hP.nodup hP.len
  have hR := reached_iso h.laid.iso hP.nn2 hI.reached (by rw [hmap]; exact hYs.imp (fun h => by omega))
  rw [← h.map, hmap] at hR
  obtain rfl : L' = Y := Reached.unique hI'.reached hR
  have hYn : L'.Nodup := by
    rw [List.nodup_iff_pairwise_ne]
    exact hYs.imp (fun h => by omega)
  have hP' := planned_of hI'.longs
  rw [← hI'.y] at hP'
  have hat : ∀ (j : Nat) (x y : Int), L[j]? = some x → L'[j]? = some y → ∃ s s', spotAt (spotsL a) x = some s ∧ spotAt (spotsL b) y = some s' ∧ s'.r = s.r ∧ s'.b = s.b ∧ s'.t = s.t ∧ bodyOf b s' = bodyOf a s ∧ refsOf b s' = (refsOf a s).map (refT (posL L L')) := by
    intro j x y hx hy
    have hxL := List.mem_of_getElem? hx
    obtain ⟨s, hs⟩ := begsL_iff.1 (h.closed.begs x hxL)
    obtain ⟨s', hs', e⟩ := h.laid.iso.at_ x hxL s hs
    rw [posL_at hP.nodup hx hy] at hs'
    exact ⟨s, s', hs, hs', e⟩
  have hlen : (longsV b L' p) = longsV a L p := by
    refine List.ext_getElem? (fun j => ?_)
    by_cases hj : j < L.length
    · have hx : L[j]? = some L[j] := List.getElem?_eq_getElem hj
      have hy : L'[j]? = some (L'[j]'(by rw [hP.len]; exact hj)) := List.getElem?_eq_getElem _
      have hy' : Y'[j]? = some (Y'[j]'(by rw [hP'.len, hP.len]; exact hj)) := List.getElem?_eq_getElem _
      obtain ⟨s, i, e1, -, -, -, -, e6, -⟩ := hP.at_ j _ _ hx hy
      obtain ⟨s2, i2, f1, -, -, -, -, f6, -⟩ := hP'.at_ j _ _ hy hy'
      obtain ⟨t, t', g1, g2, g3, g4, -⟩ := hat j _ _ hx hy
      obtain rfl := Option.some.inj (e1.symm.trans g1)
      obtain rfl := Option.some.inj (f1.symm.trans g2)
      rw [e6, f6]
      unfold Spot.long
      rw [g3, g4]
    · rw [List.getElem?_eq_none (by rw [hP'.lenL, hP.len]; omega), List.getElem?_eq_none (by rw [hP.lenL]; omega)]
  have hY' : Y' = L' := by
    rw [hI'.y, hlen]
    conv => lhs; rw [hI.y]
    rw [slid_slid]
    exact hI.y.symm
  subst hY'
  have hid : ∀ y ∈ Y', posL Y' Y' y = y := fun y hy => by
    obtain ⟨j, z, h1, h2, h3⟩ := posL_ex hYn rfl hy
    rw [h1] at h2
    rw [h3]
    exact (Option.some.inj h2).symm
  refine ⟨rfl, rfl, ?_, ?_⟩
  · have e1 := hI'.b
    unfold slidW at e1
    rw [← hI'.y, h.laid.len] at e1
    have e2 := hI.b
    unfold slidW at e2
    rw [← hI.y] at e2
    rw [e1]
    refine Eq.trans ?_ e2.symm
    congr 2
    refine List.ext_getElem? (fun j => ?_)
    by_cases hj : j < L.length
    · have hx : L[j]? = some L[j] := List.getElem?_eq_getElem hj
      have hy : Y'[j]? = some (Y'[j]'(by rw [hP.len]; exact hj)) := List.getElem?_eq_getElem _
      rw [rowsOf_at hy hy, rowsOf_at hx hy]
      obtain ⟨s, s', g1, g2, g3, g4, g5, g6, g7⟩ := hat j _ _ hx hy
      rw [rowAt_some g1, rowAt_some g2]
      congr 2
      unfold kC
      rw [g3, g4, g5, g6, g7, List.map_map]
      congr 2
      refine List.map_congr_left (fun v hv => ?_)
      show refT _ (refT _ v) = refT _ v
      by_cases h0 : v = 0
      · subst h0; rfl
      · have hk := Iso.link_of h.closed (List.mem_of_getElem? hx) g1 v hv h0
        have hn := h.laid.iso.nn _ hk
        have e : refT (posL L Y') v = posL L Y' (v - 1) + 1 := by unfold refT; rw [if_neg h0]
        rw [e]
        unfold refT
        rw [if_neg (by omega), show posL L Y' (v - 1) + 1 - 1 = posL L Y' (v - 1) by omega, hid]
        obtain ⟨i, u, -, hu, e2⟩ := posL_ex hP.nodup hP.len hk
        rw [e2]
        exact List.mem_of_getElem? hu
    · rw [List.getElem?_eq_none (by rw [rowsOf_length rfl, hP.len]; omega), List.getElem?_eq_none (by rw [rowsOf_length hP.len]; omega)]
  · rw [hI'.now]
    conv => rhs; rw [← List.map_id now]
    refine List.map_congr_left (fun x hx => hid x ?_)
    rw [hI.now] at hx
    obtain ⟨z, hz, rfl⟩ := List.mem_map.1 hx
    obtain ⟨i, u, -, hu, e2⟩ := posL_ex hP.nodup hP.len (h.sub z (List.mem_append_left _ hz))
    rw [e2]
    exact List.mem_of_getElem? hu
end Go.Proofs.YtbmkbnalembbjaaGreatDoor

namespace Go.Proofs.YtbmkbnalembbjaaGreatDoor
open Go.RowKit
theorem compact_strict {l : List Int} (h : l.Pairwise (fun x y => x ≤ y)) : (Lib.compact l).Pairwise (fun x y => x < y) := by
  unfold Lib.compact Lib.compactUpTo
  rw [List.pairwise_map]
  have h1 : ((List.range l.length).filter (Lib.keeps l.toArray)).Pairwise (fun i j => i < j) := List.pairwise_lt_range.sublist List.filter_sublist
  refine List.Pairwise.imp_of_mem ?_ h1
  intro i j hi hj hij
  obtain ⟨hi1, -⟩ := List.mem_filter.1 hi
  obtain ⟨hj1, hj2⟩ := List.mem_filter.1 hj
  have hi1 := List.mem_range.1 hi1
  have hj1 := List.mem_range.1 hj1
  have h2 : l.toArray[j]! ≠ l.toArray[j - 1]! := by
    simp only [Lib.keeps, decide_eq_true_eq] at hj2
    exact hj2.resolve_left (by omega)
  rw [getElem!_pos l.toArray i (by simpa using hi1), getElem!_pos l.toArray j (by simpa using hj1)]
  rw [getElem!_pos l.toArray j (by simpa using hj1), getElem!_pos l.toArray (j - 1) (by simp; omega)] at h2
  simp only [List.getElem_toArray] at h2 ⊢
  have h3 : ∀ (p q : Nat) (hp : p < l.length) (hq : q < l.length), p ≤ q → l[p] ≤ l[q] := by
    intro p q hp hq hpq
    rcases Nat.eq_or_lt_of_le hpq with rfl | hlt
    · exact Int.le_refl _
    · exact List.pairwise_iff_getElem.1 h p q hp hq hlt
  have h4 := h3 i (j - 1) hi1 (by omega) (by omega)
  have h5 := h3 (j - 1) j (by omega) hj1 (by omega)
  omega
theorem fromL_strict (r : List Int) (l : List Slot) (p : List Rn) : (fromL r l p).Pairwise (fun x y => x < y) := compact_strict (sortL_sorted _)
theorem fromL_nodup (r : List Int) (l : List Slot) (p : List Rn) : (fromL r l p).Nodup := by
  rw [List.nodup_iff_pairwise_ne]
  exact (fromL_strict r l p).imp (fun h => by omega)
structure St where
  a : List Int
  r : List Int
  p : List Rn
  l : List Slot
def St.begs (S : St) : List Int := fromL S.r S.l S.p
def StOk (S : St) : Prop := StoreOk S.a S.r S.l S.p
def rootedL (S : St) : List Int := S.r.filter (fun v => decide (0 ≤ v)) ++ openL S.l ++ pinsL S.p
theorem rooted_begs {S : St} {x : Int} : x ∈ S.begs ↔ x ∈ rootedL S := by
  unfold St.begs rootedL fromL
  rw [compact_mem, sortL_mem]
  simp only [List.mem_append, namedL_mem, List.mem_filter, decide_eq_true_eq]
theorem open_at {S : St} {s : Slot} (h : s ∈ S.l) (ho : s.opn = true) : s.loc ∈ S.begs := rooted_begs.2 (List.mem_append_left _ (List.mem_append_right _ (List.mem_map.2 ⟨s, List.mem_filter.2 ⟨h, ho⟩, rfl⟩)))
theorem root_at {S : St} {v : Int} (h : v ∈ S.r) (h0 : 0 ≤ v) : v ∈ S.begs := rooted_begs.2 (List.mem_append_left _ (List.mem_append_left _ (List.mem_filter.2 ⟨h, by simpa using h0⟩)))
theorem pin_at {S : St} {y : Rn} (h : y ∈ S.p) : y.loc ∈ S.begs := rooted_begs.2 (List.mem_append_right _ (List.mem_map.2 ⟨y, h, rfl⟩))
def phiV (φ : Int → Int) (v : Int) : Int := if 0 ≤ v then φ v else v
def phiS (φ : Int → Int) (s : Slot) : Slot := if s.opn = true then ⟨s.gen, true, φ s.loc⟩ else s
structure Coll (S S' : St) (fr : Int) (L Y now : List Int) : Prop where
  is : CleanIs S.a S.begs (pinsL S.p) L Y S'.a now
  r : S'.r = S.r.map (swapV (putsL (List.replicate S.a.length 0) S.begs now))
  p : S'.p = S.p
  l : S'.l = S.l.map (swapS (putsL (List.replicate 256 0) S.begs now))
  fr : fr = freeL S'.a
section
variable {S S' S2 : St} {fr fr2 : Int} {L Y now L2 Y2 now2 : List Int}
theorem Coll.put (h : Coll S S' fr L Y now) (hS : StOk S) {k : Nat} (hk : S.a.length ≤ k) {x : Int} (hx : x ∈ S.begs) : 0 ≤ x ∧ x < S.a.length ∧ (putsL (List.replicate k 0) S.begs now).getD x.toNat 0 = posL L Y x := by
  have h1 : ∀ x ∈ S.begs, 0 ≤ x ∧ x < S.a.length := fun x hx => begs_lt hS.arena (hS.live x hx)
  obtain ⟨i, hi⟩ := List.mem_iff_getElem?.1 hx
  have hy : now[i]? = some (posL L Y x) := by rw [h.is.now, List.getElem?_map, hi]; rfl
  have h2 := putsL_at (show S.begs.Nodup from fromL_nodup S.r S.l S.p) (fun x hx => (h1 x hx).1) hi hy (List.replicate k 0) (by rw [List.length_replicate]; have := h1 x hx; omega)
  refine ⟨(h1 x hx).1, (h1 x hx).2, ?_⟩
  rw [List.getD_eq_getElem?_getD, h2]
  rfl
theorem Coll.r' (h : Coll S S' fr L Y now) (hS : StOk S) : S'.r = S.r.map (phiV (posL L Y)) := by
  rw [h.r]
  refine List.map_congr_left (fun v hv => ?_)
  unfold swapV phiV
  by_cases h0 : 0 ≤ v
  · rw [if_pos h0, if_pos h0, (h.put hS (Nat.le_refl _) (root_at hv h0)).2.2]
  · rw [if_neg h0, if_neg h0]
theorem Coll.l' (h : Coll S S' fr L Y now) (hS : StOk S) : S'.l = S.l.map (phiS (posL L Y)) := by
  rw [h.l]
  refine List.map_congr_left (fun s hs => ?_)
  unfold swapS phiS
  by_cases h0 : s.opn = true
  · rw [if_pos h0, if_pos h0, (h.put hS (cleaned_of h.is).len256 (open_at hs h0)).2.2]
  · rw [if_neg h0, if_neg h0]
theorem Coll.pos (h : Coll S S' fr L Y now) {x : Int} (hx : x ∈ S.begs) : 0 ≤ posL L Y x ∧ posL L Y x < S.a.length ∧ posL L Y x ∈ begsL (spotsL S'.a) := by
  have hC := cleaned_of h.is
  have h1 : posL L Y x ∈ now := by rw [h.is.now]; exact List.mem_map.2 ⟨x, hx, rfl⟩
  have h2 := hC.alive _ (List.mem_append_left _ h1)
  have h3 := begs_lt hC.laid.check h2
  have h4 := hC.laid.len
  exact ⟨h3.1, by omega, h2⟩
theorem Coll.pinned (h : Coll S S' fr L Y now) {y : Rn} (hy : y ∈ S.p) : posL L Y y.loc = y.loc := (cleaned_of h.is).pin _ (List.mem_map.2 ⟨y, hy, rfl⟩)
theorem filter_phi {φ : Int → Int} : ∀ {r : List Int}, (∀ v ∈ r, 0 ≤ v → 0 ≤ φ v) → (r.map (phiV φ)).filter (fun v => decide (0 ≤ v)) = (r.filter (fun v => decide (0 ≤ v))).map φ
  | [], _ => rfl
  | v :: r, h => by
    have ih := filter_phi (φ := φ) (r := r) (fun v hv => h v (List.mem_cons_of_mem _ hv))
    by_cases h0 : 0 ≤ v
    · have h1 := h v List.mem_cons_self h0
      rw [List.map_cons, show phiV φ v = φ v from if_pos h0, List.filter_cons_of_pos (by simpa using h1), List.filter_cons_of_pos (by simpa using h0), List.map_cons, ih]
    · rw [List.map_cons, show phiV φ v = v from if_neg h0, List.filter_cons_of_neg (by simpa using h0), List.filter_cons_of_neg (by simpa using h0), ih]
theorem phiS_opn (φ : Int → Int) (s : Slot) : (phiS φ s).opn = s.opn := by
  unfold phiS
  by_cases h : s.opn = true
  · rw [if_pos h]; exact h.symm
  · rw [if_neg h]
theorem open_phi {φ : Int → Int} : ∀ (l : List Slot), openL (l.map (phiS φ)) = (openL l).map φ
  | [] => rfl
  | s :: l => by
    have ih := open_phi (φ := φ) l
    unfold openL at ih ⊢
    by_cases h : s.opn = true
    · rw [List.map_cons, List.filter_cons_of_pos (by rw [phiS_opn]; exact h), List.filter_cons_of_pos h, List.map_cons, List.map_cons, List.map_cons, ih]
      rw [show (phiS φ s).loc = φ s.loc by unfold phiS; rw [if_pos h]]
    · rw [List.map_cons, List.filter_cons_of_neg (by rw [phiS_opn]; exact h), List.filter_cons_of_neg h, ih]
theorem Coll.rooted (h : Coll S S' fr L Y now) (hS : StOk S) : rootedL S' = (rootedL S).map (posL L Y) := by
  unfold rootedL
  rw [h.r' hS, h.l' hS, h.p, List.map_append (f := posL L Y), List.map_append (f := posL L Y), filter_phi (fun v hv h0 => (h.pos (root_at hv h0)).1), open_phi]
  congr 1
  conv => lhs; rw [← List.map_id (pinsL S.p)]
  exact List.map_congr_left (fun x hx => ((cleaned_of h.is).pin x hx).symm)
theorem Coll.begs' (h : Coll S S' fr L Y now) (hS : StOk S) {x : Int} : x ∈ S'.begs ↔ x ∈ now := by
  rw [rooted_begs, h.rooted hS, h.is.now, List.mem_map, List.mem_map]
  simp only [rooted_begs]
theorem slotE_loc {s : Slot} {x : Int} (h : slotE s = 0) (ho : s.opn = true) (hx : 0 ≤ x ∧ x < 256) : slotE ⟨s.gen, true, x⟩ = 0 := by
  obtain ⟨g, o, y⟩ := s
  subst ho
  unfold slotE at h ⊢
  simp only at h ⊢
  split at h
  · cases h
  · rename_i h1
    rw [if_neg (by omega)]
    split at h
    · cases h
    · rename_i h2
      rw [if_neg (by simp at h2 ⊢; omega)]
theorem Coll.ok (h : Coll S S' fr L Y now) (hS : StOk S) : StOk S' := by
  have hC := cleaned_of h.is
  have hlen := hC.laid.len
  have h256 := hC.len256
  refine ⟨hC.laid.check, ?_, ?_, ?_, ?_⟩
  · obtain ⟨e1, e2, e3, e4⟩ := rootE_ok hS.roots
    refine rootE_of (by omega) (by omega) (by rw [h.r, List.length_map]; exact e3) ?_
    intro v hv
    rw [h.r' hS] at hv
    obtain ⟨u, hu, rfl⟩ := List.mem_map.1 hv
    have h1 := e4 u hu
    unfold phiV
    by_cases h0 : 0 ≤ u
    · rw [if_pos h0]
      have := h.pos (root_at hu h0)
      omega
    · rw [if_neg h0]
      omega
  · rw [h.p]; exact hS.pins
  · obtain ⟨e1, e2⟩ := handE_ok.1 hS.hands
    refine handE_ok.2 ⟨by rw [h.l, List.length_map]; exact e1, ?_⟩
    intro s hs
    rw [h.l' hS] at hs
    obtain ⟨u, hu, rfl⟩ := List.mem_map.1 hs
    have h1 := e2 u hu
    unfold phiS
    by_cases h0 : u.opn = true
    · rw [if_pos h0]
      have := h.pos (open_at hu h0)
      exact slotE_loc h1 h0 (by omega)
    · rw [if_neg h0]
      exact h1
  · intro x hx
    have h1 : x ∈ now := (h.begs' hS).1 hx
    exact hC.alive x (List.mem_append_left _ h1)
theorem Coll.unique (h : Coll S S' fr L Y now) (h2 : Coll S S2 fr2 L2 Y2 now2) : S2 = S' ∧ fr2 = fr := by
  have hL : L2 = L := Reached.unique h2.is.reached h.is.reached
  subst hL
  have hY : Y2 = Y := by rw [h2.is.y, h.is.y]
  subst hY
  have hn : now2 = now := by rw [h2.is.now, h.is.now]
  subst hn
  have hb : S2.a = S'.a := by rw [h2.is.b, h.is.b]
  obtain ⟨a, r, p, l⟩ := S'
  obtain ⟨a2, r2, p2, l2⟩ := S2
  have e1 := h.r; have e2 := h2.r; have e3 := h.p; have e4 := h2.p; have e5 := h.l; have e6 := h2.l; have e7 := h.fr; have e8 := h2.fr
  simp only at hb e1 e2 e3 e4 e5 e6 e7 e8
  subst hb e3 e4 e7 e8
  rw [e1, e2, e5, e6]
  exact ⟨rfl, rfl⟩
theorem Coll.again (h : Coll S S' fr L Y now) (hS : StOk S) (h2 : Coll S' S2 fr2 L2 Y2 now2) : S2 = S' ∧ fr2 = fr := by
  have hC := cleaned_of h.is
  have hb : S'.begs = now := by
    have hn : now.Pairwise (fun x y => x < y) := by
      obtain ⟨hK, -⟩ := kept_of h.is.longs
      have hP := hC.plan
      have hYs : Y.Pairwise (· < ·) := by
        rw [h.is.y]
        exact slid_pairwise _ L _ 0 hK (fun x hx => hP.nn2 x (List.mem_of_getElem? hx))
      rw [h.is.now, List.pairwise_map]
      refine List.Pairwise.imp_of_mem ?_ (fromL_strict S.r S.l S.p)
      intro x x' hx hx' hlt
      obtain ⟨j, y, hj, hy, e⟩ := posL_ex hP.nodup hP.len (h.is.reached.roots x (List.mem_append_left _ hx))
      obtain ⟨j', y', hj', hy', e'⟩ := posL_ex hP.nodup hP.len (h.is.reached.roots x' (List.mem_append_left _ hx'))
      rw [e, e']
      obtain ⟨q1, rfl⟩ := List.getElem?_eq_some_iff.1 hj
      obtain ⟨q2, rfl⟩ := List.getElem?_eq_some_iff.1 hj'
      obtain ⟨q3, rfl⟩ := List.getElem?_eq_some_iff.1 hy
      obtain ⟨q4, rfl⟩ := List.getElem?_eq_some_iff.1 hy'
      refine List.pairwise_iff_getElem.1 hYs j j' q3 q4 ?_
      rcases Nat.lt_trichotomy j j' with g | g | g
      · exact g
      · subst g; omega
      · have := List.pairwise_iff_getElem.1 h.is.reached.sorted j' j q2 q1 g
        omega
    refine sorted_unique ((fromL_strict _ _ _).imp (fun h => by omega)) (fromL_nodup _ _ _) (hn.imp (fun h => by omega)) ?_ (fun x => h.begs' hS)
    rw [List.nodup_iff_pairwise_ne]
    exact hn.imp (fun h => by omega)
  have hI := h2.is
  rw [hb, h.p] at hI
  obtain ⟨-, hag⟩ := hC.again h.is
  obtain ⟨e1, e2, e3, e4⟩ := hag _ _ _ _ hI
  have hS' := h.ok hS
  have hid : ∀ x ∈ S'.begs, posL L2 Y2 x = x := by
    intro x hx
    have h1 := hI.reached.roots x (List.mem_append_left _ (by rw [← hb]; exact hx))
    obtain ⟨j, y, hj, hy, e⟩ := posL_ex (planned_of hI.longs).nodup (show Y2.length = L2.length by rw [e1, e2]) h1
    rw [e1] at hj
    rw [e2] at hy
    rw [e]
    exact Option.some.inj (hy.symm.trans hj)
  obtain ⟨a2, r2, p2, l2⟩ := S2
  obtain ⟨a1, r1, p1, l1⟩ := S'
  have g1 := h2.r' hS'
  have g2 := h2.l' hS'
  have g3 := h2.p
  have g4 := h2.fr
  have g5 := h.fr
  simp only at e3 g1 g2 g3 g4 g5
  subst e3 g3
  have f1 : r2 = r1 := by
    rw [g1]
    conv => rhs; rw [← List.map_id r1]
    refine List.map_congr_left (fun v hv => ?_)
    unfold phiV
    by_cases h0 : 0 ≤ v
    · rw [if_pos h0, hid v (root_at hv h0)]; rfl
    · rw [if_neg h0]; rfl
  have f2 : l2 = l1 := by
    rw [g2]
    conv => rhs; rw [← List.map_id l1]
    refine List.map_congr_left (fun s hs => ?_)
    unfold phiS
    by_cases h0 : s.opn = true
    · rw [if_pos h0, hid _ (open_at hs h0)]
      obtain ⟨g, o, y⟩ := s
      simp only at h0
      subst h0
      rfl
    · rw [if_neg h0]; rfl
  subst f1 f2
  exact ⟨rfl, by rw [g4, g5]⟩
theorem Coll.alike (h : Coll S S' fr L Y now) (hS : StOk S) {os os' : List Ob} {fo fo' : List Int} (h1 : FormIs S.a (rootedL S) os fo) (h2 : FormIs S'.a (rootedL S') os' fo') : os = os' ∧ fo = fo' := by
  have hC := cleaned_of h.is
  rw [h.rooted hS] at h2
  exact form_iso hC.laid.iso hC.closed (fun x hx => h.is.reached.roots x (List.mem_append_left _ (rooted_begs.2 hx))) h1 h2
end
end Go.Proofs.YtbmkbnalembbjaaGreatDoor

namespace Go.Proofs.YtbmkbnalembbjaaGreatDoor
open Go.RowKit
def OwnT (w : World) (base : Nat) (e : TypeId) (size : Nat) (ok : Nat → Value → Prop) (v : Value) (n : Nat) (xs : List Value) : Prop :=
  w.ownsRow base e size v n xs ∧ ∀ (g : Nat) (cur : Array Value), v.ownBlock = some g → w.heap[g]? = some (.cells cur e (0, 0)) → ∀ (i : Nat) (u : Value), cur[i]? = some u → ok (i % size) u
def isNum (kd : IntKind) (_ : Nat) (u : Value) : Prop := ∃ x, u = .int kd x ∧ (Lit.int kd x).wf = true
section
variable {w w' : World} {base base' n : Nat} {e : TypeId} {size : Nat} {ok : Nat → Value → Prop} {v : Value} {xs : List Value}
theorem OwnT.own (h : OwnT w base e size ok v n xs) : w.ownsRow base e size v n xs := h.1
theorem OwnT.nil (w : World) (base : Nat) (e : TypeId) (size : Nat) (ok : Nat → Value → Prop) : OwnT w base e size ok (.slice none 0 0) 0 [] :=
  ⟨World.ownsRow_nil _ _ _ _, fun g cur h => by simp [Value.ownBlock] at h⟩
theorem OwnT.mono (h : OwnT w base' e size ok v n xs) (hb : base ≤ base') : OwnT w base e size ok v n xs := ⟨own_mono h.1 hb, h.2⟩
theorem OwnT.below (h : OwnT w base e size ok v n xs) (hb : Below w.heap.size w w') : OwnT w' base e size ok v n xs :=
  ⟨own_below h.1 hb, fun g cur hg hc => h.2 g cur hg (by rw [← hb.block g (h.1.lt g hg).2]; exact hc)⟩
theorem OwnT.kept {row : Option Nat} (h : OwnT w base e size ok v n xs) (hg : w.grownBy w' row) (hne : v.ownBlock = none ∨ v.ownBlock ≠ row) : OwnT w' base e size ok v n xs :=
  ⟨h.1.kept hg hne, fun g cur hv hc => h.2 g cur hv (by
    rw [← hg.block g (h.1.lt g hv).2 (fun e => by
      rcases hne with h0 | h0
      · rw [h0] at hv; cases hv
      · exact h0 (by rw [hv, e]))]
    exact hc)⟩
theorem OwnT.alloc (h : OwnT w base e size ok v n xs) (o : Obj) : OwnT (w.alloc o) base e size ok v n xs :=
  h.kept (World.grownBy_alloc w o none) (by cases hv : v.ownBlock <;> simp)
theorem OwnT.drewN (h : OwnT w base e size ok v n xs) (q : Nat) : OwnT (w.drewN q) base e size ok v n xs := h
theorem OwnT.open {g c : Nat} (h : OwnT w base e size ok (.slice (some ⟨g, 0, none⟩) n c) n xs) :
    ∃ cur : List Value, base ≤ g ∧ w.heap[g]? = some (.cells cur.toArray e (0, 0)) ∧ n ≤ c ∧ c ≤ maxLen ∧ cur.length = c * size ∧ cur.take (n * size) = xs ∧ ∀ (i : Nat) (u : Value), cur[i]? = some u → ok (i % size) u := by
  obtain ⟨cur, h1, h2, h3, h4, h5, h6⟩ := own_open h.1
  exact ⟨cur, h1, h2, h3, h4, h5, h6, fun i u hu => h.2 g cur.toArray rfl h2 i u (by simpa using hu)⟩
theorem OwnT.close {g c : Nat} (cur : List Value) (h1 : base ≤ g) (h2 : w.heap[g]? = some (.cells cur.toArray e (0, 0))) (h3 : n ≤ c) (h4 : c ≤ maxLen) (h5 : cur.length = c * size) (h6 : ∀ (i : Nat) (u : Value), cur[i]? = some u → ok (i % size) u) :
    OwnT w base e size ok (.slice (some ⟨g, 0, none⟩) n c) n (cur.take (n * size)) :=
  ⟨own_close cur h1 h2 h3 h4 h5, fun g' cur' hg hc i u hu => by
    simp only [Value.ownBlock, Option.some.injEq] at hg
    subst hg
    rw [h2] at hc
    simp only [Option.some.injEq, Obj.cells.injEq, and_true] at hc
    subst hc
    exact h6 i u (by simpa using hu)⟩
theorem OwnT.elems (h : OwnT w base e size ok v n xs) : ∀ (i : Nat) (u : Value), xs[i]? = some u → ok (i % size) u := by
  intro i u hu
  rcases h.1.2 with ⟨rfl, rfl⟩ | ⟨g, cap, cur, rfl, _, hg, _, _, _, ht⟩
  · have := h.1.1
    simp only [Nat.zero_mul] at this
    rw [List.eq_nil_of_length_eq_zero this] at hu
    simp at hu
  · refine h.2 g cur rfl hg i u ?_
    rw [← ht, List.getElem?_take] at hu
    split at hu
    · simpa using hu
    · cases hu
end
theorem mod_zeros {ok : Nat → Value → Prop} {z : Array Value} (hz : ∀ i u, z[i]? = some u → ok i u) (n i : Nat) (u : Value) (h : (Builtin.zeroCells z n)[i]? = some u) : ok (i % z.size) u := by
  have hlt : i < n * z.size := by
    have := (Array.getElem?_eq_some_iff.1 h).1
    simpa [Builtin.zeroCells] using this
  have hs : 0 < z.size := Nat.pos_of_ne_zero (fun h0 => by rw [h0, Nat.mul_zero] at hlt; omega)
  have hm : i % z.size < z.size := Nat.mod_lt _ hs
  simp only [Builtin.zeroCells, Array.getElem?_map, Array.getElem?_range, hlt, if_true, Option.map_some, Option.some.injEq] at h
  rw [getElem!_pos z (i % z.size) hm] at h
  exact hz _ _ (by rw [Array.getElem?_eq_getElem hm, h])
section
variable {P : Program} (w : World)
theorem run_append_T (base : Nat) (t ty e : TypeId) (i : TypeInfo) (z : Value) (size bytes : Nat) (ht : P.underlying t = some (.slice e)) (hi : P.info? e = some i) (hz : i.zero = some z)
    (hsize : i.size = size) (hby : i.bytes = bytes) (hzs : z.cells.size = size) (hsz : 0 < size) {ok : Nat → Value → Prop} (hzo : ∀ j u, z.cells[j]? = some u → ok j u)
    (v : Value) (n : Nat) (xs : List Value) (hown : OwnT w base e size ok v n xs)
    (B : Nat) (A : Option Addr) (m c : Nat) (news : List Value) (hr : Reads w B size A m news) (h1 : ∀ u ∈ news, u.oneCell' = true) (hno : ∀ j u, news[j]? = some u → ok (j % size) u)
    (h63 : n + m ≤ maxLen) (hbytes : (n + m) * bytes ≤ 140737488355328) (hbase : base ≤ w.heap.size) :
    ∃ v' w', (Builtin.append_ #[t, t] ty #[v, .slice A m c]).run P w = .ok v' w' ∧ OwnT w' base e size ok v' (n + m) (xs ++ news) ∧ w.grownBy w' v.ownBlock ∧
      (v'.ownBlock = v.ownBlock ∨ v'.ownBlock = some w.heap.size) ∧ (v' = .slice none 0 0 ↔ v = .slice none 0 0 ∧ m = 0) := by
  subst hsize
  subst hby
  rcases A with _ | ad
  · have hm : m = 0 := by
      rcases Nat.eq_zero_or_pos m with h0 | h0
      · exact h0
      · obtain ⟨ad, h, _⟩ := hr.2 h0
        cases h
    subst hm
    have hn : news = [] := List.eq_nil_of_length_eq_zero (by simpa using hr.1)
    subst hn
    exact ⟨v, w, run_append_of_nil w base t ty e i i.size ht hi v n xs hown.1 c, by simpa using hown, World.grownBy.refl w _, .inl rfl, by simp⟩
  · have hnews : ∀ j u, news[j]? = some u → w.cell? (ad.add j) = some u := by
      intro j u hu
      rcases Nat.eq_zero_or_pos m with h0 | h0
      · subst h0
        have hn : news = [] := List.eq_nil_of_length_eq_zero (by simpa using hr.1)
        subst hn
        simp at hu
      · obtain ⟨ad', h, _, hc⟩ := hr.2 h0
        injection h with h
        subst h
        exact hc j u hu
    have hl := hr.1
    have hsmall : n + m ≤ 9223372036854775807 := by simp only [maxLen] at h63; omega
    have hlen : (xs ++ news).length = (n + m) * i.size := by rw [List.length_append, hown.1.1, hl, Nat.add_mul]
    have hel := hown.elems
    have hboth : ∀ (j : Nat) (u : Value), (xs ++ news)[j]? = some u → ok (j % i.size) u := by
      intro j u hu
      rcases Nat.lt_or_ge j xs.length with hlt | hge
      · rw [List.getElem?_append_left hlt] at hu
        exact hel j u hu
      · rw [List.getElem?_append_right hge] at hu
        have h2 := hno _ _ hu
        have hx := hown.1.1
        have h3 : j % i.size = (j - xs.length) % i.size := by
          rw [hx]
          obtain ⟨d, hd⟩ : ∃ d, j = d + n * i.size := ⟨j - n * i.size, by omega⟩
          rw [hd, Nat.add_mul_mod_self_right]
          congr 1
          omega
        rw [h3]
        exact h2
    have grown : ∀ (old : Nat), old < n + m → ∀ (row : Option Nat),
        OwnT (w.drew.alloc (.cells (xs.toArray ++ news.toArray ++ Builtin.zeroCells z.cells (grownCap w (n + m) old e - (n + m))) e)) base e i.size ok
          (.slice (some ⟨w.heap.size, 0, none⟩) (n + m) (grownCap w (n + m) old e)) (n + m) (xs ++ news) ∧
        w.grownBy (w.drew.alloc (.cells (xs.toArray ++ news.toArray ++ Builtin.zeroCells z.cells (grownCap w (n + m) old e - (n + m))) e)) row := by
      intro old ho row
      have hge := grownCap_ge w (n + m) old e
      have hcm : grownCap w (n + m) old e ≤ maxLen := grownCap_le_maxLen w (n + m) old e h63
      have hnew := heap_alloc_new w.drew (.cells (xs.toArray ++ news.toArray ++ Builtin.zeroCells z.cells (grownCap w (n + m) old e - (n + m))) e)
      have hcs : (xs.toArray ++ news.toArray ++ Builtin.zeroCells z.cells (grownCap w (n + m) old e - (n + m))).size = grownCap w (n + m) old e * i.size := by
        simp only [Array.size_append, List.size_toArray, size_zeroCells, hzs, hown.1.1, hl, ← Nat.add_mul]
        congr 1
        omega
      refine ⟨⟨⟨hlen, .inr ⟨w.heap.size, _, _, rfl, hbase, hnew, hge, hcm, hcs, ?_⟩⟩, ?_⟩, ⟨rfl, rfl, rfl, by simp, fun k hk _ => Below.heap_alloc w.drew _ k hk⟩⟩
      · simp only [Array.toList_append, List.append_assoc]
        rw [← List.append_assoc, ← hlen]
        exact List.take_left
      · intro g cur hg hc j u hu
        simp only [Value.ownBlock, Option.some.injEq] at hg
        subst hg
        have hnew' := hnew
        rw [show (w.drew).heap.size = w.heap.size from rfl] at hnew'
        rw [hnew'] at hc
        simp only [Option.some.injEq, Obj.cells.injEq, and_true] at hc
        subst hc
        generalize hZ : Builtin.zeroCells z.cells (grownCap w (n + m) old e - (n + m)) = Z at hu
        have hu2 : ((xs ++ news) ++ Z.toList)[j]? = some u := by
          have e1 : xs.toArray ++ news.toArray ++ Z = ((xs ++ news) ++ Z.toList).toArray := by apply Array.toList_inj.1; simp
          rw [e1, List.getElem?_toArray] at hu
          exact hu
        rcases Nat.lt_or_ge j (xs ++ news).length with hlt | hge2
        · rw [List.getElem?_append_left hlt] at hu2
          exact hboth j u hu2
        · rw [List.getElem?_append_right hge2, Array.getElem?_toList] at hu2
          have h2 := mod_zeros hzo (grownCap w (n + m) old e - (n + m)) _ u (by rw [hZ]; exact hu2)
          rw [hzs, hlen] at h2
          rw [hlen] at hge2
          obtain ⟨d, hd⟩ : ∃ d, j = d + (n + m) * i.size := ⟨j - (n + m) * i.size, by omega⟩
          rw [hd, Nat.add_mul_mod_self_right]
          rw [hd, Nat.add_sub_cancel] at h2
          exact h2
    rcases hown.1.2 with ⟨rfl, rfl⟩ | ⟨g, cap, cur, rfl, hbg, hg, hnc, hcm, hcs, htake⟩
    · have hx : xs = [] := List.eq_nil_of_length_eq_zero (by simpa using hown.1.1)
      subst hx
      by_cases hm : m = 0
      · subst hm
        have hn : news = [] := List.eq_nil_of_length_eq_zero (by simpa using hl)
        subst hn
        refine ⟨.slice none 0 0, w, ?_, OwnT.nil w base e i.size ok, ⟨rfl, rfl, rfl, Nat.le_refl _, fun _ _ _ => rfl⟩, .inl rfl, by simp⟩
        simp [Builtin.append_, run_underlying ht, sizeOf, typeInfo, hi, Builtin.lenOf, Builtin.firstCells, loadCells, loadCellsFrom]
      · have hr := run_append_nil (P := P) w t ty e i z ht hi hz ad m c news hl hnews (by omega) (by omega) (by have hb := hbytes; simp only [Nat.zero_add] at hb; omega)
        have hgr := grown 0 (by omega) (Value.ownBlock (.slice none 0 0))
        simp only [Nat.zero_add, List.nil_append, Array.empty_append] at hgr ⊢
        exact ⟨_, _, hr, hgr.1, hgr.2, .inr rfl, by simp [hm]⟩
    · by_cases hroom : n + m ≤ cap
      · have hfit : n * i.size + news.length ≤ cur.size := by rw [hl, hcs, ← Nat.add_mul]; exact Nat.mul_le_mul_right _ hroom
        have hr := run_append_room (P := P) w t ty e i ht hi g n cap cur hg ad m c news hl hnews h1 hroom hfit
        have hset := setRow_heap w g cur (cur.toList.take (n * i.size) ++ news ++ cur.toList.drop (n * i.size + news.length)).toArray e _ hg
        refine ⟨_, _, hr, ⟨⟨hlen, .inr ⟨g, cap, _, rfl, hbg, hset, hroom, hcm, ?_, ?_⟩⟩, ?_⟩, ⟨rfl, rfl, rfl, by simp, fun k _ hk => setRow_other w g k _ (fun e => hk (by simp [Value.ownBlock, e]))⟩, .inl rfl, by simp⟩
        · simp only [List.size_toArray, List.length_append, List.length_take, List.length_drop, Array.length_toList]
          omega
        · rw [htake, ← hlen]
          exact List.take_left
        · intro g' cur' hg' hc' j u hu
          simp only [Value.ownBlock, Option.some.injEq] at hg'
          subst hg'
          rw [hset] at hc'
          simp only [Option.some.injEq, Obj.cells.injEq, and_true] at hc'
          subst hc'
          rw [htake, List.getElem?_toArray] at hu
          rcases Nat.lt_or_ge j (xs ++ news).length with hlt | hge2
          · rw [List.getElem?_append_left hlt] at hu
            exact hboth j u hu
          · rw [List.getElem?_append_right hge2, List.getElem?_drop] at hu
            refine hown.2 g cur rfl hg j u ?_
            have hx := hown.1.1
            rw [show n * i.size + news.length + (j - (xs ++ news).length) = j by rw [List.length_append] at hge2 ⊢; omega] at hu
            simpa using hu
      · have holds : ∀ j u, xs[j]? = some u → w.cell? ((⟨g, 0, none⟩ : Addr).add j) = some u := hown.1.cells (g := g) rfl
        have hr := run_append_grow (P := P) w t ty e i z ht hi hz ⟨g, 0, none⟩ n cap xs hown.1.1 holds ad m c news hl hnews (by omega) (by omega) (growslice_fits (by omega) hbytes)
        have hgr := grown cap (by omega) (Value.ownBlock (.slice (some ⟨g, 0, none⟩) n cap))
        exact ⟨_, _, hr, hgr.1, hgr.2, .inr rfl, by simp⟩
theorem wp_append_T {o : Oper} {a : Act} {K : Act → World → Prop} {Q : Exit → Act → World → Prop} (s x : Operand) (t : TypeId)
    (ho : o.op = .call { callee := .builtin .append, args := #[s, x], argTypes := #[t, t] })
    (base : Nat) (e : TypeId) (i : TypeInfo) (z : Value) (size bytes : Nat) (ht : P.underlying t = some (.slice e)) (hi : P.info? e = some i) (hz : i.zero = some z)
    (hsize : i.size = size) (hby : i.bytes = bytes) (hzs : z.cells.size = size) (hsz : 0 < size) {ok : Nat → Value → Prop} (hzo : ∀ j u, z.cells[j]? = some u → ok j u)
    (v : Value) (n : Nat) (xs : List Value) (hs : a.eval s = v) (hown : OwnT w base e size ok v n xs)
    (B : Nat) (A : Option Addr) (m c : Nat) (news : List Value) (hx : a.eval x = .slice A m c) (hr : Reads w B size A m news) (h1 : ∀ u ∈ news, u.oneCell' = true) (hno : ∀ j u, news[j]? = some u → ok (j % size) u)
    (h63 : n + m ≤ maxLen) (hbytes : (n + m) * bytes ≤ 140737488355328) (hbase : base ≤ w.heap.size)
    (h : ∀ v' w', OwnT w' base e size ok v' (n + m) (xs ++ news) → w.grownBy w' v.ownBlock → (v'.ownBlock = v.ownBlock ∨ v'.ownBlock = some w.heap.size) → (v' = .slice none 0 0 ↔ v = .slice none 0 0 ∧ m = 0) → K (a.put o.dst v') w') : o.wp P a w K Q := by
  obtain ⟨v', w', hrun, h2, h3, h4, h5⟩ := run_append_T (P := P) w base t o.type e i z size bytes ht hi hz hsize hby hzs hsz hzo v n xs hown B A m c news hr h1 hno h63 hbytes hbase
  unfold Oper.wp execOp
  simp only [ho, resolve, invoke, builtin, Sem.run_bind, Sem.run_pure, Result.andThen_ok, List.map_toArray, List.map_cons, List.map_nil, hs, hx, hrun]
  exact h v' w' h2 h3 h4 h5
theorem wpList_append_T {ops : Array Oper} {rest : List Oper} {o : Oper} {a : Act} {Q : Exit → Act → World → Prop} (hgd : o.guard = none) (s x : Operand) (t : TypeId)
    (ho : o.op = .call { callee := .builtin .append, args := #[s, x], argTypes := #[t, t] })
    (base : Nat) (e : TypeId) (i : TypeInfo) (z : Value) (size bytes : Nat) (ht : P.underlying t = some (.slice e)) (hi : P.info? e = some i) (hz : i.zero = some z)
    (hsize : i.size = size) (hby : i.bytes = bytes) (hzs : z.cells.size = size) (hsz : 0 < size) {ok : Nat → Value → Prop} (hzo : ∀ j u, z.cells[j]? = some u → ok j u)
    (v : Value) (n : Nat) (xs : List Value) (hs : a.eval s = v) (hown : OwnT w base e size ok v n xs)
    (B : Nat) (A : Option Addr) (m c : Nat) (news : List Value) (hx : a.eval x = .slice A m c) (hr : Reads w B size A m news) (h1 : ∀ u ∈ news, u.oneCell' = true) (hno : ∀ j u, news[j]? = some u → ok (j % size) u)
    (h63 : n + m ≤ maxLen) (hbytes : (n + m) * bytes ≤ 140737488355328) (hbase : base ≤ w.heap.size)
    (h : ∀ v' w', OwnT w' base e size ok v' (n + m) (xs ++ news) → w.grownBy w' v.ownBlock → (v'.ownBlock = v.ownBlock ∨ v'.ownBlock = some w.heap.size) → (v' = .slice none 0 0 ↔ v = .slice none 0 0 ∧ m = 0) → wpList P ops Q rest (a.put o.dst v') w') :
    wpList P ops Q (o :: rest) a w :=
  wpList_plain hgd fun _ hK => wp_append_T w s x t ho base e i z size bytes ht hi hz hsize hby hzs hsz hzo v n xs hs hown B A m c news hx hr h1 hno h63 hbytes hbase fun v' w' h2 h3 h4 h5 => hK _ _ (h v' w' h2 h3 h4 h5)
end
end Go.Proofs.YtbmkbnalembbjaaGreatDoor

namespace Go.Proofs.YtbmkbnalembbjaaGreatDoor
open Go.RowKit
theorem OwnT.apart {w : World} {base : Nat} {e : TypeId} {size : Nat} {ok : Nat → Value → Prop} {v : Value} {n : Nat} {xs : List Value} (h : OwnT w base e size ok v n xs) {p : Addr} (hp : v.ownBlock ≠ some p.block) (u : Value) : OwnT (w.setCell p u) base e size ok v n xs :=
  ⟨own_apart h.1 hp u, fun g cur hg hc => h.2 g cur hg (by rw [← hc]; exact (Below.heap_setCell w p u g (fun e => hp (by rw [hg, e]))).symm)⟩
theorem own_ptr {w : World} {base n c size : Nat} {e : TypeId} {A : Option Addr} {xs : List Value} (h : w.ownsRow base e size (.slice A n c) n xs) (hn : 0 < n) : ∃ q, A = some ⟨q, 0, none⟩ ∧ base ≤ q := by
  rcases h.2 with ⟨h1, h2⟩ | ⟨q, cap, cur, h1, h2, -⟩
  · omega
  · injection h1 with h1
    exact ⟨q, h1, h2⟩
theorem splice_ok {p : Value → Prop} {Z : List Value} {I : Nat} {vs : List Value} (h1 : ∀ u ∈ Z, p u) (h2 : ∀ u ∈ vs, p u) : ∀ u ∈ splice Z I vs, p u := by
  intro u hu
  unfold splice at hu
  rcases List.mem_append.1 hu with hu | hu
  · exact h1 u (List.mem_of_mem_take hu)
  · rcases List.mem_append.1 hu with hu | hu
    · exact h2 u hu
    · exact h1 u (List.mem_of_mem_drop hu)
end Go.Proofs.YtbmkbnalembbjaaGreatDoor

namespace Go.Proofs.YtbmkbnalembbjaaGreatDoor
open Go.RowKit
def isN (_ : Nat) (u : Value) : Prop := ∃ x, u = .int .i64 x
theorem isN_zero : ∀ j u, (Value.int .i64 0).cells[j]? = some u → isN j u := by
  intro j u hu
  have hc : (Value.int .i64 0).cells = #[.int .i64 0] := rfl
  rw [hc] at hu
  rcases j with _ | j
  · exact ⟨0, by simpa using hu.symm⟩
  · simp at hu
theorem isN_one (x : Int) : ∀ j u, [Value.int .i64 x][j]? = some u → isN (j % 1) u := by
  intro j u hu
  rcases j with _ | j
  · exact ⟨x, by simpa using hu.symm⟩
  · simp at hu
section
variable {w w' : World} {base base' n : Nat} {e : TypeId} {size : Nat} {ok : Nat → Value → Prop} {v : Value} {xs : List Value}
theorem OwnT.lt (h : OwnT w base e size ok v n xs) : ∀ g, v.ownBlock = some g → base ≤ g ∧ g < w.heap.size := h.1.lt
theorem own_sliceT (h : OwnT w base e size ok v n xs) : ∃ A c, v = .slice A n c := own_slice h.1
theorem own_belowT (h : OwnT w base e size ok v n xs) (hb : Below w.heap.size w w') : OwnT w' base e size ok v n xs := h.below hb
theorem own_monoT (h : OwnT w base' e size ok v n xs) (hb : base ≤ base') : OwnT w base e size ok v n xs := h.mono hb
theorem own_apartT (h : OwnT w base e size ok v n xs) {p : Addr} (hp : v.ownBlock ≠ some p.block) (u : Value) : OwnT (w.setCell p u) base e size ok v n xs := h.apart hp u
theorem own_offT {b : Nat} (h : OwnT w base e size ok v n xs) (hb : b < base) : v.ownBlock ≠ some b := own_off h.1 hb
theorem own_blk_neT {g : Nat} {t : TypeId} {cs : Array Value} (h : OwnT w base e size ok v n xs) (hg : Blk w g t cs) (hne : e ≠ t) : v.ownBlock ≠ some g := own_blk_ne h.1 hg hne
theorem own_grownT {row : Option Nat} (h : OwnT w base e size ok v n xs) (hg : w.grownBy w' row) (hne : ∀ g, v.ownBlock = some g → row ≠ some g) : OwnT w' base e size ok v n xs :=
  h.kept hg (by
    cases hv : v.ownBlock with
    | none => exact .inl rfl
    | some g => exact .inr (fun e => hne g hv e.symm))
theorem OwnT.drew (h : OwnT w base e size ok v n xs) : OwnT w.drew base e size ok v n xs := h.drewN 1
theorem reads_ofT {A : Option Addr} {c : Nat} (h : OwnT w base e size ok (.slice A n c) n xs) : Reads w w.heap.size size A n xs := Reads.of_own h.1
end
end Go.Proofs.YtbmkbnalembbjaaGreatDoor
