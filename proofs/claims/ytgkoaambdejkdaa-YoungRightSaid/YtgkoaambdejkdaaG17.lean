/-
  Texts joined: YoungPut YoungCopied YoungWrite LawTrios.
-/
import Derived.Deep.RegionHeld3
import Derived.StillTailTactics
import Derived.OpenShut
import Derived.Laws.IdiomArrays
import Derived.Test.YtgkoaambdejkdaaG4
import Derived.Test.YtgkoaambdejkdaaG9
import Derived.Test.YtgkoaambdejkdaaG13
import Derived.Test.YtgkoaambdejkdaaG14
namespace Go.Proofs.Ytgkoaambdejkdaa
open Go.RowKit
set_option maxHeartbeats 400000 in
theorem youngPut_any (base : Nat) (A : Option Addr) (n c : Nat) (l : List Int) (x : Int) (w : World) (hown : OwnT w base 3 1 (isNum .i64) (.slice A n c) n (l.map (.int .i64))) (hbase : base ≤ w.heap.size) (hn : n ≤ 1000) (hs : l.Pairwise (fun a b => a < b)) (hx : (Lit.int .i64 x).wf = true) :
    Calls Try.prog 71 #[.slice A n c, .int .i64 x] w fun e w' => ∃ A' c', e = .returned (.slice A' (putL l x).length c') ∧ OwnT w' base 3 1 (isNum .i64) (.slice A' (putL l x).length c') (putL l x).length ((putL l x).map (.int .i64)) ∧ Below base w w' ∧ w.grownBy w' (Value.slice A n c).ownBlock ∧
      ∀ k, (Value.slice A' (putL l x).length c').ownBlock = some k → (Value.slice A n c).ownBlock = some k ∨ w.heap.size ≤ k := by
  have hll : l.length = n := by have := hown.1.1; simpa using this
  have H := Lib.hid (search_any base A n c l x w hown.1 hn hs)
  have HO := Lib.hid hown
  by_cases hm : x ∈ l
  · rw [decide_eq_true hm] at H
    have hp : putL l x = l := by unfold putL; rw [if_pos hm]
    rw [hp, hll]
    clear hm hp hown hll
    generalize cntL l x = k at *
    go_enter Try.func71, Try.ntmps71
    go_wp2_with fail
    refine H.out.mono ?_
    rintro e w1 ⟨rfl, q, rfl⟩
    go_wp2
    go_ret
    exact ⟨A, c, rfl, HO.out.drewN q, below_drewN (Below.refl _ _) q, ⟨rfl, rfl, rfl, Nat.le_refl _, fun _ _ _ => rfl⟩, fun k hk => .inl hk⟩
  · rw [decide_eq_false hm] at H
    have hp : putL l x = l.take (cntL l x) ++ x :: l.drop (cntL l x) := by unfold putL; rw [if_neg hm]; rfl
    have hk := cntL_le l x
    have hpl : (putL l x).length = n + 1 := by rw [putL, if_neg hm, insL_length, hll]
    rw [hpl, hp]
    rw [hll] at hk
    clear hm hp hpl hown hll
    generalize cntL l x = k at *
    go_enter Try.func71, Try.ntmps71
    go_wp2_with fail
    refine H.out.mono ?_
    rintro e w1 ⟨rfl, q, rfl⟩
    have HI := Lib.hid (insertInt_any base A n c k l w.heap.size x ((w.drewN q).alloc (.cells #[.int .i64 x] 3)) ((HO.out.drewN q).alloc _) (by simp; omega) hk hn (Blk.new (w.drewN q) 3 #[.int .i64 x]) hx (fun h => by have := (HO.out.1.lt _ h).2; omega))
    have hb1 : Below base w ((w.drewN q).alloc (.cells #[.int .i64 x] 3)) := (below_drewN (Below.refl base w) q).alloc hbase _
    go_wp2_with fail
    refine HI.out.mono ?_
    rintro e w2 ⟨A', c', rfl, hown2, hb2, hg2, hbl⟩
    have HG2 := Lib.hid hg2
    have HBl := Lib.hid hbl
    clear hg2 hbl
    go_wp2
    go_ret
    refine ⟨A', c', rfl, hown2, hb1.trans hb2, (show w.grownBy (w.drewN q) _ from ⟨rfl, rfl, rfl, Nat.le_refl _, fun _ _ _ => rfl⟩).trans ((World.grownBy_alloc (w.drewN q) _ _).trans HG2.out), fun k hk => ?_⟩
    rcases HBl.out with h | h
    · rw [h] at hk; exact .inl hk
    · rw [h] at hk; injection hk with hk; right; rw [← hk]; simp
end Go.Proofs.Ytgkoaambdejkdaa

namespace Go.Proofs.Ytgkoaambdejkdaa
open Go.RowKit
set_option maxRecDepth 100000 in
set_option maxHeartbeats 4000000 in
theorem youngCopied_any (A : Option Addr) (n c : Nat) (G : Option Addr) (gn gc : Nat) (K : Option Addr) (kn kc : Nat) (a g b : List Int) (w : World)
    (hr : Reads w w.heap.size 1 A n (a.map (.int .u64))) (ha : ∀ x ∈ a, (Lit.int .u64 x).wf = true) (hg : Reads w w.heap.size 1 G gn (g.map (.int .i64))) (hgx : ∀ x ∈ g, (Lit.int .i64 x).wf = true) (hk : Reads w w.heap.size 1 K kn (b.map (.int .i64))) (hkx : ∀ x ∈ b, (Lit.int .i64 x).wf = true)
    (h1 : n ≤ 1000000) (h2 : gn ≤ 1000000) (h3 : kn ≤ 1000000) :
    Calls Try.prog 70 #[.agg #[.slice A n c, .slice G gn gc, .slice K kn kc]] w fun e w' => Below w.heap.size w w' ∧ ∃ (A1 : Option Addr) (c1 : Nat) (A2 : Option Addr) (c2 : Nat) (A3 : Option Addr) (c3 : Nat),
      e = .returned (.agg #[.slice A1 n c1, .slice A2 gn c2, .slice A3 kn c3]) ∧ TriO w' w.heap.size A1 n c1 A2 gn c2 A3 kn c3 a g b := by
  have C1 := Lib.hid (fun W r hB => clone_u64T A n c w.heap.size (a.map (.int .u64)) W r hB (fun u hu => by obtain ⟨x, _, rfl⟩ := List.mem_map.1 hu; rfl) (nums_num ha 1) (by omega))
  have C2 := Lib.hid (fun W r hB => clone_intT G gn gc w.heap.size (g.map (.int .i64)) W r hB (ints_one _) (nums_num hgx 1) (by omega))
  have C3 := Lib.hid (fun W r hB => clone_intT K kn kc w.heap.size (b.map (.int .i64)) W r hB (ints_one _) (nums_num hkx 1) (by omega))
  have hb0 := below_new w (.cells #[.slice A n c, .slice G gn gc, .slice K kn kc] 52)
  have hb := hb0.alloc hb0.size (.cells #[.slice none 0 0, .slice none 0 0, .slice none 0 0] 52)
  have DS := (Blk.new w 52 #[.slice A n c, .slice G gn gc, .slice K kn kc]).alloc (.cells #[.slice none 0 0, .slice none 0 0, .slice none 0 0] 52)
  have DR := Blk.new (w.alloc (.cells #[.slice A n c, .slice G gn gc, .slice K kn kc] 52)) 52 #[.slice none 0 0, .slice none 0 0, .slice none 0 0]
  rw [World.size_alloc] at DR
  clear hb0
  go_enter Try.func70, Try.ntmps70
  go_upto_region 1 with fail
  have hb := hb.drew
  have DS := DS.drew
  have DR := DR.drew
  obtain ⟨s0, s1, s2⟩ := DS.three
  obtain ⟨r0, r1, r2⟩ := DR.three
  have f0 := DR.frozen 0
  have f1 := DR.frozen 1
  have f2 := DR.frozen 2
  go_region_held3 (fun w' => w'.cell? ⟨w.heap.size, 0, none⟩ = some (.slice A n c) ∧ w'.cell? ⟨w.heap.size, 1, none⟩ = some (.slice G gn gc) ∧ w'.cell? ⟨w.heap.size, 2, none⟩ = some (.slice K kn kc)) (go_keep)
    (first
      | (go_at_call 31; (with_reducible refine (C1.out _ (hr.below hb) hb.size).mono ?_); rintro e wz ⟨A1, c1, rfl, oz, hbz⟩; have DS := DS.below hbz DS.lt; have DR := DR.below hbz DR.lt; obtain ⟨s0, s1, s2⟩ := DS.three; obtain ⟨r0, r1, r2⟩ := DR.three; have f0 := DR.frozen 0; have f1 := DR.frozen 1; have f2 := DR.frozen 2; (try have o1 := OwnT.below o1 hbz); (try have o2 := OwnT.below o2 hbz); (try have o3 := OwnT.below o3 hbz); have o1 := OwnT.mono oz hb.size; clear oz; have hb := hb.trans (hbz.mono hb.size))
      | (go_at_call 32; (with_reducible refine (C2.out _ (hg.below hb) hb.size).mono ?_); rintro e wz ⟨A2, c2, rfl, oz, hbz⟩; (try have ap := own_apart2 o3 oz); have DS := DS.below hbz DS.lt; have DR := DR.below hbz DR.lt; obtain ⟨s0, s1, s2⟩ := DS.three; obtain ⟨r0, r1, r2⟩ := DR.three; have f0 := DR.frozen 0; have f1 := DR.frozen 1; have f2 := DR.frozen 2; (try have o1 := OwnT.below o1 hbz); (try have o2 := OwnT.below o2 hbz); (try have o3 := OwnT.below o3 hbz); have o2 := OwnT.mono oz hb.size; clear oz; have hb := hb.trans (hbz.mono hb.size))
      | (go_at_call 32; (with_reducible refine (C3.out _ (hk.below hb) hb.size).mono ?_); rintro e wz ⟨A3, c3, rfl, oz, hbz⟩; (try have ap := own_apart2 o2 oz); have DS := DS.below hbz DS.lt; have DR := DR.below hbz DR.lt; obtain ⟨s0, s1, s2⟩ := DS.three; obtain ⟨r0, r1, r2⟩ := DR.three; have f0 := DR.frozen 0; have f1 := DR.frozen 1; have f2 := DR.frozen 2; (try have o1 := OwnT.below o1 hbz); (try have o2 := OwnT.below o2 hbz); (try have o3 := OwnT.below o3 hbz); have o3 := OwnT.mono oz hb.size; clear oz; have hb := hb.trans (hbz.mono hb.size)))
  all_goals
    have HO := Lib.hid ((TriO.mk o1 o2 o3 (by first | exact ap | exact fun k h h' => ap k h' h) : TriO _ w.heap.size A1 n c1 A2 gn c2 A3 kn c3 a g b).store DR (by decide) (by decide))
    clear o1 o2 o3 s0 s1 s2
    go_wp2_with fail
    refine bodyPost_ret (v := .agg #[.slice A1 n c1, .slice A2 gn c2, .slice A3 kn c3]) ?_ rfl ⟨below_block3 hb (Nat.le_succ _) _ _ _, A1, c1, A2, c2, A3, c3, rfl, HO.out _ _ _⟩
    obtain ⟨z0, z1, z2⟩ := (DR.store3 (.slice A1 n c1) (.slice A2 gn c2) (.slice A3 kn c3)).three
    simp only [results, Try.results70]
    go_simp
end Go.Proofs.Ytgkoaambdejkdaa

namespace Go.Proofs.Ytgkoaambdejkdaa
open Go.RowKit
def AgeWRet (a g b : List Int) (at_ ref to_ : Int) (base : Nat) (e : Ending) (w' : World) : Prop :=
  (∃ E, E ≠ 0 ∧ e = .returned (.tuple #[.agg #[.slice none 0 0, .slice none 0 0, .slice none 0 0], .int .i64 E])) ∨
  (AgesOk a g b ∧ ∃ (s : Spot) (k : Nat), spotAt (spotsL a) s.loc = some s ∧ at_ = s.loc ∧ ref = k ∧ (k : Int) < s.r ∧ (to_ = -1 ∨ to_ ∈ begsL (spotsL a)) ∧
    ∃ (A1 : Option Addr) (n1 c1 : Nat) (A2 : Option Addr) (n2 c2 : Nat) (A3 : Option Addr) (n3 c3 : Nat), e = .returned (.tuple #[.agg #[.slice A1 n1 c1, .slice A2 n2 c2, .slice A3 n3 c3], .int .i64 0]) ∧
      TriO w' base A1 n1 c1 A2 n2 c2 A3 n3 c3 (writeL a s k to_) g (noteL g b s.loc to_))
set_option maxRecDepth 100000 in
set_option maxHeartbeats 4000000 in
theorem youngWrite_any (A : Option Addr) (n c : Nat) (G : Option Addr) (gn gc : Nat) (K : Option Addr) (kn kc : Nat) (a g b : List Int) (at_ ref to_ : Int) (w : World) (hr : Reads w w.heap.size 1 A n (a.map (.int .u64))) (hnc : n ≤ c) (ha : ∀ x ∈ a, (Lit.int .u64 x).wf = true)
    (hg : Reads w w.heap.size 1 G gn (g.map (.int .i64))) (hgx : ∀ x ∈ g, (Lit.int .i64 x).wf = true) (hk : Reads w w.heap.size 1 K kn (b.map (.int .i64))) (hkx : ∀ x ∈ b, (Lit.int .i64 x).wf = true) (hgn : gn ≤ 1000000000000000000) (hkn : kn ≤ 1000000000000000000)
    (h1 : (Lit.int .i64 at_).wf = true) (h2 : (Lit.int .i64 ref).wf = true) (h3 : (Lit.int .i64 to_).wf = true) :
    Calls Try.prog 28 #[.agg #[.slice A n c, .slice G gn gc, .slice K kn kc], .int .i64 at_, .int .i64 ref, .int .i64 to_] w fun e w' => Below w.heap.size w w' ∧ AgeWRet a g b at_ ref to_ w.heap.size e w' := by
  have hb0 := (below_new w (.cells #[.slice A n c, .slice G gn gc, .slice K kn kc] 52)).alloc (by simp) (.cells #[.slice none 0 0, .slice none 0 0, .slice none 0 0] 52)
  have DS := (Blk.new w 52 #[.slice A n c, .slice G gn gc, .slice K kn kc]).alloc (.cells #[.slice none 0 0, .slice none 0 0, .slice none 0 0] 52)
  have DR := Blk.new (w.alloc (.cells #[.slice A n c, .slice G gn gc, .slice K kn kc] 52)) 52 #[.slice none 0 0, .slice none 0 0, .slice none 0 0]
  rw [World.size_alloc] at DR
  obtain ⟨s0, s1, s2⟩ := DS.three
  have HC := Lib.hid (youngCheck_any A n c G gn gc K kn kc a g b _ ((hr.below hb0).more hb0.size) hnc ha ((hg.below hb0).more hb0.size) hgx ((hk.below hb0).more hb0.size) hkx hgn hkn)
  by_cases hT : AgesOk a g b
  · obtain ⟨l1, l1', l2⟩ := hT.lens
    have h0 := (checkE_ok.1 hT.ok).1
    have hkl : b.length = kn := by have := hk.1; simpa using this
    have hgl : g.length = gn := by have := hg.1; simpa using this
    have hal : a.length = n := by have := hr.1; simpa using this
    have hn256 : n ≤ 256 := by omega
    have hg256 : gn ≤ 256 := by omega
    have hk256 : kn ≤ 256 := by omega
    have HOb := Lib.hid (fun w hr => youngObjects_any A n c a w hr ha h0)
    have HCo := Lib.hid (fun w hr hg hk => youngCopied_any A n c G gn gc K kn kc a g b w hr ha hg hgx hk hkx (by omega) (by omega) (by omega))
    have HT := Lib.hid hT
    have H0 := Lib.hid h0
    have HAL := Lib.hid hal
    have hbnd := begsL_bounds h0
    have HBn := Lib.hid hbnd
    clear hgx hkx ha hkl hgl hal
    go_enter Try.func28, Try.ntmps28
    go_wp2_with fail
    refine HC.out.mono ?_
    rintro e w1 ⟨⟨E, rfl, hE⟩, hb1⟩
    obtain rfl := hE.2 HT.out
    have DR1 := DR.below hb1 DR.lt
    have DS1 := DS.below hb1 DS.lt
    have hb01 := below_step hb0 hb1
    obtain ⟨s0, s1, s2⟩ := DS1.three
    have HO1 := Lib.hid (HOb.out w1 ((hr.below hb01).more hb01.size))
    clear hE hb1 HC HOb hb0
    go_wp2_with fail
    refine HO1.out.mono ?_
    rintro e w2 ⟨bm, rfl, hbm, hM, hb2⟩
    have hb02 := below_step hb01 hb2
    have DS2 := DS1.below hb2 DS1.lt
    have DR2 := DR1.below hb2 DR1.lt
    obtain ⟨rA, bA, tA, fA, lookA, hsA⟩ := look_head hM h1
    have hM3 := hM.alloc (.cells #[.int .i64 rA, .int .i64 bA, .int .i64 tA, .bool fA] 78)
    obtain ⟨rB, bB, tB, fB, lookB, -⟩ := look_head hM3 h3
    have hb03 := hb02.alloc hb02.size (.cells #[.int .i64 rA, .int .i64 bA, .int .i64 tA, .bool fA] 78)
    have hb04 := hb03.alloc hb03.size (.cells #[.int .i64 rB, .int .i64 bB, .int .i64 tB, .bool fB] 78)
    have DS4 := (DS2.alloc (.cells #[.int .i64 rA, .int .i64 bA, .int .i64 tA, .bool fA] 78)).alloc (.cells #[.int .i64 rB, .int .i64 bB, .int .i64 tB, .bool fB] 78)
    have DR4 := (DR2.alloc (.cells #[.int .i64 rA, .int .i64 bA, .int .i64 tA, .bool fA] 78)).alloc (.cells #[.int .i64 rB, .int .i64 bB, .int .i64 tB, .bool fB] 78)
    have k0 := ((Blk.new w2 78 #[.int .i64 rA, .int .i64 bA, .int .i64 tA, .bool fA]).alloc (.cells #[.int .i64 rB, .int .i64 bB, .int .i64 tB, .bool fB] 78)).cell 0
    simp only [List.getElem?_toArray, List.getElem?_cons_zero] at k0
    have HsA := Lib.hid hsA
    obtain ⟨tb, htb⟩ : ∃ tb, tb = decide (to_ ∈ begsL (spotsL a)) := ⟨_, rfl⟩
    rw [← htb] at lookB
    have HTB := Lib.hid htb
    have f0 := DR4.frozen 0
    have f1 := DR4.frozen 1
    have f2 := DR4.frozen 2
    obtain ⟨r0, r1, r2⟩ := DR4.three
    have HBf := Lib.hid (below_block3 (g := w.heap.size + 1) hb04 (Nat.le_succ _) (.slice none 0 0) (.slice none 0 0) (.slice none 0 0))
    have HZf := Lib.hid (DR4.store3 (.slice none 0 0) (.slice none 0 0) (.slice none 0 0)).three
    clear hM hM3 hsA htb hb2 HO1 hb03 DS1 DR1 DS2 DR2
    by_cases hm : at_ ∈ begsL (spotsL a)
    · rw [decide_eq_true hm] at lookA
      obtain ⟨s, hs⟩ := begsL_iff.1 hm
      obtain ⟨rfl, rfl, rfl, rfl⟩ := HsA.out s hs
      obtain ⟨hsS, -, rfl⟩ := spotAt_some hs
      have hok := (parse_mem (parse_ok H0.out).2 s hsS).1
      clear hm hbnd
      obtain ⟨loc, r, bb, t, f⟩ := s
      dsimp only at *
      have hloc := hok.loc0
      dsimp only at hloc
      obtain ⟨I, rfl⟩ := Int.eq_ofNat_of_zero_le hloc
      by_cases c1 : ref < 0
      · have g1 : decide (ref < 0) = true := decide_eq_true c1
        clear hs hsS hok
        go_wp2
        refine bodyPost_ret (v := .tuple #[.agg #[.slice none 0 0, .slice none 0 0, .slice none 0 0], .int .i64 4]) ?_ rfl ⟨HBf.out, .inl ⟨4, by decide, rfl⟩⟩
        obtain ⟨z0, z1, z2⟩ := HZf.out
        simp only [results, Try.results28]
        go_simp
      · obtain ⟨k, rfl⟩ := Int.eq_ofNat_of_zero_le (show 0 ≤ ref by omega)
        have g1 : decide ((k : Int) < 0) = false := decide_eq_false c1
        by_cases c2 : r ≤ k
        · have g2 : decide (r ≤ (k : Int)) = true := decide_eq_true c2
          clear hs hsS hok
          go_wp2
          refine bodyPost_ret (v := .tuple #[.agg #[.slice none 0 0, .slice none 0 0, .slice none 0 0], .int .i64 4]) ?_ rfl ⟨HBf.out, .inl ⟨4, by decide, rfl⟩⟩
          obtain ⟨z0, z1, z2⟩ := HZf.out
          simp only [results, Try.results28]
          go_simp
        · have g2 : decide (r ≤ (k : Int)) = false := decide_eq_false c2
          by_cases c3 : to_ = -1 ∨ to_ ∈ begsL (spotsL a)
          · have hft := hok.fits
            have hr0 := hok.r0
            have hbb0 := hok.b0
            simp only [Spot.long] at hft hr0 hbb0
            obtain ⟨p1, hp1⟩ : ∃ p1, p1 = I + 1 := ⟨_, rfl⟩
            obtain ⟨p2, hp2⟩ : ∃ p2, p2 = p1 + k := ⟨_, rfl⟩
            have hp2n : p2 < n := by have := HAL.out; omega
            have w1' : IntKind.i64.wrap ((I : Int) + 1) = p1 := by rw [IntWalk.i64_in _ (by omega)]; omega
            have w2' : IntKind.i64.wrap ((p1 : Int) + k) = p2 := by rw [IntWalk.i64_in _ (by omega)]; omega
            have w1'' : (I : Int) + 1 = p1 := by omega
            have w2'' : (p1 : Int) + k = p2 := by omega
            have HS := Lib.hid hs
            have HP : Hid ((I : Int).toNat + 1 + k = p2) := by show _ = _; omega
            have HKR : Hid ((k : Int) < r) := by show _ < _; omega
            clear hs hsS hok hloc hft hr0 hbb0 hp1 hp2
            have HCo1 := Lib.hid (HCo.out _ ((hr.below hb04).more hb04.size) ((hg.below hb04).more hb04.size) ((hk.below hb04).more hb04.size))
            obtain ⟨s0, s1, s2⟩ := DS4.three
            rcases c3 with rfl | hB
            · have g3 : ((-1 : Int) != -1) = false := by decide
              go_wp2_with fail
              refine HCo1.out.mono ?_
              rintro e w5 ⟨hb5, A1, d1, A2, d2, A3, d3, rfl, hO⟩
              obtain ⟨q, e0, hqb⟩ := own_ptr hO.a.1 (by omega)
              subst e0
              have hws4 := hb04.size
              have hb05 := below_step hb04 hb5
              have DS5 := DS4.below hb5 DS4.lt
              have DR5 := DR4.below hb5 DR4.lt
              have f0 := DS5.frozen 0
              have f1 := DS5.frozen 1
              have f2 := DS5.frozen 2
              obtain ⟨u0, u1, u2⟩ := DS5.three
              have DS6 := DS5.store3 (.slice (some ⟨q, 0, none⟩) n d1) (.slice A2 gn d2) (.slice A3 kn d3)
              have DR6 := DR5.far3 (g' := w.heap.size) (by omega) (.slice (some ⟨q, 0, none⟩) n d1) (.slice A2 gn d2) (.slice A3 kn d3)
              have hb06 := below_block3 hb05 (Nat.le_refl _) (.slice (some ⟨q, 0, none⟩) n d1) (.slice A2 gn d2) (.slice A3 kn d3)
              have hO6 := (hO.store DS5 (by decide) (by decide) (.slice (some ⟨q, 0, none⟩) n d1) (.slice A2 gn d2) (.slice A3 kn d3)).mono (base := w.heap.size) hws4
              obtain ⟨t0, t1, t2⟩ := DS6.three
              obtain ⟨-, ⟨ov, hov⟩, hof⟩ := hO6.a.setElem hp2n (u := .int .u64 0) ⟨_, rfl, rfl⟩
              have hqS : some q ≠ some w.heap.size := fun e => own_blk hO6.a.1 DS6 (by decide) (by rw [← e]; rfl)
              have hqR : some q ≠ some (w.heap.size + 1) := fun e => own_blk hO6.a.1 DR6 (by decide) (by rw [← e]; rfl)
              have DS7 := DS6.far (p := ⟨q, p2, none⟩) (fun e => hqS (by rw [e])) (.int .u64 0)
              have DR7 := DR6.far (p := ⟨q, p2, none⟩) (fun e => hqR (by rw [e])) (.int .u64 0)
              have hb07 := hb06.setCell (p := ⟨q, p2, none⟩) (by dsimp only; omega) (.int .u64 0)
              have hO7 := hO6.setA hp2n (v := 0) rfl
              have f3 := DR7.frozen 0
              have f4 := DR7.frozen 1
              have f5 := DR7.frozen 2
              obtain ⟨v0, v1, v2⟩ := DS7.three
              obtain ⟨r0, r1, r2⟩ := DR7.three
              have HOf := Lib.hid (hO7.store DR7 (by decide) (by decide) (.slice (some ⟨q, 0, none⟩) n d1) (.slice A2 gn d2) (.slice A3 kn d3))
              have HBf2 := Lib.hid (below_block3 (g := w.heap.size + 1) hb07 (Nat.le_succ _) (.slice (some ⟨q, 0, none⟩) n d1) (.slice A2 gn d2) (.slice A3 kn d3))
              have HZf2 := Lib.hid (DR7.store3 (.slice (some ⟨q, 0, none⟩) n d1) (.slice A2 gn d2) (.slice A3 kn d3)).three
              have HWA : Hid (writeL a ⟨I, r, bb, t, f⟩ k (-1) = a.set p2 0) := by show _ = _; unfold writeL; rw [HP.out]; rfl
              have HWG : Hid (noteL g b I (-1) = b) := by show _ = _; unfold noteL; rw [if_neg (by omega)]
              clear hO hO6 hO7
              go_wp2
              refine bodyPost_ret (v := .tuple #[.agg #[.slice (some ⟨q, 0, none⟩) n d1, .slice A2 gn d2, .slice A3 kn d3], .int .i64 0]) ?_ rfl ⟨HBf2.out, .inr ⟨HT.out, ⟨I, r, bb, t, f⟩, k, HS.out, rfl, rfl, HKR.out, .inl rfl, some ⟨q, 0, none⟩, n, d1, A2, gn, d2, A3, kn, d3, rfl, by rw [HWA.out, HWG.out]; exact HOf.out⟩⟩
              obtain ⟨z0, z1, z2⟩ := HZf2.out
              simp only [results, Try.results28]
              go_simp
            · obtain ⟨hO0, hO2⟩ := HBn.out to_ hB
              obtain ⟨O, rfl⟩ := Int.eq_ofNat_of_zero_le hO0
              obtain ⟨V, hV⟩ : ∃ V, V = O + 1 := ⟨_, rfl⟩
              have wV : IntKind.i64.wrap ((O : Int) + 1) = V := by rw [IntWalk.i64_in _ (by omega)]; omega
              have wV2 : (O : Int) + 1 = V := by omega
              have HVW : Hid ((Lit.int .u64 (V : Int)).wf = true) := by show _ = _; simp [Lit.wf, IntKind.min, IntKind.max, IntKind.signed, IntKind.bits]; omega
              have wV3 : IntKind.u64.wrap (V : Int) = V := IntWalk.u64_in _ (by omega)
              have g3 : ((O : Int) != -1) = true := by simp <;> omega
              have g4 : tb = true := by rw [HTB.out]; exact decide_eq_true hB
              have HOB := Lib.hid hB
              have HOV := Lib.hid wV2
              have HIW : Hid ((Lit.int .i64 (I : Int)).wf = true) := h1
              subst g4
              clear hB hV hO0
              go_wp2_with fail
              refine HCo1.out.mono ?_
              rintro e w5 ⟨hb5, A1, d1, A2, d2, A3, d3, rfl, hO⟩
              obtain ⟨q, e0, hqb⟩ := own_ptr hO.a.1 (by omega)
              subst e0
              have hws4 := hb04.size
              have hb05 := below_step hb04 hb5
              have DS5 := DS4.below hb5 DS4.lt
              have DR5 := DR4.below hb5 DR4.lt
              have f0 := DS5.frozen 0
              have f1 := DS5.frozen 1
              have f2 := DS5.frozen 2
              obtain ⟨u0, u1, u2⟩ := DS5.three
              have DS6 := DS5.store3 (.slice (some ⟨q, 0, none⟩) n d1) (.slice A2 gn d2) (.slice A3 kn d3)
              have DR6 := DR5.far3 (g' := w.heap.size) (by omega) (.slice (some ⟨q, 0, none⟩) n d1) (.slice A2 gn d2) (.slice A3 kn d3)
              have hb06 := below_block3 hb05 (Nat.le_refl _) (.slice (some ⟨q, 0, none⟩) n d1) (.slice A2 gn d2) (.slice A3 kn d3)
              have hO6 := (hO.store DS5 (by decide) (by decide) (.slice (some ⟨q, 0, none⟩) n d1) (.slice A2 gn d2) (.slice A3 kn d3)).mono (base := w.heap.size) hws4
              obtain ⟨t0, t1, t2⟩ := DS6.three
              obtain ⟨-, ⟨ov, hov⟩, hof⟩ := hO6.a.setElem hp2n (u := .int .u64 V) ⟨_, rfl, HVW.out⟩
              have hqS : some q ≠ some w.heap.size := fun e => own_blk hO6.a.1 DS6 (by decide) (by rw [← e]; rfl)
              have hqR : some q ≠ some (w.heap.size + 1) := fun e => own_blk hO6.a.1 DR6 (by decide) (by rw [← e]; rfl)
              have DS7 := DS6.far (p := ⟨q, p2, none⟩) (fun e => hqS (by rw [e])) (.int .u64 V)
              have DR7 := DR6.far (p := ⟨q, p2, none⟩) (fun e => hqR (by rw [e])) (.int .u64 V)
              have hb07 := hb06.setCell (p := ⟨q, p2, none⟩) (by dsimp only; omega) (.int .u64 V)
              have hO7 := hO6.setA hp2n (v := V) HVW.out
              by_cases hxb : (I : Int) ∈ g
              · have HC1 := Lib.hid (contains_int A2 gn d2 _ g I true _ (Reads.of_own hO7.g.1) (by omega) (decide_eq_true hxb))
                by_cases hwh : (O : Int) ∈ g
                · have HC2 := Lib.hid (contains_int A2 gn d2 _ g O true _ (Reads.of_own hO7.g.1) (by omega) (decide_eq_true hwh))
                  have HNX := Lib.hid hwh
                  have f3 := DR7.frozen 0
                  have f4 := DR7.frozen 1
                  have f5 := DR7.frozen 2
                  obtain ⟨v0, v1, v2⟩ := DS7.three
                  obtain ⟨r0, r1, r2⟩ := DR7.three
                  have HOf := Lib.hid (hO7.store DR7 (by decide) (by decide) (.slice (some ⟨q, 0, none⟩) n d1) (.slice A2 gn d2) (.slice A3 kn d3))
                  have HBf2 := Lib.hid (below_block3 (g := w.heap.size + 1) hb07 (Nat.le_succ _) (.slice (some ⟨q, 0, none⟩) n d1) (.slice A2 gn d2) (.slice A3 kn d3))
                  have HZf2 := Lib.hid (DR7.store3 (.slice (some ⟨q, 0, none⟩) n d1) (.slice A2 gn d2) (.slice A3 kn d3)).three
                  have HWA : Hid (writeL a ⟨I, r, bb, t, f⟩ k O = a.set p2 V) := by show _ = _; unfold writeL; rw [HP.out, HOV.out]
                  have HWG : Hid (noteL g b I O = b) := by show _ = _; unfold noteL; rw [if_neg (fun h => h.2.2 HNX.out)]
                  clear hO hO6 hO7 hxb hwh
                  go_wp2_with (go_at_call 20; (first | (with_reducible refine HC1.out.mono ?_) | (with_reducible refine HC2.out.mono ?_)); rintro e w' ⟨rfl, rfl⟩)
                  refine bodyPost_ret (v := .tuple #[.agg #[.slice (some ⟨q, 0, none⟩) n d1, .slice A2 gn d2, .slice A3 kn d3], .int .i64 0]) ?_ rfl ⟨HBf2.out, .inr ⟨HT.out, ⟨I, r, bb, t, f⟩, k, HS.out, rfl, rfl, HKR.out, (.inr HOB.out), some ⟨q, 0, none⟩, n, d1, A2, gn, d2, A3, kn, d3, rfl, by rw [HWA.out, HWG.out]; exact HOf.out⟩⟩
                  obtain ⟨z0, z1, z2⟩ := HZf2.out
                  simp only [results, Try.results28]
                  go_simp
                · have HC2 := Lib.hid (contains_int A2 gn d2 _ g O false _ (Reads.of_own hO7.g.1) (by omega) (decide_eq_false hwh))
                  obtain ⟨v0, v1, v2⟩ := DS7.three
                  have HPu := Lib.hid (youngPut_any w.heap.size A3 kn d3 b I _ hO7.b hb07.size (by omega) HT.out.nr HIW.out)
                  have HWG : Hid (noteL g b I O = putL b I) := by show _ = _; unfold noteL; rw [if_pos ⟨by omega, hxb, hwh⟩]
                  have HO7 := Lib.hid hO7
                  clear hO hO6 hO7 hxb hwh
                  go_wp2_with (first
                    | (go_at_call 20; (first | (with_reducible refine HC1.out.mono ?_) | (with_reducible refine HC2.out.mono ?_)); rintro e w' ⟨rfl, rfl⟩)
                    | fail)
                  refine HPu.out.mono ?_
                  rintro e w9 ⟨A9, d9, rfl, hp9, -, hgr9, hbl9⟩
                  have hO9 := HO7.out.putB hp9 hgr9 hbl9
                  have DS9 := DS7.grown hgr9 (own_blk HO7.out.b.1 DS7 (by decide)).symm
                  have DR9 := DR7.grown hgr9 (own_blk HO7.out.b.1 DR7 (by decide)).symm
                  have hb09 := hb07.grown hgr9 hb07.size (fun k hk => (HO7.out.b.1.lt k hk).1)
                  generalize hgz : (putL b I).length = gz at *
                  have hOz := hO9.set DS9 (by decide) (by decide) 2 (.slice A9 gz d9)
                  have DSz : Blk (w9.setCell ⟨w.heap.size, 2, none⟩ (.slice A9 gz d9)) w.heap.size 52 #[.slice (some ⟨q, 0, none⟩) n d1, .slice A2 gn d2, .slice A9 gz d9] := by simpa using DS9.set_ 2 (.slice A9 gz d9)
                  have DRz := DR9.far (p := ⟨w.heap.size, 2, none⟩) (by dsimp only; omega) (.slice A9 gz d9)
                  have hbz := hb09.setCell (p := ⟨w.heap.size, 2, none⟩) (Nat.le_refl _) (.slice A9 gz d9)
                  have f9 := DS9.frozen 2
                  have v9 := DS9.three.2.2
                  have f3 := DRz.frozen 0
                  have f4 := DRz.frozen 1
                  have f5 := DRz.frozen 2
                  obtain ⟨v0, v1, v2⟩ := DSz.three
                  obtain ⟨r0, r1, r2⟩ := DRz.three
                  have HOf := Lib.hid (hOz.store DRz (by decide) (by decide) (.slice (some ⟨q, 0, none⟩) n d1) (.slice A2 gn d2) (.slice A9 gz d9))
                  have HBf2 := Lib.hid (below_block3 (g := w.heap.size + 1) hbz (Nat.le_succ _) (.slice (some ⟨q, 0, none⟩) n d1) (.slice A2 gn d2) (.slice A9 gz d9))
                  have HZf2 := Lib.hid (DRz.store3 (.slice (some ⟨q, 0, none⟩) n d1) (.slice A2 gn d2) (.slice A9 gz d9)).three
                  have HWA : Hid (writeL a ⟨I, r, bb, t, f⟩ k O = a.set p2 V) := by show _ = _; unfold writeL; rw [HP.out, HOV.out]
                  clear hO9 hOz hp9 hgr9 hbl9 HPu hgz
                  go_wp2
                  refine bodyPost_ret (v := .tuple #[.agg #[.slice (some ⟨q, 0, none⟩) n d1, .slice A2 gn d2, .slice A9 gz d9], .int .i64 0]) ?_ rfl ⟨HBf2.out, .inr ⟨HT.out, ⟨I, r, bb, t, f⟩, k, HS.out, rfl, rfl, HKR.out, (.inr HOB.out), some ⟨q, 0, none⟩, n, d1, A2, gn, d2, A9, gz, d9, rfl, by rw [HWA.out, HWG.out]; exact HOf.out⟩⟩
                  obtain ⟨z0, z1, z2⟩ := HZf2.out
                  simp only [results, Try.results28]
                  go_simp
              · have HC1 := Lib.hid (contains_int A2 gn d2 _ g I false _ (Reads.of_own hO7.g.1) (by omega) (decide_eq_false hxb))
                have HNX := Lib.hid hxb
                have f3 := DR7.frozen 0
                have f4 := DR7.frozen 1
                have f5 := DR7.frozen 2
                obtain ⟨v0, v1, v2⟩ := DS7.three
                obtain ⟨r0, r1, r2⟩ := DR7.three
                have HOf := Lib.hid (hO7.store DR7 (by decide) (by decide) (.slice (some ⟨q, 0, none⟩) n d1) (.slice A2 gn d2) (.slice A3 kn d3))
                have HBf2 := Lib.hid (below_block3 (g := w.heap.size + 1) hb07 (Nat.le_succ _) (.slice (some ⟨q, 0, none⟩) n d1) (.slice A2 gn d2) (.slice A3 kn d3))
                have HZf2 := Lib.hid (DR7.store3 (.slice (some ⟨q, 0, none⟩) n d1) (.slice A2 gn d2) (.slice A3 kn d3)).three
                have HWA : Hid (writeL a ⟨I, r, bb, t, f⟩ k O = a.set p2 V) := by show _ = _; unfold writeL; rw [HP.out, HOV.out]
                have HWG : Hid (noteL g b I O = b) := by show _ = _; unfold noteL; rw [if_neg (fun h => HNX.out h.2.1)]
                clear hO hO6 hO7 hxb
                go_wp2_with (go_at_call 20; (with_reducible refine HC1.out.mono ?_); rintro e w' ⟨rfl, rfl⟩)
                refine bodyPost_ret (v := .tuple #[.agg #[.slice (some ⟨q, 0, none⟩) n d1, .slice A2 gn d2, .slice A3 kn d3], .int .i64 0]) ?_ rfl ⟨HBf2.out, .inr ⟨HT.out, ⟨I, r, bb, t, f⟩, k, HS.out, rfl, rfl, HKR.out, (.inr HOB.out), some ⟨q, 0, none⟩, n, d1, A2, gn, d2, A3, kn, d3, rfl, by rw [HWA.out, HWG.out]; exact HOf.out⟩⟩
                obtain ⟨z0, z1, z2⟩ := HZf2.out
                simp only [results, Try.results28]
                go_simp
          · have g3 : (to_ != -1) = true := by simp; exact fun h => c3 (.inl h)
            have g4 : tb = false := by rw [HTB.out]; exact decide_eq_false (fun h => c3 (.inr h))
            subst g4
            clear hs hsS hok
            go_wp2
            refine bodyPost_ret (v := .tuple #[.agg #[.slice none 0 0, .slice none 0 0, .slice none 0 0], .int .i64 4]) ?_ rfl ⟨HBf.out, .inl ⟨4, by decide, rfl⟩⟩
            obtain ⟨z0, z1, z2⟩ := HZf.out
            simp only [results, Try.results28]
            go_simp
    · rw [decide_eq_false hm] at lookA
      clear hm hbnd
      go_wp2
      refine bodyPost_ret (v := .tuple #[.agg #[.slice none 0 0, .slice none 0 0, .slice none 0 0], .int .i64 5]) ?_ rfl ⟨HBf.out, .inl ⟨5, by decide, rfl⟩⟩
      obtain ⟨z0, z1, z2⟩ := HZf.out
      simp only [results, Try.results28]
      go_simp
  · clear hgx hkx ha hr hg hk
    go_enter Try.func28, Try.ntmps28
    go_wp2_with fail
    refine HC.out.mono ?_
    rintro e w1 ⟨⟨E, rfl, hE⟩, hb1⟩
    have hE0 : E ≠ 0 := fun h => hT (hE.1 h)
    have hE1 : (E != 0) = true := by simpa using hE0
    have HE := Lib.hid hE0
    have DR1 := DR.below hb1 DR.lt
    have f0 := DR1.frozen 0
    have f1 := DR1.frozen 1
    have f2 := DR1.frozen 2
    obtain ⟨r0, r1, r2⟩ := DR1.three
    have hbb := below_step hb0 hb1
    clear hE hE0 hb1
    go_wp2
    refine bodyPost_ret (v := .tuple #[.agg #[.slice none 0 0, .slice none 0 0, .slice none 0 0], .int .i64 E]) ?_ rfl ⟨below_block3 hbb (Nat.le_succ _) _ _ _, .inl ⟨E, HE.out, rfl⟩⟩
    obtain ⟨z0, z1, z2⟩ := (DR1.store3 (.slice none 0 0) (.slice none 0 0) (.slice none 0 0)).three
    simp only [results, Try.results28]
    go_simp
def AgeWOut (a g b : List Int) (at_ ref to_ : Int) (base : Nat) (w' : World) (A1 : Option Addr) (n1 c1 : Nat) (A2 : Option Addr) (n2 c2 : Nat) (A3 : Option Addr) (n3 c3 : Nat) (E : Int) : Prop :=
  E ≠ 0 ∨ (E = 0 ∧ AgesOk a g b ∧ ∃ (s : Spot) (k : Nat), spotAt (spotsL a) s.loc = some s ∧ at_ = s.loc ∧ ref = k ∧ (k : Int) < s.r ∧ (to_ = -1 ∨ to_ ∈ begsL (spotsL a)) ∧ TriO w' base A1 n1 c1 A2 n2 c2 A3 n3 c3 (writeL a s k to_) g (noteL g b s.loc to_))
theorem AgeWOut.imp {a g b : List Int} {at_ ref to_ : Int} {base base' : Nat} {w w' : World} {A1 : Option Addr} {n1 c1 : Nat} {A2 : Option Addr} {n2 c2 : Nat} {A3 : Option Addr} {n3 c3 : Nat} {E : Int}
    (h : AgeWOut a g b at_ ref to_ base w A1 n1 c1 A2 n2 c2 A3 n3 c3 E) (hf : ∀ a' g', TriO w base A1 n1 c1 A2 n2 c2 A3 n3 c3 a' g g' → TriO w' base' A1 n1 c1 A2 n2 c2 A3 n3 c3 a' g g') : AgeWOut a g b at_ ref to_ base' w' A1 n1 c1 A2 n2 c2 A3 n3 c3 E := by
  rcases h with h | ⟨h0, hT, s, k, h1, h2, h3, h4, h5, hO⟩
  · exact .inl h
  · exact .inr ⟨h0, hT, s, k, h1, h2, h3, h4, h5, hf _ _ hO⟩
theorem AgeWRet.named {a g b : List Int} {at_ ref to_ : Int} {base : Nat} {e : Ending} {w' : World} (h : AgeWRet a g b at_ ref to_ base e w') :
    ∃ (A1 : Option Addr) (n1 c1 : Nat) (A2 : Option Addr) (n2 c2 : Nat) (A3 : Option Addr) (n3 c3 : Nat) (E : Int), e = .returned (.tuple #[.agg #[.slice A1 n1 c1, .slice A2 n2 c2, .slice A3 n3 c3], .int .i64 E]) ∧ AgeWOut a g b at_ ref to_ base w' A1 n1 c1 A2 n2 c2 A3 n3 c3 E := by
  rcases h with ⟨E, hE, rfl⟩ | ⟨hT, s, k, h1, h2, h3, h4, h5, A1, n1, c1, A2, n2, c2, A3, n3, c3, rfl, hO⟩
  · exact ⟨none, 0, 0, none, 0, 0, none, 0, 0, E, rfl, .inl hE⟩
  · exact ⟨A1, n1, c1, A2, n2, c2, A3, n3, c3, 0, rfl, .inr ⟨rfl, hT, s, k, h1, h2, h3, h4, h5, hO⟩⟩
end Go.Proofs.Ytgkoaambdejkdaa

namespace Go.Proofs.Ytgkoaambdejkdaa
open Go.ChangeShapes Go.WideShapes Go.ChangeAt Go.RowKit Go.Joins Go.Deep
structure Trio where
  x : Int
  y : Int
  z : Int
  hx : (Lit.int .i64 x).wf = true
  hy : (Lit.int .i64 y).wf = true
  hz : (Lit.int .i64 z).wf = true
instance inhTrio : Inhabited Trio := ⟨⟨0, 0, 0, rfl, rfl, rfl⟩⟩
def trioC (p : Trio) : List Value := [.int .i64 p.x, .int .i64 p.y, .int .i64 p.z]
def triosC (l : List Trio) : List Value := l.flatMap trioC
theorem Reads.trio {w : World} {B : Nat} {A : Option Addr} {n j : Nat} {l : List Trio} (h : Reads w B 3 A n (triosC l)) (hj : j < n) :
    ∃ ad s, A = some ad ∧ ad.block < B ∧ l[j]? = some s ∧ w.cell? (ad.add (j * 3)) = some (.int .i64 s.x) ∧
      w.cell? ⟨(ad.add (j * 3)).block, (ad.add (j * 3)).off + 1, none⟩ = some (.int .i64 s.y) ∧ w.cell? ⟨(ad.add (j * 3)).block, (ad.add (j * 3)).off + 2, none⟩ = some (.int .i64 s.z) := by
  obtain ⟨ad, s, e, hb, hs, c0, cs⟩ := Reads.elem (f := trioC) (k := 3) (fun _ => rfl) h (by decide) hj
  exact ⟨ad, s, e, hb, hs, c0, cs 1 (by decide) (by decide), cs 2 (by decide) (by decide)⟩
theorem list3P {α : Type} {l : List α} (h : l.length = 3) : ∃ a b c, l = [a, b, c] := by
  match l, h with
  | [a, b, c], _ => exact ⟨a, b, c, rfl⟩
set_option maxRecDepth 100000 in
theorem open_trios {H : Type} {enc : TypeId × Value → H} {W : World} {r : Reach} {base : Nat} {sp : Nat → Bool} {v : Value} {d : DataW H} {ps : List MemPlace}
    (hval : Value.okWide Try.prog W r base 60 v) (hlt : ∀ x ∈ ps, x.block < W.heap.size) (h : DataW.Trod enc Try.prog W 0 sp true 60 v d ps) :
    ∃ (A : Option Addr) (n c : Nat) (l : List Trio), v = .slice A n c ∧ n ≤ 9223372036854775807 ∧ Reads W W.heap.size 3 A n (triosC l) := by
  have k0 : Try.prog.cellsOf 3 = 1 := by kernel_rfl
  obtain ⟨A, n, c, l, h1, h2, h3, h4, -, h5⟩ := open_elems2 trioC 3 (by decide) (fun _ => rfl) Try.underlying60 (by kernel_rfl) (fun n cs y hy => by
    obtain ⟨xs, m, -, -, hl, -, -⟩ := DataW.trod_array Try.underlying62 hy
    obtain ⟨c0, c1, c2, rfl⟩ := list3P (hl.trans (by kernel_rfl))
    obtain ⟨y0, y1, y2, m, -, a0, a1, a2⟩ := trod_array3 Try.underlying62 k0 hy
    obtain ⟨x0, q0, -, w0⟩ := DataW.trod_int Try.underlying3 a0
    obtain ⟨x1, q1, -, w1⟩ := DataW.trod_int Try.underlying3 a1
    obtain ⟨x2, q2, -, w2⟩ := DataW.trod_int Try.underlying3 a2
    simp at q0 q1 q2
    subst q0 q1 q2
    exact ⟨⟨x0, x1, x2, w0, w1, w2⟩, rfl⟩) hval hlt h
  refine ⟨A, n, c, l, h1, ?_, h4⟩
  unfold maxLen at h3
  omega
end Go.Proofs.Ytgkoaambdejkdaa
