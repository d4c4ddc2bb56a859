/-
  Texts joined: YoungWrite AnyOrder ThreeClones Slices.
-/
import Derived.Orders
import Derived.Test.YtgkoaambdejkdaaRows
import Derived.Test.YtgkoaambdejkdaaG0
import Derived.Test.YtgkoaambdejkdaaG1
import Derived.Test.YtgkoaambdejkdaaG10
import Derived.Test.YtgkoaambdejkdaaG11
import Derived.Test.YtgkoaambdejkdaaG12
import Derived.Test.YtgkoaambdejkdaaG13
namespace Go.Proofs.Ytgkoaambdejkdaa
open Go.RowKit
def AgeWRet (a g b : List Int) (at_ ref to_ : Int) (base : Nat) (e : Ending) (w' : World) : Prop :=
  (∃ E, E ≠ 0 ∧ e = .returned (.tuple #[.agg #[.slice none 0 0, .slice none 0 0, .slice none 0 0], .int .i64 E])) ∨
  (AgesOk a g b ∧ ∃ (s : Spot) (k : Nat), spotAt (spotsL a) s.loc = some s ∧ at_ = s.loc ∧ ref = k ∧ (k : Int) < s.r ∧ (to_ = -1 ∨ to_ ∈ begsL (spotsL a)) ∧
    ∃ (A1 : Option Addr) (n1 c1 : Nat) (A2 : Option Addr) (n2 c2 : Nat) (A3 : Option Addr) (n3 c3 : Nat), e = .returned (.tuple #[.agg #[.slice A1 n1 c1, .slice A2 n2 c2, .slice A3 n3 c3], .int .i64 0]) ∧
      TriO w' base A1 n1 c1 A2 n2 c2 A3 n3 c3 (writeL a s k to_) g (noteL g b s.loc to_))
set_option maxRecDepth 100000 in
set_option maxHeartbeats 4000000 in
theorem youngWrite_any (A : Option Addr) (n c : Nat) (G : Option Addr) (gn gc : Nat) (K : Option Addr) (kn kc : Nat) (a g b : List Int) (at_ ref to_ : Int) (w : World) (hr : Reads w w.heap.size 1 A n (a.map (.int .u64))) (hnc : n ≤ c) (ha : ∀ x ∈ a, (Lit.int .u64 x).wf = true)
    (hg : Reads w w.heap.size 1 G gn (g.map (.int .i64))) (hgx : ∀ x ∈ g, (Lit.int .i64 x).wf = true) (hk : Reads w w.heap.size 1 K kn (b.map (.int .i64))) (hkx : ∀ x ∈ b, (Lit.int .i64 x).wf = true) (hgn : gn ≤ 1000000000000000000) (hkn : kn ≤ 1000000000000000000)
    (h1 : (Lit.int .i64 at_).wf = true) (h2 : (Lit.int .i64 ref).wf = true) (h3 : (Lit.int .i64 to_).wf = true) :
    Calls Try.prog 28 #[.agg #[.slice A n c, .slice G gn gc, .slice K kn kc], .int .i64 at_, .int .i64 ref, .int .i64 to_] w fun e w' => Below w.heap.size w w' ∧ AgeWRet a g b at_ ref to_ w.heap.size e w' := by
  have hb0 := (below_new w (.cells #[.slice A n c, .slice G gn gc, .slice K kn kc] 52)).alloc (by simp) (.cells #[.slice none 0 0, .slice none 0 0, .slice none 0 0] 52)
  have DS := (Blk.new w 52 #[.slice A n c, .slice G gn gc, .slice K kn kc]).alloc (.cells #[.slice none 0 0, .slice none 0 0, .slice none 0 0] 52)
  have DR := Blk.new (w.alloc (.cells #[.slice A n c, .slice G gn gc, .slice K kn kc] 52)) 52 #[.slice none 0 0, .slice none 0 0, .slice none 0 0]
  rw [World.size_alloc] at DR
  obtain ⟨s0, s1, s2⟩ := DS.three
  have HC := Lib.hid (youngCheck_any A n c G gn gc K kn kc a g b _ ((hr.below hb0).more hb0.size) hnc ha ((hg.below hb0).more hb0.size) hgx ((hk.below hb0).more hb0.size) hkx hgn hkn)
  by_cases hT : AgesOk a g b
  · obtain ⟨l1, l1', l2⟩ := hT.lens
    have h0 := (checkE_ok.1 hT.ok).1
    have hkl : b.length = kn := by have := hk.1; simpa using this
    have hgl : g.length = gn := by have := hg.1; simpa using this
    have hal : a.length = n := by have := hr.1; simpa using this
    have hn256 : n ≤ 256 := by omega
    have hg256 : gn ≤ 256 := by omega
    have hk256 : kn ≤ 256 := by omega
    have HOb := Lib.hid (fun w hr => youngObjects_any A n c a w hr ha h0)
    have HCo := Lib.hid (fun w hr hg hk => youngCopied_any A n c G gn gc K kn kc a g b w hr ha hg hgx hk hkx (by omega) (by omega) (by omega))
    have HT := Lib.hid hT
    have H0 := Lib.hid h0
    have HAL := Lib.hid hal
    have hbnd := begsL_bounds h0
    have HBn := Lib.hid hbnd
    clear hgx hkx ha hkl hgl hal
    go_enter Try.func28, Try.ntmps28
    go_wp2_with fail
    refine HC.out.mono ?_
    rintro e w1 ⟨⟨E, rfl, hE⟩, hb1⟩
    obtain rfl := hE.2 HT.out
    have DR1 := DR.below hb1 DR.lt
    have DS1 := DS.below hb1 DS.lt
    have hb01 := below_step hb0 hb1
    obtain ⟨s0, s1, s2⟩ := DS1.three
    have HO1 := Lib.hid (HOb.out w1 ((hr.below hb01).more hb01.size))
    clear hE hb1 HC HOb hb0
    go_wp2_with fail
    refine HO1.out.mono ?_
    rintro e w2 ⟨bm, rfl, hbm, hM, hb2⟩
    have hb02 := below_step hb01 hb2
    have DS2 := DS1.below hb2 DS1.lt
    have DR2 := DR1.below hb2 DR1.lt
    obtain ⟨rA, bA, tA, fA, lookA, hsA⟩ := look_head hM h1
    have hM3 := hM.alloc (.cells #[.int .i64 rA, .int .i64 bA, .int .i64 tA, .bool fA] 78)
    obtain ⟨rB, bB, tB, fB, lookB, -⟩ := look_head hM3 h3
    have hb03 := hb02.alloc hb02.size (.cells #[.int .i64 rA, .int .i64 bA, .int .i64 tA, .bool fA] 78)
    have hb04 := hb03.alloc hb03.size (.cells #[.int .i64 rB, .int .i64 bB, .int .i64 tB, .bool fB] 78)
    have DS4 := (DS2.alloc (.cells #[.int .i64 rA, .int .i64 bA, .int .i64 tA, .bool fA] 78)).alloc (.cells #[.int .i64 rB, .int .i64 bB, .int .i64 tB, .bool fB] 78)
    have DR4 := (DR2.alloc (.cells #[.int .i64 rA, .int .i64 bA, .int .i64 tA, .bool fA] 78)).alloc (.cells #[.int .i64 rB, .int .i64 bB, .int .i64 tB, .bool fB] 78)
    have k0 := ((Blk.new w2 78 #[.int .i64 rA, .int .i64 bA, .int .i64 tA, .bool fA]).alloc (.cells #[.int .i64 rB, .int .i64 bB, .int .i64 tB, .bool fB] 78)).cell 0
    simp only [List.getElem?_toArray, List.getElem?_cons_zero] at k0
    have HsA := Lib.hid hsA
    obtain ⟨tb, htb⟩ : ∃ tb, tb = decide (to_ ∈ begsL (spotsL a)) := ⟨_, rfl⟩
    rw [← htb] at lookB
    have HTB := Lib.hid htb
    have f0 := DR4.frozen 0
    have f1 := DR4.frozen 1
    have f2 := DR4.frozen 2
    obtain ⟨r0, r1, r2⟩ := DR4.three
    have HBf := Lib.hid (below_block3 (g := w.heap.size + 1) hb04 (Nat.le_succ _) (.slice none 0 0) (.slice none 0 0) (.slice none 0 0))
    have HZf := Lib.hid (DR4.store3 (.slice none 0 0) (.slice none 0 0) (.slice none 0 0)).three
    clear hM hM3 hsA htb hb2 HO1 hb03 DS1 DR1 DS2 DR2
    by_cases hm : at_ ∈ begsL (spotsL a)
    · rw [decide_eq_true hm] at lookA
      obtain ⟨s, hs⟩ := begsL_iff.1 hm
      obtain ⟨rfl, rfl, rfl, rfl⟩ := HsA.out s hs
      obtain ⟨hsS, -, rfl⟩ := spotAt_some hs
      have hok := (parse_mem (parse_ok H0.out).2 s hsS).1
      clear hm hbnd
      obtain ⟨loc, r, bb, t, f⟩ := s
      dsimp only at *
      have hloc := hok.loc0
      dsimp only at hloc
      obtain ⟨I, rfl⟩ := Int.eq_ofNat_of_zero_le hloc
      by_cases c1 : ref < 0
      · have g1 : decide (ref < 0) = true := decide_eq_true c1
        clear hs hsS hok
        go_wp2
        refine bodyPost_ret (v := .tuple #[.agg #[.slice none 0 0, .slice none 0 0, .slice none 0 0], .int .i64 4]) ?_ rfl ⟨HBf.out, .inl ⟨4, by decide, rfl⟩⟩
        obtain ⟨z0, z1, z2⟩ := HZf.out
        simp only [results, Try.results28]
        go_simp
      · obtain ⟨k, rfl⟩ := Int.eq_ofNat_of_zero_le (show 0 ≤ ref by omega)
        have g1 : decide ((k : Int) < 0) = false := decide_eq_false c1
        by_cases c2 : r ≤ k
        · have g2 : decide (r ≤ (k : Int)) = true := decide_eq_true c2
          clear hs hsS hok
          go_wp2
          refine bodyPost_ret (v := .tuple #[.agg #[.slice none 0 0, .slice none 0 0, .slice none 0 0], .int .i64 4]) ?_ rfl ⟨HBf.out, .inl ⟨4, by decide, rfl⟩⟩
          obtain ⟨z0, z1, z2⟩ := HZf.out
          simp only [results, Try.results28]
          go_simp
        · have g2 : decide (r ≤ (k : Int)) = false := decide_eq_false c2
          by_cases c3 : to_ = -1 ∨ to_ ∈ begsL (spotsL a)
          · have hft := hok.fits
            have hr0 := hok.r0
            have hbb0 := hok.b0
            simp only [Spot.long] at hft hr0 hbb0
            obtain ⟨p1, hp1⟩ : ∃ p1, p1 = I + 1 := ⟨_, rfl⟩
            obtain ⟨p2, hp2⟩ : ∃ p2, p2 = p1 + k := ⟨_, rfl⟩
            have hp2n : p2 < n := by have := HAL.out; omega
            have w1' : IntKind.i64.wrap ((I : Int) + 1) = p1 := by rw [IntWalk.i64_in _ (by omega)]; omega
            have w2' : IntKind.i64.wrap ((p1 : Int) + k) = p2 := by rw [IntWalk.i64_in _ (by omega)]; omega
            have w1'' : (I : Int) + 1 = p1 := by omega
            have w2'' : (p1 : Int) + k = p2 := by omega
            have HS := Lib.hid hs
            have HP : Hid ((I : Int).toNat + 1 + k = p2) := by show _ = _; omega
            have HKR : Hid ((k : Int) < r) := by show _ < _; omega
            clear hs hsS hok hloc hft hr0 hbb0 hp1 hp2
            have HCo1 := Lib.hid (HCo.out _ ((hr.below hb04).more hb04.size) ((hg.below hb04).more hb04.size) ((hk.below hb04).more hb04.size))
            obtain ⟨s0, s1, s2⟩ := DS4.three
            rcases c3 with rfl | hB
            · have g3 : ((-1 : Int) != -1) = false := by decide
              go_wp2_with fail
              refine HCo1.out.mono ?_
              rintro e w5 ⟨hb5, A1, d1, A2, d2, A3, d3, rfl, hO⟩
              obtain ⟨q, e0, hqb⟩ := own_ptr hO.a.1 (by omega)
              subst e0
              have hws4 := hb04.size
              have hb05 := below_step hb04 hb5
              have DS5 := DS4.below hb5 DS4.lt
              have DR5 := DR4.below hb5 DR4.lt
              have f0 := DS5.frozen 0
              have f1 := DS5.frozen 1
              have f2 := DS5.frozen 2
              obtain ⟨u0, u1, u2⟩ := DS5.three
              have DS6 := DS5.store3 (.slice (some ⟨q, 0, none⟩) n d1) (.slice A2 gn d2) (.slice A3 kn d3)
              have DR6 := DR5.far3 (g' := w.heap.size) (by omega) (.slice (some ⟨q, 0, none⟩) n d1) (.slice A2 gn d2) (.slice A3 kn d3)
              have hb06 := below_block3 hb05 (Nat.le_refl _) (.slice (some ⟨q, 0, none⟩) n d1) (.slice A2 gn d2) (.slice A3 kn d3)
              have hO6 := (hO.store DS5 (by decide) (by decide) (.slice (some ⟨q, 0, none⟩) n d1) (.slice A2 gn d2) (.slice A3 kn d3)).mono (base := w.heap.size) hws4
              obtain ⟨t0, t1, t2⟩ := DS6.three
              obtain ⟨-, ⟨ov, hov⟩, hof⟩ := hO6.a.setElem hp2n (u := .int .u64 0) ⟨_, rfl, rfl⟩
              have hqS : some q ≠ some w.heap.size := fun e => own_blk hO6.a.1 DS6 (by decide) (by rw [← e]; rfl)
              have hqR : some q ≠ some (w.heap.size + 1) := fun e => own_blk hO6.a.1 DR6 (by decide) (by rw [← e]; rfl)
              have DS7 := DS6.far (p := ⟨q, p2, none⟩) (fun e => hqS (by rw [e])) (.int .u64 0)
              have DR7 := DR6.far (p := ⟨q, p2, none⟩) (fun e => hqR (by rw [e])) (.int .u64 0)
              have hb07 := hb06.setCell (p := ⟨q, p2, none⟩) (by dsimp only; omega) (.int .u64 0)
              have hO7 := hO6.setA hp2n (v := 0) rfl
              have f3 := DR7.frozen 0
              have f4 := DR7.frozen 1
              have f5 := DR7.frozen 2
              obtain ⟨v0, v1, v2⟩ := DS7.three
              obtain ⟨r0, r1, r2⟩ := DR7.three
              have HOf := Lib.hid (hO7.store DR7 (by decide) (by decide) (.slice (some ⟨q, 0, none⟩) n d1) (.slice A2 gn d2) (.slice A3 kn d3))
              have HBf2 := Lib.hid (below_block3 (g := w.heap.size + 1) hb07 (Nat.le_succ _) (.slice (some ⟨q, 0, none⟩) n d1) (.slice A2 gn d2) (.slice A3 kn d3))
              have HZf2 := Lib.hid (DR7.store3 (.slice (some ⟨q, 0, none⟩) n d1) (.slice A2 gn d2) (.slice A3 kn d3)).three
              have HWA : Hid (writeL a ⟨I, r, bb, t, f⟩ k (-1) = a.set p2 0) := by show _ = _; unfold writeL; rw [HP.out]; rfl
              have HWG : Hid (noteL g b I (-1) = b) := by show _ = _; unfold noteL; rw [if_neg (by omega)]
              clear hO hO6 hO7
              go_wp2
              refine bodyPost_ret (v := .tuple #[.agg #[.slice (some ⟨q, 0, none⟩) n d1, .slice A2 gn d2, .slice A3 kn d3], .int .i64 0]) ?_ rfl ⟨HBf2.out, .inr ⟨HT.out, ⟨I, r, bb, t, f⟩, k, HS.out, rfl, rfl, HKR.out, .inl rfl, some ⟨q, 0, none⟩, n, d1, A2, gn, d2, A3, kn, d3, rfl, by rw [HWA.out, HWG.out]; exact HOf.out⟩⟩
              obtain ⟨z0, z1, z2⟩ := HZf2.out
              simp only [results, Try.results28]
              go_simp
            · obtain ⟨hO0, hO2⟩ := HBn.out to_ hB
              obtain ⟨O, rfl⟩ := Int.eq_ofNat_of_zero_le hO0
              obtain ⟨V, hV⟩ : ∃ V, V = O + 1 := ⟨_, rfl⟩
              have wV : IntKind.i64.wrap ((O : Int) + 1) = V := by rw [IntWalk.i64_in _ (by omega)]; omega
              have wV2 : (O : Int) + 1 = V := by omega
              have HVW : Hid ((Lit.int .u64 (V : Int)).wf = true) := by show _ = _; simp [Lit.wf, IntKind.min, IntKind.max, IntKind.signed, IntKind.bits]; omega
              have wV3 : IntKind.u64.wrap (V : Int) = V := IntWalk.u64_in _ (by omega)
              have g3 : ((O : Int) != -1) = true := by simp <;> omega
              have g4 : tb = true := by rw [HTB.out]; exact decide_eq_true hB
              have HOB := Lib.hid hB
              have HOV := Lib.hid wV2
              have HIW : Hid ((Lit.int .i64 (I : Int)).wf = true) := h1
              subst g4
              clear hB hV hO0
              go_wp2_with fail
              refine HCo1.out.mono ?_
              rintro e w5 ⟨hb5, A1, d1, A2, d2, A3, d3, rfl, hO⟩
              obtain ⟨q, e0, hqb⟩ := own_ptr hO.a.1 (by omega)
              subst e0
              have hws4 := hb04.size
              have hb05 := below_step hb04 hb5
              have DS5 := DS4.below hb5 DS4.lt
              have DR5 := DR4.below hb5 DR4.lt
              have f0 := DS5.frozen 0
              have f1 := DS5.frozen 1
              have f2 := DS5.frozen 2
              obtain ⟨u0, u1, u2⟩ := DS5.three
              have DS6 := DS5.store3 (.slice (some ⟨q, 0, none⟩) n d1) (.slice A2 gn d2) (.slice A3 kn d3)
              have DR6 := DR5.far3 (g' := w.heap.size) (by omega) (.slice (some ⟨q, 0, none⟩) n d1) (.slice A2 gn d2) (.slice A3 kn d3)
              have hb06 := below_block3 hb05 (Nat.le_refl _) (.slice (some ⟨q, 0, none⟩) n d1) (.slice A2 gn d2) (.slice A3 kn d3)
              have hO6 := (hO.store DS5 (by decide) (by decide) (.slice (some ⟨q, 0, none⟩) n d1) (.slice A2 gn d2) (.slice A3 kn d3)).mono (base := w.heap.size) hws4
              obtain ⟨t0, t1, t2⟩ := DS6.three
              obtain ⟨-, ⟨ov, hov⟩, hof⟩ := hO6.a.setElem hp2n (u := .int .u64 V) ⟨_, rfl, HVW.out⟩
              have hqS : some q ≠ some w.heap.size := fun e => own_blk hO6.a.1 DS6 (by decide) (by rw [← e]; rfl)
              have hqR : some q ≠ some (w.heap.size + 1) := fun e => own_blk hO6.a.1 DR6 (by decide) (by rw [← e]; rfl)
              have DS7 := DS6.far (p := ⟨q, p2, none⟩) (fun e => hqS (by rw [e])) (.int .u64 V)
              have DR7 := DR6.far (p := ⟨q, p2, none⟩) (fun e => hqR (by rw [e])) (.int .u64 V)
              have hb07 := hb06.setCell (p := ⟨q, p2, none⟩) (by dsimp only; omega) (.int .u64 V)
              have hO7 := hO6.setA hp2n (v := V) HVW.out
              by_cases hxb : (I : Int) ∈ g
              · have HC1 := Lib.hid (contains_int A2 gn d2 _ g I true _ (Reads.of_own hO7.g.1) (by omega) (decide_eq_true hxb))
                by_cases hwh : (O : Int) ∈ g
                · have HC2 := Lib.hid (contains_int A2 gn d2 _ g O true _ (Reads.of_own hO7.g.1) (by omega) (decide_eq_true hwh))
                  have HNX := Lib.hid hwh
                  have f3 := DR7.frozen 0
                  have f4 := DR7.frozen 1
                  have f5 := DR7.frozen 2
                  obtain ⟨v0, v1, v2⟩ := DS7.three
                  obtain ⟨r0, r1, r2⟩ := DR7.three
                  have HOf := Lib.hid (hO7.store DR7 (by decide) (by decide) (.slice (some ⟨q, 0, none⟩) n d1) (.slice A2 gn d2) (.slice A3 kn d3))
                  have HBf2 := Lib.hid (below_block3 (g := w.heap.size + 1) hb07 (Nat.le_succ _) (.slice (some ⟨q, 0, none⟩) n d1) (.slice A2 gn d2) (.slice A3 kn d3))
                  have HZf2 := Lib.hid (DR7.store3 (.slice (some ⟨q, 0, none⟩) n d1) (.slice A2 gn d2) (.slice A3 kn d3)).three
                  have HWA : Hid (writeL a ⟨I, r, bb, t, f⟩ k O = a.set p2 V) := by show _ = _; unfold writeL; rw [HP.out, HOV.out]
                  have HWG : Hid (noteL g b I O = b) := by show _ = _; unfold noteL; rw [if_neg (fun h => h.2.2 HNX.out)]
                  clear hO hO6 hO7 hxb hwh
                  go_wp2_with (go_at_call 20; (first | (with_reducible refine HC1.out.mono ?_) | (with_reducible refine HC2.out.mono ?_)); rintro e w' ⟨rfl, rfl⟩)
                  refine bodyPost_ret (v := .tuple #[.agg #[.slice (some ⟨q, 0, none⟩) n d1, .slice A2 gn d2, .slice A3 kn d3], .int .i64 0]) ?_ rfl ⟨HBf2.out, .inr ⟨HT.out, ⟨I, r, bb, t, f⟩, k, HS.out, rfl, rfl, HKR.out, (.inr HOB.out), some ⟨q, 0, none⟩, n, d1, A2, gn, d2, A3, kn, d3, rfl, by rw [HWA.out, HWG.out]; exact HOf.out⟩⟩
                  obtain ⟨z0, z1, z2⟩ := HZf2.out
                  simp only [results, Try.results28]
                  go_simp
                · have HC2 := Lib.hid (contains_int A2 gn d2 _ g O false _ (Reads.of_own hO7.g.1) (by omega) (decide_eq_false hwh))
                  obtain ⟨v0, v1, v2⟩ := DS7.three
                  have HPu := Lib.hid (youngPut_any w.heap.size A3 kn d3 b I _ hO7.b hb07.size (by omega) HT.out.nr HIW.out)
                  have HWG : Hid (noteL g b I O = putL b I) := by show _ = _; unfold noteL; rw [if_pos ⟨by omega, hxb, hwh⟩]
                  have HO7 := Lib.hid hO7
                  clear hO hO6 hO7 hxb hwh
                  go_wp2_with (first
                    | (go_at_call 20; (first | (with_reducible refine HC1.out.mono ?_) | (with_reducible refine HC2.out.mono ?_)); rintro e w' ⟨rfl, rfl⟩)
                    | fail)
                  refine HPu.out.mono ?_
                  rintro e w9 ⟨A9, d9, rfl, hp9, -, hgr9, hbl9⟩
                  have hO9 := HO7.out.putB hp9 hgr9 hbl9
                  have DS9 := DS7.grown hgr9 (own_blk HO7.out.b.1 DS7 (by decide)).symm
                  have DR9 := DR7.grown hgr9 (own_blk HO7.out.b.1 DR7 (by decide)).symm
                  have hb09 := hb07.grown hgr9 hb07.size (fun k hk => (HO7.out.b.1.lt k hk).1)
                  generalize hgz : (putL b I).length = gz at *
                  have hOz := hO9.set DS9 (by decide) (by decide) 2 (.slice A9 gz d9)
                  have DSz : Blk (w9.setCell ⟨w.heap.size, 2, none⟩ (.slice A9 gz d9)) w.heap.size 52 #[.slice (some ⟨q, 0, none⟩) n d1, .slice A2 gn d2, .slice A9 gz d9] := by simpa using DS9.set_ 2 (.slice A9 gz d9)
                  have DRz := DR9.far (p := ⟨w.heap.size, 2, none⟩) (by dsimp only; omega) (.slice A9 gz d9)
                  have hbz := hb09.setCell (p := ⟨w.heap.size, 2, none⟩) (Nat.le_refl _) (.slice A9 gz d9)
                  have f9 := DS9.frozen 2
                  have v9 := DS9.three.2.2
                  have f3 := DRz.frozen 0
                  have f4 := DRz.frozen 1
                  have f5 := DRz.frozen 2
                  obtain ⟨v0, v1, v2⟩ := DSz.three
                  obtain ⟨r0, r1, r2⟩ := DRz.three
                  have HOf := Lib.hid (hOz.store DRz (by decide) (by decide) (.slice (some ⟨q, 0, none⟩) n d1) (.slice A2 gn d2) (.slice A9 gz d9))
                  have HBf2 := Lib.hid (below_block3 (g := w.heap.size + 1) hbz (Nat.le_succ _) (.slice (some ⟨q, 0, none⟩) n d1) (.slice A2 gn d2) (.slice A9 gz d9))
                  have HZf2 := Lib.hid (DRz.store3 (.slice (some ⟨q, 0, none⟩) n d1) (.slice A2 gn d2) (.slice A9 gz d9)).three
                  have HWA : Hid (writeL a ⟨I, r, bb, t, f⟩ k O = a.set p2 V) := by show _ = _; unfold writeL; rw [HP.out, HOV.out]
                  clear hO9 hOz hp9 hgr9 hbl9 HPu hgz
                  go_wp2
                  refine bodyPost_ret (v := .tuple #[.agg #[.slice (some ⟨q, 0, none⟩) n d1, .slice A2 gn d2, .slice A9 gz d9], .int .i64 0]) ?_ rfl ⟨HBf2.out, .inr ⟨HT.out, ⟨I, r, bb, t, f⟩, k, HS.out, rfl, rfl, HKR.out, (.inr HOB.out), some ⟨q, 0, none⟩, n, d1, A2, gn, d2, A9, gz, d9, rfl, by rw [HWA.out, HWG.out]; exact HOf.out⟩⟩
                  obtain ⟨z0, z1, z2⟩ := HZf2.out
                  simp only [results, Try.results28]
                  go_simp
              · have HC1 := Lib.hid (contains_int A2 gn d2 _ g I false _ (Reads.of_own hO7.g.1) (by omega) (decide_eq_false hxb))
                have HNX := Lib.hid hxb
                have f3 := DR7.frozen 0
                have f4 := DR7.frozen 1
                have f5 := DR7.frozen 2
                obtain ⟨v0, v1, v2⟩ := DS7.three
                obtain ⟨r0, r1, r2⟩ := DR7.three
                have HOf := Lib.hid (hO7.store DR7 (by decide) (by decide) (.slice (some ⟨q, 0, none⟩) n d1) (.slice A2 gn d2) (.slice A3 kn d3))
                have HBf2 := Lib.hid (below_block3 (g := w.heap.size + 1) hb07 (Nat.le_succ _) (.slice (some ⟨q, 0, none⟩) n d1) (.slice A2 gn d2) (.slice A3 kn d3))
                have HZf2 := Lib.hid (DR7.store3 (.slice (some ⟨q, 0, none⟩) n d1) (.slice A2 gn d2) (.slice A3 kn d3)).three
                have HWA : Hid (writeL a ⟨I, r, bb, t, f⟩ k O = a.set p2 V) := by show _ = _; unfold writeL; rw [HP.out, HOV.out]
                have HWG : Hid (noteL g b I O = b) := by show _ = _; unfold noteL; rw [if_neg (fun h => HNX.out h.2.1)]
                clear hO hO6 hO7 hxb
                go_wp2_with (go_at_call 20; (with_reducible refine HC1.out.mono ?_); rintro e w' ⟨rfl, rfl⟩)
                refine bodyPost_ret (v := .tuple #[.agg #[.slice (some ⟨q, 0, none⟩) n d1, .slice A2 gn d2, .slice A3 kn d3], .int .i64 0]) ?_ rfl ⟨HBf2.out, .inr ⟨HT.out, ⟨I, r, bb, t, f⟩, k, HS.out, rfl, rfl, HKR.out, (.inr HOB.out), some ⟨q, 0, none⟩, n, d1, A2, gn, d2, A3, kn, d3, rfl, by rw [HWA.out, HWG.out]; exact HOf.out⟩⟩
                obtain ⟨z0, z1, z2⟩ := HZf2.out
                simp only [results, Try.results28]
                go_simp
          · have g3 : (to_ != -1) = true := by simp; exact fun h => c3 (.inl h)
            have g4 : tb = false := by rw [HTB.out]; exact decide_eq_false (fun h => c3 (.inr h))
            subst g4
            clear hs hsS hok
            go_wp2
            refine bodyPost_ret (v := .tuple #[.agg #[.slice none 0 0, .slice none 0 0, .slice none 0 0], .int .i64 4]) ?_ rfl ⟨HBf.out, .inl ⟨4, by decide, rfl⟩⟩
            obtain ⟨z0, z1, z2⟩ := HZf.out
            simp only [results, Try.results28]
            go_simp
    · rw [decide_eq_false hm] at lookA
      clear hm hbnd
      go_wp2
      refine bodyPost_ret (v := .tuple #[.agg #[.slice none 0 0, .slice none 0 0, .slice none 0 0], .int .i64 5]) ?_ rfl ⟨HBf.out, .inl ⟨5, by decide, rfl⟩⟩
      obtain ⟨z0, z1, z2⟩ := HZf.out
      simp only [results, Try.results28]
      go_simp
  · clear hgx hkx ha hr hg hk
    go_enter Try.func28, Try.ntmps28
    go_wp2_with fail
    refine HC.out.mono ?_
    rintro e w1 ⟨⟨E, rfl, hE⟩, hb1⟩
    have hE0 : E ≠ 0 := fun h => hT (hE.1 h)
    have hE1 : (E != 0) = true := by simpa using hE0
    have HE := Lib.hid hE0
    have DR1 := DR.below hb1 DR.lt
    have f0 := DR1.frozen 0
    have f1 := DR1.frozen 1
    have f2 := DR1.frozen 2
    obtain ⟨r0, r1, r2⟩ := DR1.three
    have hbb := below_step hb0 hb1
    clear hE hE0 hb1
    go_wp2
    refine bodyPost_ret (v := .tuple #[.agg #[.slice none 0 0, .slice none 0 0, .slice none 0 0], .int .i64 E]) ?_ rfl ⟨below_block3 hbb (Nat.le_succ _) _ _ _, .inl ⟨E, HE.out, rfl⟩⟩
    obtain ⟨z0, z1, z2⟩ := (DR1.store3 (.slice none 0 0) (.slice none 0 0) (.slice none 0 0)).three
    simp only [results, Try.results28]
    go_simp
def AgeWOut (a g b : List Int) (at_ ref to_ : Int) (base : Nat) (w' : World) (A1 : Option Addr) (n1 c1 : Nat) (A2 : Option Addr) (n2 c2 : Nat) (A3 : Option Addr) (n3 c3 : Nat) (E : Int) : Prop :=
  E ≠ 0 ∨ (E = 0 ∧ AgesOk a g b ∧ ∃ (s : Spot) (k : Nat), spotAt (spotsL a) s.loc = some s ∧ at_ = s.loc ∧ ref = k ∧ (k : Int) < s.r ∧ (to_ = -1 ∨ to_ ∈ begsL (spotsL a)) ∧ TriO w' base A1 n1 c1 A2 n2 c2 A3 n3 c3 (writeL a s k to_) g (noteL g b s.loc to_))
theorem AgeWOut.imp {a g b : List Int} {at_ ref to_ : Int} {base base' : Nat} {w w' : World} {A1 : Option Addr} {n1 c1 : Nat} {A2 : Option Addr} {n2 c2 : Nat} {A3 : Option Addr} {n3 c3 : Nat} {E : Int}
    (h : AgeWOut a g b at_ ref to_ base w A1 n1 c1 A2 n2 c2 A3 n3 c3 E) (hf : ∀ a' g', TriO w base A1 n1 c1 A2 n2 c2 A3 n3 c3 a' g g' → TriO w' base' A1 n1 c1 A2 n2 c2 A3 n3 c3 a' g g') : AgeWOut a g b at_ ref to_ base' w' A1 n1 c1 A2 n2 c2 A3 n3 c3 E := by
  rcases h with h | ⟨h0, hT, s, k, h1, h2, h3, h4, h5, hO⟩
  · exact .inl h
  · exact .inr ⟨h0, hT, s, k, h1, h2, h3, h4, h5, hf _ _ hO⟩
theorem AgeWRet.named {a g b : List Int} {at_ ref to_ : Int} {base : Nat} {e : Ending} {w' : World} (h : AgeWRet a g b at_ ref to_ base e w') :
    ∃ (A1 : Option Addr) (n1 c1 : Nat) (A2 : Option Addr) (n2 c2 : Nat) (A3 : Option Addr) (n3 c3 : Nat) (E : Int), e = .returned (.tuple #[.agg #[.slice A1 n1 c1, .slice A2 n2 c2, .slice A3 n3 c3], .int .i64 E]) ∧ AgeWOut a g b at_ ref to_ base w' A1 n1 c1 A2 n2 c2 A3 n3 c3 E := by
  rcases h with ⟨E, hE, rfl⟩ | ⟨hT, s, k, h1, h2, h3, h4, h5, A1, n1, c1, A2, n2, c2, A3, n3, c3, rfl, hO⟩
  · exact ⟨none, 0, 0, none, 0, 0, none, 0, 0, E, rfl, .inl hE⟩
  · exact ⟨A1, n1, c1, A2, n2, c2, A3, n3, c3, 0, rfl, .inr ⟨rfl, hT, s, k, h1, h2, h3, h4, h5, hO⟩⟩
end Go.Proofs.Ytgkoaambdejkdaa

namespace Go.Proofs.Ytgkoaambdejkdaa
open Go.RowKit
theorem count_set (l : List Bool) (i : Nat) (h : l[i]? = some false) : (l.set i true).count false + 1 = l.count false := by
  induction l generalizing i with
  | nil => simp at h
  | cons b t ih =>
    cases i with
    | zero =>
      simp only [List.getElem?_cons_zero, Option.some.injEq] at h
      subst h
      simp [List.count_cons]
    | succ i =>
      simp only [List.getElem?_cons_succ] at h
      have := ih i h
      simp only [List.set_cons_succ, List.count_cons]
      omega
theorem wpAny_inv {P : Program} {md : Region.Mode} {ops : Array Oper} {Q : Exit → Act → World → Prop} (I : Array Bool → Act → World → Prop)
    (hend : ∀ listed a w, I listed a w → Region.ready md ops listed = [] → Q .normal a w)
    (hstep : ∀ listed a w i, I listed a w → i ∈ Region.ready md ops listed → wpOp P ops Q i (I (listed.setIfInBounds i true)) a w) :
    ∀ (fuel : Nat) (listed : Array Bool) (a : Act) (w : World), I listed a w → listed.toList.count false ≤ fuel → wpAny P md ops Q fuel listed a w := by
  intro fuel
  induction fuel with
  | zero =>
    intro listed a w h hc
    have hr : Region.ready md ops listed = [] := by
      cases hr : Region.ready md ops listed with
      | nil => rfl
      | cons i t =>
        have hi := (mem_ready.1 (show i ∈ Region.ready md ops listed by rw [hr]; simp)).1
        have h1 : listed.toList[i]? = some false := by
          rcases Nat.lt_or_ge i listed.size with h' | h'
          · simp [h'] at hi ⊢; exact hi
          · simp [Array.getElem?_eq_none h'] at hi
        have := count_set _ _ h1
        omega
    exact ⟨hr, hend _ _ _ h hr⟩
  | succ fuel ih =>
    intro listed a w h hc
    refine ⟨fun hr => hend _ _ _ h hr, fun i hi => ?_⟩
    refine wpOp_mono (fun a' w' h' => ih _ _ _ h' ?_) (hstep _ _ _ _ h hi)
    have hi2 := (mem_ready.1 hi).1
    have h1 : listed.toList[i]? = some false := by
      rcases Nat.lt_or_ge i listed.size with h' | h'
      · simp [h'] at hi2 ⊢; exact hi2
      · simp [Array.getElem?_eq_none h'] at hi2
    have := count_set _ _ h1
    rw [Array.toList_setIfInBounds]
    omega
theorem wpAny_inv2 {P : Program} {md : Region.Mode} {ops : Array Oper} {Q : Exit → Act → World → Prop} (I : Act → Array Bool → Act → World → Prop) (a0 : Act) (fuel : Nat) (listed : Array Bool) (w : World)
    (hend : ∀ listed a w, I a0 listed a w → Region.ready md ops listed = [] → Q .normal a w)
    (hstep : ∀ listed a w i, I a0 listed a w → i ∈ Region.ready md ops listed → wpOp P ops Q i (I a0 (listed.setIfInBounds i true)) a w)
    (h : I a0 listed a0 w) (hc : listed.toList.count false ≤ fuel) : wpAny P md ops Q fuel listed a0 w := wpAny_inv (I a0) hend hstep fuel listed a0 w h hc
theorem put_self (s : Act) (d : Nat) : s.put (some d) (s.tmps.getD d undef) = s := by
  unfold Act.put
  dsimp only
  have h : s.tmps.setIfInBounds d (s.tmps.getD d undef) = s.tmps := by
    apply Array.ext_getElem?
    intro i
    by_cases hi : i = d
    · subst hi
      rcases Nat.lt_or_ge i s.tmps.size with h' | h'
      · simp [h']
      · simp [h']
    · rw [Array.getElem?_setIfInBounds_ne (Ne.symm hi)]
  rw [h]
def onto (K : Act → World → Prop) (Q : Exit → Act → World → Prop) : Exit → Act → World → Prop
  | .normal, a, w => K a w
  | e, a, w => Q e a w
theorem wpOp_list {P : Program} {ops : Array Oper} {Q : Exit → Act → World → Prop} {K : Act → World → Prop} {i : Nat} {a : Act} {w : World} {o : Oper} (hi : ops[i]? = some o) (h : wpList P ops (onto K Q) [o] a w) : wpOp P ops Q i K a w := by
  unfold wpOp
  rw [hi]
  unfold wpList at h
  dsimp only
  split
  · rename_i hw
    rw [if_pos hw] at h
    rcases h with h | h
    · left
      unfold Oper.wp at *
      generalize (execOp a.eval o).run P w = r at *
      cases r with
      | ok n w' => cases n <;> exact h
      | halt x w' => cases x <;> exact h
    · exact .inr h
  · rename_i hw
    rw [if_neg hw] at h
    exact h
def Dn (l : Array Bool) (j : Nat) : Prop := l.getD j false = true
theorem Dn.set {l : Array Bool} {i j : Nat} (hi : i < l.size) : Dn (l.setIfInBounds i true) j ↔ j = i ∨ Dn l j := by
  unfold Dn
  by_cases h : j = i
  · subst h
    simp [hi]
  · simp only [h, false_or]
    rw [getD_set_ne false (Ne.symm h)]
theorem Dn.none {n j : Nat} : ¬ Dn (Array.replicate n false) j := by
  unfold Dn
  simp only [Array.getD_eq_getD_getElem?, Array.getElem?_replicate]
  split <;> simp
theorem Dn.of_ready {md : Region.Mode} {ops : Array Oper} {l : Array Bool} {i : Nat} (h : i ∈ Region.ready md ops l) (hs : l.size = ops.size) : i < l.size ∧ ¬ Dn l i ∧ ∃ o, ops[i]? = some o ∧ ∀ e ∈ o.after, Region.binds md e = true → Dn l e.on := by
  obtain ⟨h1, o, ho, h2⟩ := mem_ready.1 h
  have hl : i < l.size := by rw [hs]; exact (Array.getElem?_eq_some_iff.1 ho).1
  refine ⟨hl, ?_, o, ho, fun e he hb => h2 e he hb⟩
  unfold Dn
  simp [hl] at h1 ⊢
  exact h1
def Closed (md : Region.Mode) (ops : Array Oper) (l : Array Bool) : Prop := ∀ i o, ops[i]? = some o → Dn l i → ∀ e ∈ o.after, Region.binds md e = true → Dn l e.on
theorem wpAny_inv3 {P : Program} {md : Region.Mode} {ops : Array Oper} {Q : Exit → Act → World → Prop} (I : Act → Array Bool → Act → World → Prop) (a0 : Act) (w : World)
    (hend : ∀ l a w, I a0 l a w → l.size = ops.size → Region.ready md ops l = [] → Q .normal a w)
    (hstep : ∀ l a w i o, I a0 l a w → Closed md ops l → i < l.size → ¬ Dn l i → ops[i]? = some o → (∀ e ∈ o.after, Region.binds md e = true → Dn l e.on) → wpOp P ops Q i (I a0 (l.setIfInBounds i true)) a w)
    (h : I a0 (Array.replicate ops.size false) a0 w) : wpAny P md ops Q ops.size (Array.replicate ops.size false) a0 w := by
  refine wpAny_inv2 (I := fun a0 l a w => I a0 l a w ∧ Closed md ops l ∧ l.size = ops.size) a0 _ _ w ?_ ?_ ⟨h, fun i o _ hd => absurd hd Dn.none, by simp⟩ ?_
  · intro l a w hI hr
    exact hend l a w hI.1 hI.2.2 hr
  · intro l a w i hI hi
    obtain ⟨h1, h2, o, h3, h4⟩ := Dn.of_ready hi hI.2.2
    refine wpOp_mono (fun a' w' h' => ⟨h', fun j oj hj hd e he hb => ?_, by rw [Array.size_setIfInBounds]; exact hI.2.2⟩) (hstep l a w i o hI.1 hI.2.1 h1 h2 h3 h4)
    rcases (Dn.set h1).1 hd with rfl | hd
    · obtain rfl := Option.some.inj (h3.symm.trans hj)
      exact (Dn.set h1).2 (.inr (h4 e he hb))
    · exact (Dn.set h1).2 (.inr (hI.2.1 j oj hj hd e he hb))
  · rw [Array.toList_replicate, List.count_replicate]
    simp
theorem pre_dn {md : Region.Mode} {ops : Array Oper} {l : Array Bool} {i : Nat} {o : Oper} (ho : ops[i]? = some o) (haf : ∀ e ∈ o.after, Region.binds md e = true → Dn l e.on) (j : Nat) (hx : (((ops[i]?).map fun o => o.after.toList.any fun e => e.on == j && Region.binds md e).getD false) = true) : Dn l j := by
  rw [ho] at hx
  simp only [Option.map_some, Option.getD_some] at hx
  obtain ⟨e, he, h⟩ := List.any_eq_true.1 hx
  simp only [Bool.and_eq_true, beq_iff_eq] at h
  have := haf e (Array.mem_toList_iff.1 he) h.2
  rwa [h.1] at this
theorem Closed.dn {md : Region.Mode} {ops : Array Oper} {l : Array Bool} {i : Nat} (h : Closed md ops l) (hd : Dn l i) (j : Nat) (hx : (((ops[i]?).map fun o => o.after.toList.any fun e => e.on == j && Region.binds md e).getD false) = true) : Dn l j := by
  cases ho : ops[i]? with
  | none =>
    rw [ho] at hx
    cases hx
  | some o => exact pre_dn ho (h i o ho hd) j hx
theorem onto_normal {K : Act → World → Prop} {Q : Exit → Act → World → Prop} {a : Act} {w : World} (h : K a w) : onto K Q .normal a w := h
end Go.Proofs.Ytgkoaambdejkdaa

namespace Go.Proofs.Ytgkoaambdejkdaa
open Go.RowKit
def Bx (base : Nat) (t : TypeId) (W : World) (v u : Value) : Prop := ∃ p, v = .pointer (some ⟨p, 0, none⟩) ∧ base ≤ p ∧ Blk W p t #[u]
theorem Bx.below {base : Nat} {t : TypeId} {W W' : World} {v u : Value} (h : Bx base t W v u) (hb : Below W.heap.size W W') : Bx base t W' v u := by
  obtain ⟨p, h1, h2, h3⟩ := h
  exact ⟨p, h1, h2, h3.below hb h3.lt⟩
theorem Bx.ne {base : Nat} {t : TypeId} {W : World} {v u : Value} (h : Bx base t W v u) : v ≠ .pointer (some ⟨W.heap.size, 0, none⟩) := by
  obtain ⟨p, rfl, h2, h3⟩ := h
  intro e
  have := h3.lt
  injection e with e
  injection e with e
  injection e with e
  omega
theorem Bx.set_ {base : Nat} {t : TypeId} {W : World} {p : Nat} {u x : Value} (h : Bx base t W (.pointer (some ⟨p, 0, none⟩)) u) : Bx base t (W.setCell ⟨p, 0, none⟩ x) (.pointer (some ⟨p, 0, none⟩)) x := by
  obtain ⟨q, h1, h2, h3⟩ := h
  injection h1 with h1
  injection h1 with h1
  injection h1 with h1
  subst h1
  exact ⟨p, rfl, h2, by simpa using h3.set_ 0 x⟩
theorem Bx.far {base : Nat} {t : TypeId} {W : World} {p : Nat} {v u x : Value} (h : Bx base t W v u) (hne : v ≠ .pointer (some ⟨p, 0, none⟩)) : Bx base t (W.setCell ⟨p, 0, none⟩ x) v u := by
  obtain ⟨q, rfl, h2, h3⟩ := h
  refine ⟨q, rfl, h2, h3.far (p := ⟨p, 0, none⟩) (fun e => hne (by rw [e])) x⟩
def Cl (base : Nat) (e : TypeId) (n : Nat) (xs : List Value) (W : World) (v : Value) : Prop := ∃ A c, v = .slice A n c ∧ W.ownsRow base e 1 (.slice A n c) n xs
theorem Cl.below {base n : Nat} {e : TypeId} {xs : List Value} {W W' : World} {v : Value} (h : Cl base e n xs W v) (hb : Below W.heap.size W W') : Cl base e n xs W' v := by
  obtain ⟨A, c, h1, h2⟩ := h
  exact ⟨A, c, h1, own_below h2 hb⟩
theorem Cl.set_ {base n p : Nat} {e t : TypeId} {xs : List Value} {W : World} {v u x : Value} (h : Cl base e n xs W v) (hB : Blk W p t #[u]) (he : e ≠ t) : Cl base e n xs (W.setCell ⟨p, 0, none⟩ x) v := by
  obtain ⟨A, c, h1, h2⟩ := h
  exact ⟨A, c, h1, own_apart (p := ⟨p, 0, none⟩) h2 (own_blk h2 hB he) x⟩
structure R3 (w0 : World) (pb : Nat) (A : Option Addr) (n c : Nat) (G : Option Addr) (gn gc : Nat) (K : Option Addr) (kn kc : Nat) (a g b : List Int) (l : Array Bool) (v36 v37 v38 v39 v40 v41 v42 v43 v44 v11 v12 v13 : Value) (W : World) : Prop where
  sz : l.size = 15
  bw : Below w0.heap.size w0 W
  late : Dn l 12 ∨ Dn l 13 ∨ Dn l 14 → ∀ j, j < 12 → Dn l j
  d0 : Dn l 0 → v36 = .pointer (some ⟨pb, 0, none⟩)
  d1 : Dn l 1 → v37 = .slice A n c
  d2 : Dn l 2 → Cl w0.heap.size 43 n (a.map (.int .u64)) W v38
  d3 : Dn l 3 → v39 = .pointer (some ⟨pb, 1, none⟩)
  d4 : Dn l 4 → v40 = .slice G gn gc
  d5 : Dn l 5 → Cl w0.heap.size 3 gn (g.map (.int .i64)) W v41
  d6 : Dn l 6 → v42 = .pointer (some ⟨pb, 2, none⟩)
  d7 : Dn l 7 → v43 = .slice K kn kc
  d8 : Dn l 8 → Cl w0.heap.size 3 kn (b.map (.int .i64)) W v44
  d9 : Dn l 9 → ∃ u, Bx w0.heap.size 22 W v11 u ∧ (Dn l 12 → u = v38)
  d10 : Dn l 10 → ∃ u, Bx w0.heap.size 23 W v12 u ∧ (Dn l 13 → u = v41)
  d11 : Dn l 11 → ∃ u, Bx w0.heap.size 23 W v13 u ∧ (Dn l 14 → u = v44)
  ne : Dn l 10 → Dn l 11 → v12 ≠ v13
section
variable {w0 W W' : World} {pb : Nat} {A : Option Addr} {n c : Nat} {G : Option Addr} {gn gc : Nat} {K : Option Addr} {kn kc : Nat} {a g b : List Int} {l : Array Bool} {v36 v37 v38 v39 v40 v41 v42 v43 v44 v11 v12 v13 : Value}
theorem Bx.kinds {base base' : Nat} {t t' : TypeId} {v v' u u' : Value} (h : Bx base t W v u) (h' : Bx base' t' W v' u') (ht : t ≠ t') : v ≠ v' := by
  obtain ⟨p, rfl, -, h3⟩ := h
  obtain ⟨q, rfl, -, h6⟩ := h'
  intro e
  injection e with e
  injection e with e
  injection e with e
  subst e
  unfold Blk at h3 h6
  rw [h3] at h6
  simp only [Option.some.injEq, Obj.cells.injEq] at h6
  exact ht h6.2.1
theorem R3.start (h : Below w0.heap.size w0 W) : R3 w0 pb A n c G gn gc K kn kc a g b (Array.replicate 15 false) v36 v37 v38 v39 v40 v41 v42 v43 v44 v11 v12 v13 W :=
  ⟨by simp, h, fun hl => by rcases hl with h | h | h <;> exact absurd h Dn.none, fun h => absurd h Dn.none, fun h => absurd h Dn.none, fun h => absurd h Dn.none, fun h => absurd h Dn.none, fun h => absurd h Dn.none, fun h => absurd h Dn.none, fun h => absurd h Dn.none, fun h => absurd h Dn.none, fun h => absurd h Dn.none, fun h => absurd h Dn.none, fun h => absurd h Dn.none, fun h => absurd h Dn.none, fun h => absurd h Dn.none⟩
theorem R3.s0 {x : Value} (h : R3 w0 pb A n c G gn gc K kn kc a g b l v36 v37 v38 v39 v40 v41 v42 v43 v44 v11 v12 v13 W) (hu : ¬ Dn l 0) (hb : Below W.heap.size W W') (hv : x = .pointer (some ⟨pb, 0, none⟩)) : R3 w0 pb A n c G gn gc K kn kc a g b (l.setIfInBounds 0 true) x v37 v38 v39 v40 v41 v42 v43 v44 v11 v12 v13 W' := by
  have hs : 0 < l.size := by rw [h.sz]; decide
  have hnl : ¬ (Dn l 12 ∨ Dn l 13 ∨ Dn l 14) := fun hl => hu (h.late hl 0 (by decide))
  have e : ∀ {j}, j ≠ 0 → Dn (l.setIfInBounds 0 true) j → Dn l j := fun hj hd => ((Dn.set hs).1 hd).resolve_left hj
  have hnl' : ¬ (Dn (l.setIfInBounds 0 true) 12 ∨ Dn (l.setIfInBounds 0 true) 13 ∨ Dn (l.setIfInBounds 0 true) 14) := fun hl => hnl (hl.imp (e (by decide)) (Or.imp (e (by decide)) (e (by decide))))
  exact ⟨by rw [Array.size_setIfInBounds]; exact h.sz, below_step h.bw hb, fun hl => absurd hl hnl', fun _ => hv, fun hd => h.d1 (e (by decide) hd), fun hd => (h.d2 (e (by decide) hd)).below hb, fun hd => h.d3 (e (by decide) hd), fun hd => h.d4 (e (by decide) hd), fun hd => (h.d5 (e (by decide) hd)).below hb, fun hd => h.d6 (e (by decide) hd), fun hd => h.d7 (e (by decide) hd), fun hd => (h.d8 (e (by decide) hd)).below hb, fun hd => by obtain ⟨u, h1, -⟩ := h.d9 (e (by decide) hd); exact ⟨u, h1.below hb, fun h12 => absurd (Or.inl h12) hnl'⟩, fun hd => by obtain ⟨u, h1, -⟩ := h.d10 (e (by decide) hd); exact ⟨u, h1.below hb, fun h13 => absurd (Or.inr (Or.inl h13)) hnl'⟩, fun hd => by obtain ⟨u, h1, -⟩ := h.d11 (e (by decide) hd); exact ⟨u, h1.below hb, fun h14 => absurd (Or.inr (Or.inr h14)) hnl'⟩, fun h1 h2 => h.ne (e (by decide) h1) (e (by decide) h2)⟩
theorem R3.s1 {x : Value} (h : R3 w0 pb A n c G gn gc K kn kc a g b l v36 v37 v38 v39 v40 v41 v42 v43 v44 v11 v12 v13 W) (hu : ¬ Dn l 1) (hb : Below W.heap.size W W') (hv : x = .slice A n c) : R3 w0 pb A n c G gn gc K kn kc a g b (l.setIfInBounds 1 true) v36 x v38 v39 v40 v41 v42 v43 v44 v11 v12 v13 W' := by
  have hs : 1 < l.size := by rw [h.sz]; decide
  have hnl : ¬ (Dn l 12 ∨ Dn l 13 ∨ Dn l 14) := fun hl => hu (h.late hl 1 (by decide))
  have e : ∀ {j}, j ≠ 1 → Dn (l.setIfInBounds 1 true) j → Dn l j := fun hj hd => ((Dn.set hs).1 hd).resolve_left hj
  have hnl' : ¬ (Dn (l.setIfInBounds 1 true) 12 ∨ Dn (l.setIfInBounds 1 true) 13 ∨ Dn (l.setIfInBounds 1 true) 14) := fun hl => hnl (hl.imp (e (by decide)) (Or.imp (e (by decide)) (e (by decide))))
  exact ⟨by rw [Array.size_setIfInBounds]; exact h.sz, below_step h.bw hb, fun hl => absurd hl hnl', fun hd => h.d0 (e (by decide) hd), fun _ => hv, fun hd => (h.d2 (e (by decide) hd)).below hb, fun hd => h.d3 (e (by decide) hd), fun hd => h.d4 (e (by decide) hd), fun hd => (h.d5 (e (by decide) hd)).below hb, fun hd => h.d6 (e (by decide) hd), fun hd => h.d7 (e (by decide) hd), fun hd => (h.d8 (e (by decide) hd)).below hb, fun hd => by obtain ⟨u, h1, -⟩ := h.d9 (e (by decide) hd); exact ⟨u, h1.below hb, fun h12 => absurd (Or.inl h12) hnl'⟩, fun hd => by obtain ⟨u, h1, -⟩ := h.d10 (e (by decide) hd); exact ⟨u, h1.below hb, fun h13 => absurd (Or.inr (Or.inl h13)) hnl'⟩, fun hd => by obtain ⟨u, h1, -⟩ := h.d11 (e (by decide) hd); exact ⟨u, h1.below hb, fun h14 => absurd (Or.inr (Or.inr h14)) hnl'⟩, fun h1 h2 => h.ne (e (by decide) h1) (e (by decide) h2)⟩
theorem R3.s2 {x : Value} (h : R3 w0 pb A n c G gn gc K kn kc a g b l v36 v37 v38 v39 v40 v41 v42 v43 v44 v11 v12 v13 W) (hu : ¬ Dn l 2) (hb : Below W.heap.size W W') (hv : Cl w0.heap.size 43 n (a.map (.int .u64)) W' x) : R3 w0 pb A n c G gn gc K kn kc a g b (l.setIfInBounds 2 true) v36 v37 x v39 v40 v41 v42 v43 v44 v11 v12 v13 W' := by
  have hs : 2 < l.size := by rw [h.sz]; decide
  have hnl : ¬ (Dn l 12 ∨ Dn l 13 ∨ Dn l 14) := fun hl => hu (h.late hl 2 (by decide))
  have e : ∀ {j}, j ≠ 2 → Dn (l.setIfInBounds 2 true) j → Dn l j := fun hj hd => ((Dn.set hs).1 hd).resolve_left hj
  have hnl' : ¬ (Dn (l.setIfInBounds 2 true) 12 ∨ Dn (l.setIfInBounds 2 true) 13 ∨ Dn (l.setIfInBounds 2 true) 14) := fun hl => hnl (hl.imp (e (by decide)) (Or.imp (e (by decide)) (e (by decide))))
  exact ⟨by rw [Array.size_setIfInBounds]; exact h.sz, below_step h.bw hb, fun hl => absurd hl hnl', fun hd => h.d0 (e (by decide) hd), fun hd => h.d1 (e (by decide) hd), fun _ => hv, fun hd => h.d3 (e (by decide) hd), fun hd => h.d4 (e (by decide) hd), fun hd => (h.d5 (e (by decide) hd)).below hb, fun hd => h.d6 (e (by decide) hd), fun hd => h.d7 (e (by decide) hd), fun hd => (h.d8 (e (by decide) hd)).below hb, fun hd => by obtain ⟨u, h1, -⟩ := h.d9 (e (by decide) hd); exact ⟨u, h1.below hb, fun h12 => absurd (Or.inl h12) hnl'⟩, fun hd => by obtain ⟨u, h1, -⟩ := h.d10 (e (by decide) hd); exact ⟨u, h1.below hb, fun h13 => absurd (Or.inr (Or.inl h13)) hnl'⟩, fun hd => by obtain ⟨u, h1, -⟩ := h.d11 (e (by decide) hd); exact ⟨u, h1.below hb, fun h14 => absurd (Or.inr (Or.inr h14)) hnl'⟩, fun h1 h2 => h.ne (e (by decide) h1) (e (by decide) h2)⟩
theorem R3.s3 {x : Value} (h : R3 w0 pb A n c G gn gc K kn kc a g b l v36 v37 v38 v39 v40 v41 v42 v43 v44 v11 v12 v13 W) (hu : ¬ Dn l 3) (hb : Below W.heap.size W W') (hv : x = .pointer (some ⟨pb, 1, none⟩)) : R3 w0 pb A n c G gn gc K kn kc a g b (l.setIfInBounds 3 true) v36 v37 v38 x v40 v41 v42 v43 v44 v11 v12 v13 W' := by
  have hs : 3 < l.size := by rw [h.sz]; decide
  have hnl : ¬ (Dn l 12 ∨ Dn l 13 ∨ Dn l 14) := fun hl => hu (h.late hl 3 (by decide))
  have e : ∀ {j}, j ≠ 3 → Dn (l.setIfInBounds 3 true) j → Dn l j := fun hj hd => ((Dn.set hs).1 hd).resolve_left hj
  have hnl' : ¬ (Dn (l.setIfInBounds 3 true) 12 ∨ Dn (l.setIfInBounds 3 true) 13 ∨ Dn (l.setIfInBounds 3 true) 14) := fun hl => hnl (hl.imp (e (by decide)) (Or.imp (e (by decide)) (e (by decide))))
  exact ⟨by rw [Array.size_setIfInBounds]; exact h.sz, below_step h.bw hb, fun hl => absurd hl hnl', fun hd => h.d0 (e (by decide) hd), fun hd => h.d1 (e (by decide) hd), fun hd => (h.d2 (e (by decide) hd)).below hb, fun _ => hv, fun hd => h.d4 (e (by decide) hd), fun hd => (h.d5 (e (by decide) hd)).below hb, fun hd => h.d6 (e (by decide) hd), fun hd => h.d7 (e (by decide) hd), fun hd => (h.d8 (e (by decide) hd)).below hb, fun hd => by obtain ⟨u, h1, -⟩ := h.d9 (e (by decide) hd); exact ⟨u, h1.below hb, fun h12 => absurd (Or.inl h12) hnl'⟩, fun hd => by obtain ⟨u, h1, -⟩ := h.d10 (e (by decide) hd); exact ⟨u, h1.below hb, fun h13 => absurd (Or.inr (Or.inl h13)) hnl'⟩, fun hd => by obtain ⟨u, h1, -⟩ := h.d11 (e (by decide) hd); exact ⟨u, h1.below hb, fun h14 => absurd (Or.inr (Or.inr h14)) hnl'⟩, fun h1 h2 => h.ne (e (by decide) h1) (e (by decide) h2)⟩
theorem R3.s4 {x : Value} (h : R3 w0 pb A n c G gn gc K kn kc a g b l v36 v37 v38 v39 v40 v41 v42 v43 v44 v11 v12 v13 W) (hu : ¬ Dn l 4) (hb : Below W.heap.size W W') (hv : x = .slice G gn gc) : R3 w0 pb A n c G gn gc K kn kc a g b (l.setIfInBounds 4 true) v36 v37 v38 v39 x v41 v42 v43 v44 v11 v12 v13 W' := by
  have hs : 4 < l.size := by rw [h.sz]; decide
  have hnl : ¬ (Dn l 12 ∨ Dn l 13 ∨ Dn l 14) := fun hl => hu (h.late hl 4 (by decide))
  have e : ∀ {j}, j ≠ 4 → Dn (l.setIfInBounds 4 true) j → Dn l j := fun hj hd => ((Dn.set hs).1 hd).resolve_left hj
  have hnl' : ¬ (Dn (l.setIfInBounds 4 true) 12 ∨ Dn (l.setIfInBounds 4 true) 13 ∨ Dn (l.setIfInBounds 4 true) 14) := fun hl => hnl (hl.imp (e (by decide)) (Or.imp (e (by decide)) (e (by decide))))
  exact ⟨by rw [Array.size_setIfInBounds]; exact h.sz, below_step h.bw hb, fun hl => absurd hl hnl', fun hd => h.d0 (e (by decide) hd), fun hd => h.d1 (e (by decide) hd), fun hd => (h.d2 (e (by decide) hd)).below hb, fun hd => h.d3 (e (by decide) hd), fun _ => hv, fun hd => (h.d5 (e (by decide) hd)).below hb, fun hd => h.d6 (e (by decide) hd), fun hd => h.d7 (e (by decide) hd), fun hd => (h.d8 (e (by decide) hd)).below hb, fun hd => by obtain ⟨u, h1, -⟩ := h.d9 (e (by decide) hd); exact ⟨u, h1.below hb, fun h12 => absurd (Or.inl h12) hnl'⟩, fun hd => by obtain ⟨u, h1, -⟩ := h.d10 (e (by decide) hd); exact ⟨u, h1.below hb, fun h13 => absurd (Or.inr (Or.inl h13)) hnl'⟩, fun hd => by obtain ⟨u, h1, -⟩ := h.d11 (e (by decide) hd); exact ⟨u, h1.below hb, fun h14 => absurd (Or.inr (Or.inr h14)) hnl'⟩, fun h1 h2 => h.ne (e (by decide) h1) (e (by decide) h2)⟩
theorem R3.s5 {x : Value} (h : R3 w0 pb A n c G gn gc K kn kc a g b l v36 v37 v38 v39 v40 v41 v42 v43 v44 v11 v12 v13 W) (hu : ¬ Dn l 5) (hb : Below W.heap.size W W') (hv : Cl w0.heap.size 3 gn (g.map (.int .i64)) W' x) : R3 w0 pb A n c G gn gc K kn kc a g b (l.setIfInBounds 5 true) v36 v37 v38 v39 v40 x v42 v43 v44 v11 v12 v13 W' := by
  have hs : 5 < l.size := by rw [h.sz]; decide
  have hnl : ¬ (Dn l 12 ∨ Dn l 13 ∨ Dn l 14) := fun hl => hu (h.late hl 5 (by decide))
  have e : ∀ {j}, j ≠ 5 → Dn (l.setIfInBounds 5 true) j → Dn l j := fun hj hd => ((Dn.set hs).1 hd).resolve_left hj
  have hnl' : ¬ (Dn (l.setIfInBounds 5 true) 12 ∨ Dn (l.setIfInBounds 5 true) 13 ∨ Dn (l.setIfInBounds 5 true) 14) := fun hl => hnl (hl.imp (e (by decide)) (Or.imp (e (by decide)) (e (by decide))))
  exact ⟨by rw [Array.size_setIfInBounds]; exact h.sz, below_step h.bw hb, fun hl => absurd hl hnl', fun hd => h.d0 (e (by decide) hd), fun hd => h.d1 (e (by decide) hd), fun hd => (h.d2 (e (by decide) hd)).below hb, fun hd => h.d3 (e (by decide) hd), fun hd => h.d4 (e (by decide) hd), fun _ => hv, fun hd => h.d6 (e (by decide) hd), fun hd => h.d7 (e (by decide) hd), fun hd => (h.d8 (e (by decide) hd)).below hb, fun hd => by obtain ⟨u, h1, -⟩ := h.d9 (e (by decide) hd); exact ⟨u, h1.below hb, fun h12 => absurd (Or.inl h12) hnl'⟩, fun hd => by obtain ⟨u, h1, -⟩ := h.d10 (e (by decide) hd); exact ⟨u, h1.below hb, fun h13 => absurd (Or.inr (Or.inl h13)) hnl'⟩, fun hd => by obtain ⟨u, h1, -⟩ := h.d11 (e (by decide) hd); exact ⟨u, h1.below hb, fun h14 => absurd (Or.inr (Or.inr h14)) hnl'⟩, fun h1 h2 => h.ne (e (by decide) h1) (e (by decide) h2)⟩
theorem R3.s6 {x : Value} (h : R3 w0 pb A n c G gn gc K kn kc a g b l v36 v37 v38 v39 v40 v41 v42 v43 v44 v11 v12 v13 W) (hu : ¬ Dn l 6) (hb : Below W.heap.size W W') (hv : x = .pointer (some ⟨pb, 2, none⟩)) : R3 w0 pb A n c G gn gc K kn kc a g b (l.setIfInBounds 6 true) v36 v37 v38 v39 v40 v41 x v43 v44 v11 v12 v13 W' := by
  have hs : 6 < l.size := by rw [h.sz]; decide
  have hnl : ¬ (Dn l 12 ∨ Dn l 13 ∨ Dn l 14) := fun hl => hu (h.late hl 6 (by decide))
  have e : ∀ {j}, j ≠ 6 → Dn (l.setIfInBounds 6 true) j → Dn l j := fun hj hd => ((Dn.set hs).1 hd).resolve_left hj
  have hnl' : ¬ (Dn (l.setIfInBounds 6 true) 12 ∨ Dn (l.setIfInBounds 6 true) 13 ∨ Dn (l.setIfInBounds 6 true) 14) := fun hl => hnl (hl.imp (e (by decide)) (Or.imp (e (by decide)) (e (by decide))))
  exact ⟨by rw [Array.size_setIfInBounds]; exact h.sz, below_step h.bw hb, fun hl => absurd hl hnl', fun hd => h.d0 (e (by decide) hd), fun hd => h.d1 (e (by decide) hd), fun hd => (h.d2 (e (by decide) hd)).below hb, fun hd => h.d3 (e (by decide) hd), fun hd => h.d4 (e (by decide) hd), fun hd => (h.d5 (e (by decide) hd)).below hb, fun _ => hv, fun hd => h.d7 (e (by decide) hd), fun hd => (h.d8 (e (by decide) hd)).below hb, fun hd => by obtain ⟨u, h1, -⟩ := h.d9 (e (by decide) hd); exact ⟨u, h1.below hb, fun h12 => absurd (Or.inl h12) hnl'⟩, fun hd => by obtain ⟨u, h1, -⟩ := h.d10 (e (by decide) hd); exact ⟨u, h1.below hb, fun h13 => absurd (Or.inr (Or.inl h13)) hnl'⟩, fun hd => by obtain ⟨u, h1, -⟩ := h.d11 (e (by decide) hd); exact ⟨u, h1.below hb, fun h14 => absurd (Or.inr (Or.inr h14)) hnl'⟩, fun h1 h2 => h.ne (e (by decide) h1) (e (by decide) h2)⟩
theorem R3.s7 {x : Value} (h : R3 w0 pb A n c G gn gc K kn kc a g b l v36 v37 v38 v39 v40 v41 v42 v43 v44 v11 v12 v13 W) (hu : ¬ Dn l 7) (hb : Below W.heap.size W W') (hv : x = .slice K kn kc) : R3 w0 pb A n c G gn gc K kn kc a g b (l.setIfInBounds 7 true) v36 v37 v38 v39 v40 v41 v42 x v44 v11 v12 v13 W' := by
  have hs : 7 < l.size := by rw [h.sz]; decide
  have hnl : ¬ (Dn l 12 ∨ Dn l 13 ∨ Dn l 14) := fun hl => hu (h.late hl 7 (by decide))
  have e : ∀ {j}, j ≠ 7 → Dn (l.setIfInBounds 7 true) j → Dn l j := fun hj hd => ((Dn.set hs).1 hd).resolve_left hj
  have hnl' : ¬ (Dn (l.setIfInBounds 7 true) 12 ∨ Dn (l.setIfInBounds 7 true) 13 ∨ Dn (l.setIfInBounds 7 true) 14) := fun hl => hnl (hl.imp (e (by decide)) (Or.imp (e (by decide)) (e (by decide))))
  exact ⟨by rw [Array.size_setIfInBounds]; exact h.sz, below_step h.bw hb, fun hl => absurd hl hnl', fun hd => h.d0 (e (by decide) hd), fun hd => h.d1 (e (by decide) hd), fun hd => (h.d2 (e (by decide) hd)).below hb, fun hd => h.d3 (e (by decide) hd), fun hd => h.d4 (e (by decide) hd), fun hd => (h.d5 (e (by decide) hd)).below hb, fun hd => h.d6 (e (by decide) hd), fun _ => hv, fun hd => (h.d8 (e (by decide) hd)).below hb, fun hd => by obtain ⟨u, h1, -⟩ := h.d9 (e (by decide) hd); exact ⟨u, h1.below hb, fun h12 => absurd (Or.inl h12) hnl'⟩, fun hd => by obtain ⟨u, h1, -⟩ := h.d10 (e (by decide) hd); exact ⟨u, h1.below hb, fun h13 => absurd (Or.inr (Or.inl h13)) hnl'⟩, fun hd => by obtain ⟨u, h1, -⟩ := h.d11 (e (by decide) hd); exact ⟨u, h1.below hb, fun h14 => absurd (Or.inr (Or.inr h14)) hnl'⟩, fun h1 h2 => h.ne (e (by decide) h1) (e (by decide) h2)⟩
theorem R3.s8 {x : Value} (h : R3 w0 pb A n c G gn gc K kn kc a g b l v36 v37 v38 v39 v40 v41 v42 v43 v44 v11 v12 v13 W) (hu : ¬ Dn l 8) (hb : Below W.heap.size W W') (hv : Cl w0.heap.size 3 kn (b.map (.int .i64)) W' x) : R3 w0 pb A n c G gn gc K kn kc a g b (l.setIfInBounds 8 true) v36 v37 v38 v39 v40 v41 v42 v43 x v11 v12 v13 W' := by
  have hs : 8 < l.size := by rw [h.sz]; decide
  have hnl : ¬ (Dn l 12 ∨ Dn l 13 ∨ Dn l 14) := fun hl => hu (h.late hl 8 (by decide))
  have e : ∀ {j}, j ≠ 8 → Dn (l.setIfInBounds 8 true) j → Dn l j := fun hj hd => ((Dn.set hs).1 hd).resolve_left hj
  have hnl' : ¬ (Dn (l.setIfInBounds 8 true) 12 ∨ Dn (l.setIfInBounds 8 true) 13 ∨ Dn (l.setIfInBounds 8 true) 14) := fun hl => hnl (hl.imp (e (by decide)) (Or.imp (e (by decide)) (e (by decide))))
  exact ⟨by rw [Array.size_setIfInBounds]; exact h.sz, below_step h.bw hb, fun hl => absurd hl hnl', fun hd => h.d0 (e (by decide) hd), fun hd => h.d1 (e (by decide) hd), fun hd => (h.d2 (e (by decide) hd)).below hb, fun hd => h.d3 (e (by decide) hd), fun hd => h.d4 (e (by decide) hd), fun hd => (h.d5 (e (by decide) hd)).below hb, fun hd => h.d6 (e (by decide) hd), fun hd => h.d7 (e (by decide) hd), fun _ => hv, fun hd => by obtain ⟨u, h1, -⟩ := h.d9 (e (by decide) hd); exact ⟨u, h1.below hb, fun h12 => absurd (Or.inl h12) hnl'⟩, fun hd => by obtain ⟨u, h1, -⟩ := h.d10 (e (by decide) hd); exact ⟨u, h1.below hb, fun h13 => absurd (Or.inr (Or.inl h13)) hnl'⟩, fun hd => by obtain ⟨u, h1, -⟩ := h.d11 (e (by decide) hd); exact ⟨u, h1.below hb, fun h14 => absurd (Or.inr (Or.inr h14)) hnl'⟩, fun h1 h2 => h.ne (e (by decide) h1) (e (by decide) h2)⟩
theorem R3.s9 {x : Value} (h : R3 w0 pb A n c G gn gc K kn kc a g b l v36 v37 v38 v39 v40 v41 v42 v43 v44 v11 v12 v13 W) (hu : ¬ Dn l 9) (hb : Below W.heap.size W W') (hv : ∃ u, Bx w0.heap.size 22 W' x u) : R3 w0 pb A n c G gn gc K kn kc a g b (l.setIfInBounds 9 true) v36 v37 v38 v39 v40 v41 v42 v43 v44 x v12 v13 W' := by
  have hs : 9 < l.size := by rw [h.sz]; decide
  have hnl : ¬ (Dn l 12 ∨ Dn l 13 ∨ Dn l 14) := fun hl => hu (h.late hl 9 (by decide))
  have e : ∀ {j}, j ≠ 9 → Dn (l.setIfInBounds 9 true) j → Dn l j := fun hj hd => ((Dn.set hs).1 hd).resolve_left hj
  have hnl' : ¬ (Dn (l.setIfInBounds 9 true) 12 ∨ Dn (l.setIfInBounds 9 true) 13 ∨ Dn (l.setIfInBounds 9 true) 14) := fun hl => hnl (hl.imp (e (by decide)) (Or.imp (e (by decide)) (e (by decide))))
  exact ⟨by rw [Array.size_setIfInBounds]; exact h.sz, below_step h.bw hb, fun hl => absurd hl hnl', fun hd => h.d0 (e (by decide) hd), fun hd => h.d1 (e (by decide) hd), fun hd => (h.d2 (e (by decide) hd)).below hb, fun hd => h.d3 (e (by decide) hd), fun hd => h.d4 (e (by decide) hd), fun hd => (h.d5 (e (by decide) hd)).below hb, fun hd => h.d6 (e (by decide) hd), fun hd => h.d7 (e (by decide) hd), fun hd => (h.d8 (e (by decide) hd)).below hb, fun _ => by obtain ⟨u, h1⟩ := hv; exact ⟨u, h1, fun h12 => absurd (Or.inl h12) hnl'⟩, fun hd => by obtain ⟨u, h1, -⟩ := h.d10 (e (by decide) hd); exact ⟨u, h1.below hb, fun h13 => absurd (Or.inr (Or.inl h13)) hnl'⟩, fun hd => by obtain ⟨u, h1, -⟩ := h.d11 (e (by decide) hd); exact ⟨u, h1.below hb, fun h14 => absurd (Or.inr (Or.inr h14)) hnl'⟩, fun h1 h2 => h.ne (e (by decide) h1) (e (by decide) h2)⟩
theorem R3.s10 {x : Value} (h : R3 w0 pb A n c G gn gc K kn kc a g b l v36 v37 v38 v39 v40 v41 v42 v43 v44 v11 v12 v13 W) (hu : ¬ Dn l 10) (hb : Below W.heap.size W W') (hv : ∃ u, Bx w0.heap.size 23 W' x u) (hne : Dn l 11 → x ≠ v13) : R3 w0 pb A n c G gn gc K kn kc a g b (l.setIfInBounds 10 true) v36 v37 v38 v39 v40 v41 v42 v43 v44 v11 x v13 W' := by
  have hs : 10 < l.size := by rw [h.sz]; decide
  have hnl : ¬ (Dn l 12 ∨ Dn l 13 ∨ Dn l 14) := fun hl => hu (h.late hl 10 (by decide))
  have e : ∀ {j}, j ≠ 10 → Dn (l.setIfInBounds 10 true) j → Dn l j := fun hj hd => ((Dn.set hs).1 hd).resolve_left hj
  have hnl' : ¬ (Dn (l.setIfInBounds 10 true) 12 ∨ Dn (l.setIfInBounds 10 true) 13 ∨ Dn (l.setIfInBounds 10 true) 14) := fun hl => hnl (hl.imp (e (by decide)) (Or.imp (e (by decide)) (e (by decide))))
  exact ⟨by rw [Array.size_setIfInBounds]; exact h.sz, below_step h.bw hb, fun hl => absurd hl hnl', fun hd => h.d0 (e (by decide) hd), fun hd => h.d1 (e (by decide) hd), fun hd => (h.d2 (e (by decide) hd)).below hb, fun hd => h.d3 (e (by decide) hd), fun hd => h.d4 (e (by decide) hd), fun hd => (h.d5 (e (by decide) hd)).below hb, fun hd => h.d6 (e (by decide) hd), fun hd => h.d7 (e (by decide) hd), fun hd => (h.d8 (e (by decide) hd)).below hb, fun hd => by obtain ⟨u, h1, -⟩ := h.d9 (e (by decide) hd); exact ⟨u, h1.below hb, fun h12 => absurd (Or.inl h12) hnl'⟩, fun _ => by obtain ⟨u, h1⟩ := hv; exact ⟨u, h1, fun h13 => absurd (Or.inr (Or.inl h13)) hnl'⟩, fun hd => by obtain ⟨u, h1, -⟩ := h.d11 (e (by decide) hd); exact ⟨u, h1.below hb, fun h14 => absurd (Or.inr (Or.inr h14)) hnl'⟩, fun _ h2 => hne (e (by decide) h2)⟩
theorem R3.s11 {x : Value} (h : R3 w0 pb A n c G gn gc K kn kc a g b l v36 v37 v38 v39 v40 v41 v42 v43 v44 v11 v12 v13 W) (hu : ¬ Dn l 11) (hb : Below W.heap.size W W') (hv : ∃ u, Bx w0.heap.size 23 W' x u) (hne : Dn l 10 → v12 ≠ x) : R3 w0 pb A n c G gn gc K kn kc a g b (l.setIfInBounds 11 true) v36 v37 v38 v39 v40 v41 v42 v43 v44 v11 v12 x W' := by
  have hs : 11 < l.size := by rw [h.sz]; decide
  have hnl : ¬ (Dn l 12 ∨ Dn l 13 ∨ Dn l 14) := fun hl => hu (h.late hl 11 (by decide))
  have e : ∀ {j}, j ≠ 11 → Dn (l.setIfInBounds 11 true) j → Dn l j := fun hj hd => ((Dn.set hs).1 hd).resolve_left hj
  have hnl' : ¬ (Dn (l.setIfInBounds 11 true) 12 ∨ Dn (l.setIfInBounds 11 true) 13 ∨ Dn (l.setIfInBounds 11 true) 14) := fun hl => hnl (hl.imp (e (by decide)) (Or.imp (e (by decide)) (e (by decide))))
  exact ⟨by rw [Array.size_setIfInBounds]; exact h.sz, below_step h.bw hb, fun hl => absurd hl hnl', fun hd => h.d0 (e (by decide) hd), fun hd => h.d1 (e (by decide) hd), fun hd => (h.d2 (e (by decide) hd)).below hb, fun hd => h.d3 (e (by decide) hd), fun hd => h.d4 (e (by decide) hd), fun hd => (h.d5 (e (by decide) hd)).below hb, fun hd => h.d6 (e (by decide) hd), fun hd => h.d7 (e (by decide) hd), fun hd => (h.d8 (e (by decide) hd)).below hb, fun hd => by obtain ⟨u, h1, -⟩ := h.d9 (e (by decide) hd); exact ⟨u, h1.below hb, fun h12 => absurd (Or.inl h12) hnl'⟩, fun hd => by obtain ⟨u, h1, -⟩ := h.d10 (e (by decide) hd); exact ⟨u, h1.below hb, fun h13 => absurd (Or.inr (Or.inl h13)) hnl'⟩, fun _ => by obtain ⟨u, h1⟩ := hv; exact ⟨u, h1, fun h14 => absurd (Or.inr (Or.inr h14)) hnl'⟩, fun h1 _ => hne (e (by decide) h1)⟩
theorem R3.s12 {p : Nat} (h : R3 w0 pb A n c G gn gc K kn kc a g b l v36 v37 v38 v39 v40 v41 v42 v43 v44 v11 v12 v13 W) (hall : ∀ j, j < 12 → Dn l j) (hp : v11 = .pointer (some ⟨p, 0, none⟩)) : R3 w0 pb A n c G gn gc K kn kc a g b (l.setIfInBounds 12 true) v36 v37 v38 v39 v40 v41 v42 v43 v44 v11 v12 v13 (W.setCell ⟨p, 0, none⟩ v38) := by
  have hs : 12 < l.size := by rw [h.sz]; decide
  have e : ∀ {j}, j ≠ 12 → Dn (l.setIfInBounds 12 true) j → Dn l j := fun hj hd => ((Dn.set hs).1 hd).resolve_left hj
  have e2 : ∀ {j}, Dn l j → Dn (l.setIfInBounds 12 true) j := fun hd => (Dn.set hs).2 (.inr hd)
  obtain ⟨u1, b1, k1⟩ := h.d9 (hall 9 (by decide))
  obtain ⟨u2, b2, k2⟩ := h.d10 (hall 10 (by decide))
  obtain ⟨u3, b3, k3⟩ := h.d11 (hall 11 (by decide))
  have n12 := b1.kinds b2 (by decide)
  have n13 := b1.kinds b3 (by decide)
  have n23 := h.ne (hall 10 (by decide)) (hall 11 (by decide))
  have c2 := h.d2 (hall 2 (by decide))
  have c5 := h.d5 (hall 5 (by decide))
  have c8 := h.d8 (hall 8 (by decide))
  have hne := h.ne
  have hB := b1
  obtain ⟨p', q1, q2, q3⟩ := hB
  rw [hp] at q1
  injection q1 with q1
  injection q1 with q1
  injection q1 with q1
  subst q1
  exact ⟨by rw [Array.size_setIfInBounds]; exact h.sz, h.bw.setCell (p := ⟨p, 0, none⟩) q2 _, fun _ j hj => e2 (hall j hj), fun hd => h.d0 (e (by decide) hd), fun hd => h.d1 (e (by decide) hd), fun _ => c2.set_ q3 (by decide), fun hd => h.d3 (e (by decide) hd), fun hd => h.d4 (e (by decide) hd), fun _ => c5.set_ q3 (by decide), fun hd => h.d6 (e (by decide) hd), fun hd => h.d7 (e (by decide) hd), fun _ => c8.set_ q3 (by decide), fun _ => ⟨v38, by rw [hp] at b1 ⊢; exact b1.set_, fun _ => rfl⟩, fun _ => ⟨u2, b2.far (by rw [← hp]; exact n12.symm), fun hd => k2 (e (by decide) hd)⟩, fun _ => ⟨u3, b3.far (by rw [← hp]; exact n13.symm), fun hd => k3 (e (by decide) hd)⟩, fun h1 h2 => h.ne (e (by decide) h1) (e (by decide) h2)⟩
theorem R3.s13 {p : Nat} (h : R3 w0 pb A n c G gn gc K kn kc a g b l v36 v37 v38 v39 v40 v41 v42 v43 v44 v11 v12 v13 W) (hall : ∀ j, j < 12 → Dn l j) (hp : v12 = .pointer (some ⟨p, 0, none⟩)) : R3 w0 pb A n c G gn gc K kn kc a g b (l.setIfInBounds 13 true) v36 v37 v38 v39 v40 v41 v42 v43 v44 v11 v12 v13 (W.setCell ⟨p, 0, none⟩ v41) := by
  have hs : 13 < l.size := by rw [h.sz]; decide
  have e : ∀ {j}, j ≠ 13 → Dn (l.setIfInBounds 13 true) j → Dn l j := fun hj hd => ((Dn.set hs).1 hd).resolve_left hj
  have e2 : ∀ {j}, Dn l j → Dn (l.setIfInBounds 13 true) j := fun hd => (Dn.set hs).2 (.inr hd)
  obtain ⟨u1, b1, k1⟩ := h.d9 (hall 9 (by decide))
  obtain ⟨u2, b2, k2⟩ := h.d10 (hall 10 (by decide))
  obtain ⟨u3, b3, k3⟩ := h.d11 (hall 11 (by decide))
  have n12 := b1.kinds b2 (by decide)
  have n13 := b1.kinds b3 (by decide)
  have n23 := h.ne (hall 10 (by decide)) (hall 11 (by decide))
  have c2 := h.d2 (hall 2 (by decide))
  have c5 := h.d5 (hall 5 (by decide))
  have c8 := h.d8 (hall 8 (by decide))
  have hne := h.ne
  have hB := b2
  obtain ⟨p', q1, q2, q3⟩ := hB
  rw [hp] at q1
  injection q1 with q1
  injection q1 with q1
  injection q1 with q1
  subst q1
  exact ⟨by rw [Array.size_setIfInBounds]; exact h.sz, h.bw.setCell (p := ⟨p, 0, none⟩) q2 _, fun _ j hj => e2 (hall j hj), fun hd => h.d0 (e (by decide) hd), fun hd => h.d1 (e (by decide) hd), fun _ => c2.set_ q3 (by decide), fun hd => h.d3 (e (by decide) hd), fun hd => h.d4 (e (by decide) hd), fun _ => c5.set_ q3 (by decide), fun hd => h.d6 (e (by decide) hd), fun hd => h.d7 (e (by decide) hd), fun _ => c8.set_ q3 (by decide), fun _ => ⟨u1, b1.far (by rw [← hp]; exact n12), fun hd => k1 (e (by decide) hd)⟩, fun _ => ⟨v41, by rw [hp] at b2 ⊢; exact b2.set_, fun _ => rfl⟩, fun _ => ⟨u3, b3.far (by rw [← hp]; exact n23.symm), fun hd => k3 (e (by decide) hd)⟩, fun h1 h2 => h.ne (e (by decide) h1) (e (by decide) h2)⟩
theorem R3.s14 {p : Nat} (h : R3 w0 pb A n c G gn gc K kn kc a g b l v36 v37 v38 v39 v40 v41 v42 v43 v44 v11 v12 v13 W) (hall : ∀ j, j < 12 → Dn l j) (hp : v13 = .pointer (some ⟨p, 0, none⟩)) : R3 w0 pb A n c G gn gc K kn kc a g b (l.setIfInBounds 14 true) v36 v37 v38 v39 v40 v41 v42 v43 v44 v11 v12 v13 (W.setCell ⟨p, 0, none⟩ v44) := by
  have hs : 14 < l.size := by rw [h.sz]; decide
  have e : ∀ {j}, j ≠ 14 → Dn (l.setIfInBounds 14 true) j → Dn l j := fun hj hd => ((Dn.set hs).1 hd).resolve_left hj
  have e2 : ∀ {j}, Dn l j → Dn (l.setIfInBounds 14 true) j := fun hd => (Dn.set hs).2 (.inr hd)
  obtain ⟨u1, b1, k1⟩ := h.d9 (hall 9 (by decide))
  obtain ⟨u2, b2, k2⟩ := h.d10 (hall 10 (by decide))
  obtain ⟨u3, b3, k3⟩ := h.d11 (hall 11 (by decide))
  have n12 := b1.kinds b2 (by decide)
  have n13 := b1.kinds b3 (by decide)
  have n23 := h.ne (hall 10 (by decide)) (hall 11 (by decide))
  have c2 := h.d2 (hall 2 (by decide))
  have c5 := h.d5 (hall 5 (by decide))
  have c8 := h.d8 (hall 8 (by decide))
  have hne := h.ne
  have hB := b3
  obtain ⟨p', q1, q2, q3⟩ := hB
  rw [hp] at q1
  injection q1 with q1
  injection q1 with q1
  injection q1 with q1
  subst q1
  exact ⟨by rw [Array.size_setIfInBounds]; exact h.sz, h.bw.setCell (p := ⟨p, 0, none⟩) q2 _, fun _ j hj => e2 (hall j hj), fun hd => h.d0 (e (by decide) hd), fun hd => h.d1 (e (by decide) hd), fun _ => c2.set_ q3 (by decide), fun hd => h.d3 (e (by decide) hd), fun hd => h.d4 (e (by decide) hd), fun _ => c5.set_ q3 (by decide), fun hd => h.d6 (e (by decide) hd), fun hd => h.d7 (e (by decide) hd), fun _ => c8.set_ q3 (by decide), fun _ => ⟨u1, b1.far (by rw [← hp]; exact n13), fun hd => k1 (e (by decide) hd)⟩, fun _ => ⟨u2, b2.far (by rw [← hp]; exact n23), fun hd => k2 (e (by decide) hd)⟩, fun _ => ⟨v44, by rw [hp] at b3 ⊢; exact b3.set_, fun _ => rfl⟩, fun h1 h2 => h.ne (e (by decide) h1) (e (by decide) h2)⟩
end
theorem puts12 (s : Act) (d0 d1 d2 d3 d4 d5 d6 d7 d8 d9 d10 d11 : Nat) : s = ((((((((((((s.put (some d0) (s.tmps.getD d0 undef)).put (some d1) (s.tmps.getD d1 undef)).put (some d2) (s.tmps.getD d2 undef)).put (some d3) (s.tmps.getD d3 undef)).put (some d4) (s.tmps.getD d4 undef)).put (some d5) (s.tmps.getD d5 undef)).put (some d6) (s.tmps.getD d6 undef)).put (some d7) (s.tmps.getD d7 undef)).put (some d8) (s.tmps.getD d8 undef)).put (some d9) (s.tmps.getD d9 undef)).put (some d10) (s.tmps.getD d10 undef)).put (some d11) (s.tmps.getD d11 undef)) := by simp only [put_self]
theorem all_done {md : Region.Mode} {ops : Array Oper} {l : Array Bool} (hs : l.size = ops.size) (hr : Region.ready md ops l = []) (hlow : ((List.range ops.size).all fun i => ((ops[i]?).map fun o => o.after.toList.all fun e => decide (e.on < i)).getD true) = true) : ∀ i, i < ops.size → Dn l i := by
  intro i
  induction i using Nat.strongRecOn with
  | ind i ih =>
    intro hi
    refine Classical.byContradiction fun hn => ?_
    have ho : ops[i]? = some ops[i] := Array.getElem?_eq_getElem hi
    have h1 := List.all_eq_true.1 hlow i (List.mem_range.2 hi)
    rw [ho] at h1
    simp only [Option.map_some, Option.getD_some] at h1
    have hm : i ∈ Region.ready md ops l := by
      refine mem_ready.2 ⟨?_, ops[i], ho, fun e he hb => ?_⟩
      · unfold Dn at hn
        have hl : i < l.size := by omega
        simp [hl] at hn ⊢
        exact hn
      · have h2 : e.on < i := by
          have := List.all_eq_true.1 h1 e (Array.mem_toList_iff.2 he)
          simpa using this
        exact ih e.on h2 (by omega)
    rw [hr] at hm
    cases hm
end Go.Proofs.Ytgkoaambdejkdaa

namespace Go.Proofs.Ytgkoaambdejkdaa
open Go.RowKit
set_option maxHeartbeats 400000 in
theorem equal_u64 (A A2 : Option Addr) (n c m c2 B B2 : Nat) (xs ys : List Int) (w : World) (hr : Reads w B 1 A n (xs.map (.int .u64))) (hr2 : Reads w B2 1 A2 m (ys.map (.int .u64))) (hn : n ≤ 1000000000000000000) (hm : m ≤ 1000000000000000000) :
    Calls Try.prog 19 #[.slice A n c, .slice A2 m c2] w fun e w' => e = .returned (.bool (decide (xs = ys))) ∧ ∃ q, w' = w.drewN q := by
  have hxl : xs.length = n := by have := hr.1; simpa using this
  have hyl : ys.length = m := by have := hr2.1; simpa using this
  have HX := Lib.hid hxl
  have HY := Lib.hid hyl
  clear hxl hyl
  by_cases hnm : n = m
  · subst hnm
    go_enter Try.func19, Try.ntmps19
    go_wp2
    go_loopw [13] (fun i wr => ∃ j : Nat, j ≤ n ∧ i = .int .i64 j ∧ xs.take j = ys.take j ∧ ∃ q, wr = w.drewN q) (fun i _ => n - (intOf i).toNat)
    case atStart => exact ⟨0, Nat.zero_le _, rfl, by simp, 0, rfl⟩
    case round =>
      obtain ⟨j, hj, rfl, ht, q, rfl⟩ := hrel
      have HT := Lib.hid ht
      clear ht
      by_cases hlt : j < n
      · obtain ⟨ad, u, rfl, _, hx, hc⟩ := hr.at_ hlt
        obtain ⟨ad2, u2, rfl, _, hx2, hc2⟩ := hr2.at_ hlt
        have hl : j < xs.length := by rw [HX.out]; exact hlt
        have hl2 : j < ys.length := by rw [HY.out]; exact hlt
        rw [List.getElem?_map, List.getElem?_eq_getElem hl] at hx
        rw [List.getElem?_map, List.getElem?_eq_getElem hl2] at hx2
        obtain rfl : u = .int .u64 xs[j] := by simpa using hx.symm
        obtain rfl : u2 = .int .u64 ys[j] := by simpa using hx2.symm
        clear hx hx2
        have T : Hid (xs.take (j + 1) = ys.take (j + 1) ↔ xs[j] = ys[j]) := by
          show _ ↔ _
          rw [List.take_succ_eq_append_getElem hl, List.take_succ_eq_append_getElem hl2, HT.out]
          constructor
          · intro h
            have := List.append_cancel_left h
            simpa using this
          · intro h; rw [h]
        have hlt' : (j : Int) < n := by omega
        generalize hgx : xs[j] = x at *
        generalize hgy : ys[j] = y at *
        have HGX := Lib.hid hgx
        have HGY := Lib.hid hgy
        clear hgx hgy
        by_cases he : x = y
        · subst he
          go_wp2
          go_quiet (fail)
          go_wp2
          go_roundw
          case rel => exact ⟨j + 1, by omega, by go_num, T.out.2 (by simp), _, rfl⟩
          case measure => simp [intOf]; omega
        · have he2 : (x == y) = false := by simpa using he
          have he3 : (x != y) = true := by simpa using he
          go_wp2
          go_quiet (fail)
          go_wp2
          go_ret
          refine ⟨?_, _, drewN_add _ _ _⟩
          have : ¬ xs = ys := by
            intro h
            apply he
            rw [← HGX.out, ← HGY.out]
            subst h
            rfl
          rw [decide_eq_false this]
          rfl
      · go_wp2
        go_ret
        have hjn : j = n := by omega
        subst hjn
        exact ⟨by rw [decide_eq_true (eq_of_takes _ _ _ HX.out HY.out HT.out)]; rfl, _, rfl⟩
  · have hne : ¬ xs = ys := by
      intro h
      subst h
      exact hnm (HX.out.symm.trans HY.out)
    have e1 : ((n : Int) == (m : Int)) = false := by simp; omega
    have e2 : ((n : Int) != (m : Int)) = true := by simp; omega
    have e3 : (n == m) = false := by simpa using hnm
    have e4 : (n != m) = true := by simpa using hnm
    go_enter Try.func19, Try.ntmps19
    go_wp2
    go_ret
    exact ⟨by rw [decide_eq_false hne]; rfl, 0, rfl⟩
end Go.Proofs.Ytgkoaambdejkdaa
