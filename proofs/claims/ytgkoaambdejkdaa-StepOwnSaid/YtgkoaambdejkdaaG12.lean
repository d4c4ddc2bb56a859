/-
  Texts joined: StepWrite YoungKeep FreeLaw.
-/
import Derived.Deep.CutRange
import Derived.Test.YtgkoaambdejkdaaG3
import Derived.Test.YtgkoaambdejkdaaG5
import Derived.Test.YtgkoaambdejkdaaG10
import Derived.Test.YtgkoaambdejkdaaG11
namespace Go.Proofs.Ytgkoaambdejkdaa
open Go.RowKit
theorem look_head {w : World} {b n : Nat} {S : List Spot} (h : MapIs w Try.prog 3 .i64 b n (headF S)) {x : Int} (hx : (Lit.int .i64 x).wf = true) :
    ∃ (r bb t : Int) (f : Bool), (Instr.lookup 79 (.map (some b)) (.int .i64 x) true).run Try.prog w = .ok (.tuple #[.agg #[.int .i64 r, .int .i64 bb, .int .i64 t, .bool f], .bool (decide (x ∈ begsL S))]) w ∧
      ∀ s, spotAt S x = some s → r = s.r ∧ bb = s.b ∧ t = s.t ∧ f = s.f := by
  have hl := h.look_ok (k := 3) (t := 79) Try.underlying3 Try.underlying79 (zero_head _) hx
  cases hs : spotAt S x with
  | none =>
    have e1 : headF S x = none := by unfold headF; rw [hs]; rfl
    have e2 : x ∉ begsL S := fun h => by obtain ⟨s, h2⟩ := begsL_iff.1 h; rw [hs] at h2; cases h2
    rw [e1] at hl
    rw [decide_eq_false e2]
    exact ⟨0, 0, 0, false, hl, fun s h => by cases h⟩
  | some s =>
    have e1 : headF S x = some (headC s) := by unfold headF; rw [hs]; rfl
    rw [e1] at hl
    rw [decide_eq_true (begsL_iff.2 ⟨s, hs⟩)]
    exact ⟨s.r, s.b, s.t, s.f, hl, fun s' h => by injection h with h; subst h; exact ⟨rfl, rfl, rfl, rfl⟩⟩
theorem TriO.setA {w : World} {base : Nat} {q n c : Nat} {G : Option Addr} {gn gc : Nat} {K : Option Addr} {kn kc : Nat} {a g b : List Int} (h : TriO w base (some ⟨q, 0, none⟩) n c G gn gc K kn kc a g b) {i : Nat} (hi : i < n) {v : Int} (hv : (Lit.int .u64 v).wf = true) :
    TriO (w.setCell ⟨q, i, none⟩ (.int .u64 v)) base (some ⟨q, 0, none⟩) n c G gn gc K kn kc (a.set i v) g b := by
  refine ⟨?_, h.g.apart (p := ⟨q, i, none⟩) (own_kinds (g := q) h.a.1 h.g.1 (by decide) rfl) _, h.b.apart (p := ⟨q, i, none⟩) (own_kinds (g := q) h.a.1 h.b.1 (by decide) rfl) _, h.ap⟩
  have := (h.a.setElem hi (u := .int .u64 v) ⟨v, rfl, hv⟩).1
  rwa [← List.map_set] at this
def WriteRet (a g b : List Int) (at_ ref to_ : Int) (base : Nat) (e : Ending) (w' : World) : Prop :=
  (∃ E, E ≠ 0 ∧ e = .returned (.tuple #[.agg #[.slice none 0 0, .slice none 0 0, .slice none 0 0], .int .i64 E])) ∨
  (TriOk a g b ∧ ∃ (s : Spot) (k : Nat), spotAt (spotsL a) s.loc = some s ∧ at_ = s.loc ∧ ref = k ∧ (k : Int) < s.r ∧ (to_ = -1 ∨ to_ ∈ begsL (spotsL a)) ∧
    ∃ (A1 : Option Addr) (n1 c1 : Nat) (A2 : Option Addr) (n2 c2 : Nat) (A3 : Option Addr) (n3 c3 : Nat), e = .returned (.tuple #[.agg #[.slice A1 n1 c1, .slice A2 n2 c2, .slice A3 n3 c3], .int .i64 0]) ∧
      TriO w' base A1 n1 c1 A2 n2 c2 A3 n3 c3 (writeL a s k to_) (writeG g b s.loc to_) b)
set_option maxRecDepth 100000 in
set_option maxHeartbeats 4000000 in
theorem stepWrite_any (A : Option Addr) (n c : Nat) (G : Option Addr) (gn gc : Nat) (K : Option Addr) (kn kc : Nat) (a g b : List Int) (at_ ref to_ : Int) (w : World) (hr : Reads w w.heap.size 1 A n (a.map (.int .u64))) (hnc : n ≤ c) (ha : ∀ x ∈ a, (Lit.int .u64 x).wf = true)
    (hg : Reads w w.heap.size 1 G gn (g.map (.int .i64))) (hgx : ∀ x ∈ g, (Lit.int .i64 x).wf = true) (hk : Reads w w.heap.size 1 K kn (b.map (.int .i64))) (hkx : ∀ x ∈ b, (Lit.int .i64 x).wf = true) (hq : gn + kn ≤ 35184372088832)
    (h1 : (Lit.int .i64 at_).wf = true) (h2 : (Lit.int .i64 ref).wf = true) (h3 : (Lit.int .i64 to_).wf = true) :
    Calls Try.prog 21 #[.agg #[.slice A n c, .slice G gn gc, .slice K kn kc], .int .i64 at_, .int .i64 ref, .int .i64 to_] w fun e w' => Below w.heap.size w w' ∧ WriteRet a g b at_ ref to_ w.heap.size e w' := by
  have hb0 := (below_new w (.cells #[.slice A n c, .slice G gn gc, .slice K kn kc] 25)).alloc (by simp) (.cells #[.slice none 0 0, .slice none 0 0, .slice none 0 0] 25)
  have DS := (Blk.new w 25 #[.slice A n c, .slice G gn gc, .slice K kn kc]).alloc (.cells #[.slice none 0 0, .slice none 0 0, .slice none 0 0] 25)
  have DR := Blk.new (w.alloc (.cells #[.slice A n c, .slice G gn gc, .slice K kn kc] 25)) 25 #[.slice none 0 0, .slice none 0 0, .slice none 0 0]
  rw [World.size_alloc] at DR
  obtain ⟨s0, s1, s2⟩ := DS.three
  have HC := Lib.hid (stepCheck_any A n c G gn gc K kn kc a g b _ ((hr.below hb0).more hb0.size) hnc ha ((hg.below hb0).more hb0.size) hgx ((hk.below hb0).more hb0.size) hkx hq)
  by_cases hT : TriOk a g b
  · obtain ⟨l1, l2⟩ := hT.lens
    have h0 := (checkE_ok.1 hT.ok).1
    have hkl : b.length = kn := by have := hk.1; simpa using this
    have hgl : g.length = gn := by have := hg.1; simpa using this
    have hal : a.length = n := by have := hr.1; simpa using this
    have hn256 : n ≤ 256 := by omega
    have hg256 : gn ≤ 256 := by omega
    have hk256 : kn ≤ 256 := by omega
    have HOb := Lib.hid (fun w hr => stepObjects_any A n c a w hr ha h0)
    have HCo := Lib.hid (fun w hr hg hk => stepCopied_any A n c G gn gc K kn kc a g b w hr ha hg hgx hk hkx (by omega) (by omega) (by omega))
    have HT := Lib.hid hT
    have H0 := Lib.hid h0
    have HAL := Lib.hid hal
    have hbnd := begsL_bounds h0
    have HBn := Lib.hid hbnd
    clear hgx hkx ha hkl hgl hal
    go_enter Try.func21, Try.ntmps21
    go_wp2_with fail
    refine HC.out.mono ?_
    rintro e w1 ⟨⟨E, rfl, hE⟩, hb1⟩
    obtain rfl := hE.2 HT.out
    have DR1 := DR.below hb1 DR.lt
    have DS1 := DS.below hb1 DS.lt
    have hb01 := below_step hb0 hb1
    obtain ⟨s0, s1, s2⟩ := DS1.three
    have HO1 := Lib.hid (HOb.out w1 ((hr.below hb01).more hb01.size))
    clear hE hb1 HC HOb hb0
    go_wp2_with fail
    refine HO1.out.mono ?_
    rintro e w2 ⟨bm, rfl, hbm, hM, hb2⟩
    have hb02 := below_step hb01 hb2
    have DS2 := DS1.below hb2 DS1.lt
    have DR2 := DR1.below hb2 DR1.lt
    obtain ⟨rA, bA, tA, fA, lookA, hsA⟩ := look_head hM h1
    have hM3 := hM.alloc (.cells #[.int .i64 rA, .int .i64 bA, .int .i64 tA, .bool fA] 78)
    obtain ⟨rB, bB, tB, fB, lookB, -⟩ := look_head hM3 h3
    have hb03 := hb02.alloc hb02.size (.cells #[.int .i64 rA, .int .i64 bA, .int .i64 tA, .bool fA] 78)
    have hb04 := hb03.alloc hb03.size (.cells #[.int .i64 rB, .int .i64 bB, .int .i64 tB, .bool fB] 78)
    have DS4 := (DS2.alloc (.cells #[.int .i64 rA, .int .i64 bA, .int .i64 tA, .bool fA] 78)).alloc (.cells #[.int .i64 rB, .int .i64 bB, .int .i64 tB, .bool fB] 78)
    have DR4 := (DR2.alloc (.cells #[.int .i64 rA, .int .i64 bA, .int .i64 tA, .bool fA] 78)).alloc (.cells #[.int .i64 rB, .int .i64 bB, .int .i64 tB, .bool fB] 78)
    have k0 := ((Blk.new w2 78 #[.int .i64 rA, .int .i64 bA, .int .i64 tA, .bool fA]).alloc (.cells #[.int .i64 rB, .int .i64 bB, .int .i64 tB, .bool fB] 78)).cell 0
    simp only [List.getElem?_toArray, List.getElem?_cons_zero] at k0
    have HsA := Lib.hid hsA
    obtain ⟨tb, htb⟩ : ∃ tb, tb = decide (to_ ∈ begsL (spotsL a)) := ⟨_, rfl⟩
    rw [← htb] at lookB
    have HTB := Lib.hid htb
    have f0 := DR4.frozen 0
    have f1 := DR4.frozen 1
    have f2 := DR4.frozen 2
    obtain ⟨r0, r1, r2⟩ := DR4.three
    have HBf := Lib.hid (below_block3 (g := w.heap.size + 1) hb04 (Nat.le_succ _) (.slice none 0 0) (.slice none 0 0) (.slice none 0 0))
    have HZf := Lib.hid (DR4.store3 (.slice none 0 0) (.slice none 0 0) (.slice none 0 0)).three
    clear hM hM3 hsA htb hb2 HO1 hb03 DS1 DR1 DS2 DR2
    by_cases hm : at_ ∈ begsL (spotsL a)
    · rw [decide_eq_true hm] at lookA
      obtain ⟨s, hs⟩ := begsL_iff.1 hm
      obtain ⟨rfl, rfl, rfl, rfl⟩ := HsA.out s hs
      obtain ⟨hsS, -, rfl⟩ := spotAt_some hs
      have hok := (parse_mem (parse_ok H0.out).2 s hsS).1
      clear hm hbnd
      obtain ⟨loc, r, bb, t, f⟩ := s
      dsimp only at *
      have hloc := hok.loc0
      dsimp only at hloc
      obtain ⟨I, rfl⟩ := Int.eq_ofNat_of_zero_le hloc
      by_cases c1 : ref < 0
      · have g1 : decide (ref < 0) = true := decide_eq_true c1
        clear hs hsS hok
        go_wp2
        refine bodyPost_ret (v := .tuple #[.agg #[.slice none 0 0, .slice none 0 0, .slice none 0 0], .int .i64 4]) ?_ rfl ⟨HBf.out, .inl ⟨4, by decide, rfl⟩⟩
        obtain ⟨z0, z1, z2⟩ := HZf.out
        simp only [results, Try.results21]
        go_simp
      · obtain ⟨k, rfl⟩ := Int.eq_ofNat_of_zero_le (show 0 ≤ ref by omega)
        have g1 : decide ((k : Int) < 0) = false := decide_eq_false c1
        by_cases c2 : r ≤ k
        · have g2 : decide (r ≤ (k : Int)) = true := decide_eq_true c2
          clear hs hsS hok
          go_wp2
          refine bodyPost_ret (v := .tuple #[.agg #[.slice none 0 0, .slice none 0 0, .slice none 0 0], .int .i64 4]) ?_ rfl ⟨HBf.out, .inl ⟨4, by decide, rfl⟩⟩
          obtain ⟨z0, z1, z2⟩ := HZf.out
          simp only [results, Try.results21]
          go_simp
        · have g2 : decide (r ≤ (k : Int)) = false := decide_eq_false c2
          by_cases c3 : to_ = -1 ∨ to_ ∈ begsL (spotsL a)
          · have hft := hok.fits
            have hr0 := hok.r0
            have hbb0 := hok.b0
            simp only [Spot.long] at hft hr0 hbb0
            obtain ⟨p1, hp1⟩ : ∃ p1, p1 = I + 1 := ⟨_, rfl⟩
            obtain ⟨p2, hp2⟩ : ∃ p2, p2 = p1 + k := ⟨_, rfl⟩
            have hp2n : p2 < n := by have := HAL.out; omega
            have w1' : IntKind.i64.wrap ((I : Int) + 1) = p1 := by rw [IntWalk.i64_in _ (by omega)]; omega
            have w2' : IntKind.i64.wrap ((p1 : Int) + k) = p2 := by rw [IntWalk.i64_in _ (by omega)]; omega
            have w1'' : (I : Int) + 1 = p1 := by omega
            have w2'' : (p1 : Int) + k = p2 := by omega
            have HS := Lib.hid hs
            have HP : Hid ((I : Int).toNat + 1 + k = p2) := by show _ = _; omega
            have HKR : Hid ((k : Int) < r) := by show _ < _; omega
            clear hs hsS hok hloc hft hr0 hbb0 hp1 hp2
            have HCo1 := Lib.hid (HCo.out _ ((hr.below hb04).more hb04.size) ((hg.below hb04).more hb04.size) ((hk.below hb04).more hb04.size))
            obtain ⟨s0, s1, s2⟩ := DS4.three
            rcases c3 with rfl | hB
            · have g3 : ((-1 : Int) != -1) = false := by decide
              go_wp2_with fail
              refine HCo1.out.mono ?_
              rintro e w5 ⟨hb5, A1, d1, A2, d2, A3, d3, rfl, hO⟩
              obtain ⟨q, e0, hqb⟩ := own_ptr hO.a.1 (by omega)
              subst e0
              have hws4 := hb04.size
              have hb05 := below_step hb04 hb5
              have DS5 := DS4.below hb5 DS4.lt
              have DR5 := DR4.below hb5 DR4.lt
              have f0 := DS5.frozen 0
              have f1 := DS5.frozen 1
              have f2 := DS5.frozen 2
              obtain ⟨u0, u1, u2⟩ := DS5.three
              have DS6 := DS5.store3 (.slice (some ⟨q, 0, none⟩) n d1) (.slice A2 gn d2) (.slice A3 kn d3)
              have DR6 := DR5.far3 (g' := w.heap.size) (by omega) (.slice (some ⟨q, 0, none⟩) n d1) (.slice A2 gn d2) (.slice A3 kn d3)
              have hb06 := below_block3 hb05 (Nat.le_refl _) (.slice (some ⟨q, 0, none⟩) n d1) (.slice A2 gn d2) (.slice A3 kn d3)
              have hO6 := (hO.store DS5 (by decide) (by decide) (.slice (some ⟨q, 0, none⟩) n d1) (.slice A2 gn d2) (.slice A3 kn d3)).mono (base := w.heap.size) hws4
              obtain ⟨t0, t1, t2⟩ := DS6.three
              obtain ⟨-, ⟨ov, hov⟩, hof⟩ := hO6.a.setElem hp2n (u := .int .u64 0) ⟨_, rfl, rfl⟩
              have hqS : some q ≠ some w.heap.size := fun e => own_blk hO6.a.1 DS6 (by decide) (by rw [← e]; rfl)
              have hqR : some q ≠ some (w.heap.size + 1) := fun e => own_blk hO6.a.1 DR6 (by decide) (by rw [← e]; rfl)
              have DS7 := DS6.far (p := ⟨q, p2, none⟩) (fun e => hqS (by rw [e])) (.int .u64 0)
              have DR7 := DR6.far (p := ⟨q, p2, none⟩) (fun e => hqR (by rw [e])) (.int .u64 0)
              have hb07 := hb06.setCell (p := ⟨q, p2, none⟩) (by dsimp only; omega) (.int .u64 0)
              have hO7 := hO6.setA hp2n (v := 0) rfl
              have f3 := DR7.frozen 0
              have f4 := DR7.frozen 1
              have f5 := DR7.frozen 2
              obtain ⟨v0, v1, v2⟩ := DS7.three
              obtain ⟨r0, r1, r2⟩ := DR7.three
              have HOf := Lib.hid (hO7.store DR7 (by decide) (by decide) (.slice (some ⟨q, 0, none⟩) n d1) (.slice A2 gn d2) (.slice A3 kn d3))
              have HBf2 := Lib.hid (below_block3 (g := w.heap.size + 1) hb07 (Nat.le_succ _) (.slice (some ⟨q, 0, none⟩) n d1) (.slice A2 gn d2) (.slice A3 kn d3))
              have HZf2 := Lib.hid (DR7.store3 (.slice (some ⟨q, 0, none⟩) n d1) (.slice A2 gn d2) (.slice A3 kn d3)).three
              have HWA : Hid (writeL a ⟨I, r, bb, t, f⟩ k (-1) = a.set p2 0) := by show _ = _; unfold writeL; rw [HP.out]; rfl
              have HWG : Hid (writeG g b I (-1) = g) := by show _ = _; unfold writeG; rw [if_neg (by omega)]
              clear hO hO6 hO7
              go_wp2
              refine bodyPost_ret (v := .tuple #[.agg #[.slice (some ⟨q, 0, none⟩) n d1, .slice A2 gn d2, .slice A3 kn d3], .int .i64 0]) ?_ rfl ⟨HBf2.out, .inr ⟨HT.out, ⟨I, r, bb, t, f⟩, k, HS.out, rfl, rfl, HKR.out, .inl rfl, some ⟨q, 0, none⟩, n, d1, A2, gn, d2, A3, kn, d3, rfl, by rw [HWA.out, HWG.out]; exact HOf.out⟩⟩
              obtain ⟨z0, z1, z2⟩ := HZf2.out
              simp only [results, Try.results21]
              go_simp
            · obtain ⟨hO0, hO2⟩ := HBn.out to_ hB
              obtain ⟨O, rfl⟩ := Int.eq_ofNat_of_zero_le hO0
              obtain ⟨V, hV⟩ : ∃ V, V = O + 1 := ⟨_, rfl⟩
              have wV : IntKind.i64.wrap ((O : Int) + 1) = V := by rw [IntWalk.i64_in _ (by omega)]; omega
              have wV2 : (O : Int) + 1 = V := by omega
              have HVW : Hid ((Lit.int .u64 (V : Int)).wf = true) := by show _ = _; simp [Lit.wf, IntKind.min, IntKind.max, IntKind.signed, IntKind.bits]; omega
              have wV3 : IntKind.u64.wrap (V : Int) = V := IntWalk.u64_in _ (by omega)
              have g3 : ((O : Int) != -1) = true := by simp <;> omega
              have g4 : tb = true := by rw [HTB.out]; exact decide_eq_true hB
              have HOB := Lib.hid hB
              have HOV := Lib.hid wV2
              have HOW : Hid ((Lit.int .i64 (O : Int)).wf = true) := h3
              subst g4
              clear hB hV hO0
              go_wp2_with fail
              refine HCo1.out.mono ?_
              rintro e w5 ⟨hb5, A1, d1, A2, d2, A3, d3, rfl, hO⟩
              obtain ⟨q, e0, hqb⟩ := own_ptr hO.a.1 (by omega)
              subst e0
              have hws4 := hb04.size
              have hb05 := below_step hb04 hb5
              have DS5 := DS4.below hb5 DS4.lt
              have DR5 := DR4.below hb5 DR4.lt
              have f0 := DS5.frozen 0
              have f1 := DS5.frozen 1
              have f2 := DS5.frozen 2
              obtain ⟨u0, u1, u2⟩ := DS5.three
              have DS6 := DS5.store3 (.slice (some ⟨q, 0, none⟩) n d1) (.slice A2 gn d2) (.slice A3 kn d3)
              have DR6 := DR5.far3 (g' := w.heap.size) (by omega) (.slice (some ⟨q, 0, none⟩) n d1) (.slice A2 gn d2) (.slice A3 kn d3)
              have hb06 := below_block3 hb05 (Nat.le_refl _) (.slice (some ⟨q, 0, none⟩) n d1) (.slice A2 gn d2) (.slice A3 kn d3)
              have hO6 := (hO.store DS5 (by decide) (by decide) (.slice (some ⟨q, 0, none⟩) n d1) (.slice A2 gn d2) (.slice A3 kn d3)).mono (base := w.heap.size) hws4
              obtain ⟨t0, t1, t2⟩ := DS6.three
              obtain ⟨-, ⟨ov, hov⟩, hof⟩ := hO6.a.setElem hp2n (u := .int .u64 V) ⟨_, rfl, HVW.out⟩
              have hqS : some q ≠ some w.heap.size := fun e => own_blk hO6.a.1 DS6 (by decide) (by rw [← e]; rfl)
              have hqR : some q ≠ some (w.heap.size + 1) := fun e => own_blk hO6.a.1 DR6 (by decide) (by rw [← e]; rfl)
              have DS7 := DS6.far (p := ⟨q, p2, none⟩) (fun e => hqS (by rw [e])) (.int .u64 V)
              have DR7 := DR6.far (p := ⟨q, p2, none⟩) (fun e => hqR (by rw [e])) (.int .u64 V)
              have hb07 := hb06.setCell (p := ⟨q, p2, none⟩) (by dsimp only; omega) (.int .u64 V)
              have hO7 := hO6.setA hp2n (v := V) HVW.out
              by_cases hxb : (I : Int) ∈ b
              · have HC1 := Lib.hid (contains_int A3 kn d3 _ b I true _ (Reads.of_own hO7.b.1) (by omega) (decide_eq_true hxb))
                by_cases hwh : (O : Int) ∈ g ∨ (O : Int) ∈ b
                · have HW := Lib.hid (stepWhite_any (some ⟨q, 0, none⟩) n d1 A2 gn d2 A3 kn d3 _ g b O _ (Reads.of_own hO7.g.1) (Reads.of_own hO7.b.1) (by omega) (by omega) (Nat.le_refl _) false (by rcases hwh with h | h <;> simp [h]))
                  have HWG : Hid (writeG g b I O = g) := by show _ = _; unfold writeG greyL; rw [if_pos ⟨by omega, hxb⟩, if_pos hwh]
                  obtain ⟨v0, v1, v2⟩ := DS7.three
                  have HO7 := Lib.hid hO7
                  clear hxb hwh hO hO6 hO7
                  go_wp2_with (go_at_call 20; refine HC1.out.mono ?_; rintro e w' ⟨rfl, rfl⟩)
                  refine HW.out.mono ?_
                  rintro e w8 ⟨rfl, hb8⟩
                  have DS8 := DS7.below hb8 DS7.lt
                  have DR8 := DR7.below hb8 DR7.lt
                  have hO8 := HO7.out.below hb8
                  have hb08 := below_step hb07 hb8
                  have f3 := DR8.frozen 0
                  have f4 := DR8.frozen 1
                  have f5 := DR8.frozen 2
                  obtain ⟨v0, v1, v2⟩ := DS8.three
                  obtain ⟨r0, r1, r2⟩ := DR8.three
                  have HOf := Lib.hid (hO8.store DR8 (by decide) (by decide) (.slice (some ⟨q, 0, none⟩) n d1) (.slice A2 gn d2) (.slice A3 kn d3))
                  have HBf2 := Lib.hid (below_block3 (g := w.heap.size + 1) hb08 (Nat.le_succ _) (.slice (some ⟨q, 0, none⟩) n d1) (.slice A2 gn d2) (.slice A3 kn d3))
                  have HZf2 := Lib.hid (DR8.store3 (.slice (some ⟨q, 0, none⟩) n d1) (.slice A2 gn d2) (.slice A3 kn d3)).three
                  have HWA : Hid (writeL a ⟨I, r, bb, t, f⟩ k O = a.set p2 V) := by show _ = _; unfold writeL; rw [HP.out, HOV.out]
                  clear hO8
                  go_wp2
                  refine bodyPost_ret (v := .tuple #[.agg #[.slice (some ⟨q, 0, none⟩) n d1, .slice A2 gn d2, .slice A3 kn d3], .int .i64 0]) ?_ rfl ⟨HBf2.out, .inr ⟨HT.out, ⟨I, r, bb, t, f⟩, k, HS.out, rfl, rfl, HKR.out, (.inr HOB.out), some ⟨q, 0, none⟩, n, d1, A2, gn, d2, A3, kn, d3, rfl, by rw [HWA.out, HWG.out]; exact HOf.out⟩⟩
                  obtain ⟨z0, z1, z2⟩ := HZf2.out
                  simp only [results, Try.results21]
                  go_simp
                · have hng : (O : Int) ∉ g := fun h => hwh (.inl h)
                  have hnb : (O : Int) ∉ b := fun h => hwh (.inr h)
                  have HW := Lib.hid (stepWhite_any (some ⟨q, 0, none⟩) n d1 A2 gn d2 A3 kn d3 _ g b O _ (Reads.of_own hO7.g.1) (Reads.of_own hO7.b.1) (by omega) (by omega) (Nat.le_refl _) true (by simp [hng, hnb]))
                  have HWG : Hid (writeG g b I O = putL g O) := by show _ = _; unfold writeG; rw [if_pos ⟨by omega, hxb⟩, greyL_put _ _ _ hnb]
                  obtain ⟨v0, v1, v2⟩ := DS7.three
                  have HO7 := Lib.hid hO7
                  clear hxb hwh hng hnb hO hO6 hO7
                  go_wp2_with (go_at_call 20; refine HC1.out.mono ?_; rintro e w' ⟨rfl, rfl⟩)
                  refine HW.out.mono ?_
                  rintro e w8 ⟨rfl, hb8⟩
                  have DS8 := DS7.below hb8 DS7.lt
                  have DR8 := DR7.below hb8 DR7.lt
                  have hO8 := HO7.out.below hb8
                  have hb08 := below_step hb07 hb8
                  obtain ⟨v0, v1, v2⟩ := DS8.three
                  have HPu := Lib.hid (stepPut_any w.heap.size A2 gn d2 g O w8 hO8.g hb08.size (by omega) HT.out.gr HOW.out)
                  have HO8 := Lib.hid hO8
                  clear hO8 HW hb8
                  go_wp2_with fail
                  refine HPu.out.mono ?_
                  rintro e w9 ⟨A9, d9, rfl, hp9, -, hgr9, hbl9⟩
                  have hO9 := HO8.out.putG hp9 hgr9 hbl9
                  have DS9 := DS8.grown hgr9 (own_blk HO8.out.g.1 DS8 (by decide)).symm
                  have DR9 := DR8.grown hgr9 (own_blk HO8.out.g.1 DR8 (by decide)).symm
                  have hb09 := hb08.grown hgr9 hb08.size (fun k hk => (HO8.out.g.1.lt k hk).1)
                  generalize hgz : (putL g O).length = gz at *
                  have hOz := hO9.set DS9 (by decide) (by decide) 1 (.slice A9 gz d9)
                  have DSz : Blk (w9.setCell ⟨w.heap.size, 1, none⟩ (.slice A9 gz d9)) w.heap.size 25 #[.slice (some ⟨q, 0, none⟩) n d1, .slice A9 gz d9, .slice A3 kn d3] := by simpa using DS9.set_ 1 (.slice A9 gz d9)
                  have DRz := DR9.far (p := ⟨w.heap.size, 1, none⟩) (by dsimp only; omega) (.slice A9 gz d9)
                  have hbz := hb09.setCell (p := ⟨w.heap.size, 1, none⟩) (Nat.le_refl _) (.slice A9 gz d9)
                  have f9 := DS9.frozen 1
                  have v9 := DS9.three.2.1
                  have f3 := DRz.frozen 0
                  have f4 := DRz.frozen 1
                  have f5 := DRz.frozen 2
                  obtain ⟨v0, v1, v2⟩ := DSz.three
                  obtain ⟨r0, r1, r2⟩ := DRz.three
                  have HOf := Lib.hid (hOz.store DRz (by decide) (by decide) (.slice (some ⟨q, 0, none⟩) n d1) (.slice A9 gz d9) (.slice A3 kn d3))
                  have HBf2 := Lib.hid (below_block3 (g := w.heap.size + 1) hbz (Nat.le_succ _) (.slice (some ⟨q, 0, none⟩) n d1) (.slice A9 gz d9) (.slice A3 kn d3))
                  have HZf2 := Lib.hid (DRz.store3 (.slice (some ⟨q, 0, none⟩) n d1) (.slice A9 gz d9) (.slice A3 kn d3)).three
                  have HWA : Hid (writeL a ⟨I, r, bb, t, f⟩ k O = a.set p2 V) := by show _ = _; unfold writeL; rw [HP.out, HOV.out]
                  clear hO9 hOz hp9 hgr9 hbl9 HPu hgz
                  go_wp2
                  refine bodyPost_ret (v := .tuple #[.agg #[.slice (some ⟨q, 0, none⟩) n d1, .slice A9 gz d9, .slice A3 kn d3], .int .i64 0]) ?_ rfl ⟨HBf2.out, .inr ⟨HT.out, ⟨I, r, bb, t, f⟩, k, HS.out, rfl, rfl, HKR.out, (.inr HOB.out), some ⟨q, 0, none⟩, n, d1, A9, gz, d9, A3, kn, d3, rfl, by rw [HWA.out, HWG.out]; exact HOf.out⟩⟩
                  obtain ⟨z0, z1, z2⟩ := HZf2.out
                  simp only [results, Try.results21]
                  go_simp
              · have HC1 := Lib.hid (contains_int A3 kn d3 _ b I false _ (Reads.of_own hO7.b.1) (by omega) (decide_eq_false hxb))
                have HNX := Lib.hid hxb
                have f3 := DR7.frozen 0
                have f4 := DR7.frozen 1
                have f5 := DR7.frozen 2
                obtain ⟨v0, v1, v2⟩ := DS7.three
                obtain ⟨r0, r1, r2⟩ := DR7.three
                have HOf := Lib.hid (hO7.store DR7 (by decide) (by decide) (.slice (some ⟨q, 0, none⟩) n d1) (.slice A2 gn d2) (.slice A3 kn d3))
                have HBf2 := Lib.hid (below_block3 (g := w.heap.size + 1) hb07 (Nat.le_succ _) (.slice (some ⟨q, 0, none⟩) n d1) (.slice A2 gn d2) (.slice A3 kn d3))
                have HZf2 := Lib.hid (DR7.store3 (.slice (some ⟨q, 0, none⟩) n d1) (.slice A2 gn d2) (.slice A3 kn d3)).three
                have HWA : Hid (writeL a ⟨I, r, bb, t, f⟩ k O = a.set p2 V) := by show _ = _; unfold writeL; rw [HP.out, HOV.out]
                have HWG : Hid (writeG g b I O = g) := by show _ = _; unfold writeG; rw [if_neg (fun h => HNX.out h.2)]
                clear hO hO6 hO7 hxb
                go_wp2_with (go_at_call 20; refine HC1.out.mono ?_; rintro e w' ⟨rfl, rfl⟩)
                refine bodyPost_ret (v := .tuple #[.agg #[.slice (some ⟨q, 0, none⟩) n d1, .slice A2 gn d2, .slice A3 kn d3], .int .i64 0]) ?_ rfl ⟨HBf2.out, .inr ⟨HT.out, ⟨I, r, bb, t, f⟩, k, HS.out, rfl, rfl, HKR.out, (.inr HOB.out), some ⟨q, 0, none⟩, n, d1, A2, gn, d2, A3, kn, d3, rfl, by rw [HWA.out, HWG.out]; exact HOf.out⟩⟩
                obtain ⟨z0, z1, z2⟩ := HZf2.out
                simp only [results, Try.results21]
                go_simp
          · have g3 : (to_ != -1) = true := by simp; exact fun h => c3 (.inl h)
            have g4 : tb = false := by rw [HTB.out]; exact decide_eq_false (fun h => c3 (.inr h))
            subst g4
            clear hs hsS hok
            go_wp2
            refine bodyPost_ret (v := .tuple #[.agg #[.slice none 0 0, .slice none 0 0, .slice none 0 0], .int .i64 4]) ?_ rfl ⟨HBf.out, .inl ⟨4, by decide, rfl⟩⟩
            obtain ⟨z0, z1, z2⟩ := HZf.out
            simp only [results, Try.results21]
            go_simp
    · rw [decide_eq_false hm] at lookA
      clear hm hbnd
      go_wp2
      refine bodyPost_ret (v := .tuple #[.agg #[.slice none 0 0, .slice none 0 0, .slice none 0 0], .int .i64 5]) ?_ rfl ⟨HBf.out, .inl ⟨5, by decide, rfl⟩⟩
      obtain ⟨z0, z1, z2⟩ := HZf.out
      simp only [results, Try.results21]
      go_simp
  · clear hgx hkx ha hr hg hk
    go_enter Try.func21, Try.ntmps21
    go_wp2_with fail
    refine HC.out.mono ?_
    rintro e w1 ⟨⟨E, rfl, hE⟩, hb1⟩
    have hE0 : E ≠ 0 := fun h => hT (hE.1 h)
    have hE1 : (E != 0) = true := by simpa using hE0
    have HE := Lib.hid hE0
    have DR1 := DR.below hb1 DR.lt
    have f0 := DR1.frozen 0
    have f1 := DR1.frozen 1
    have f2 := DR1.frozen 2
    obtain ⟨r0, r1, r2⟩ := DR1.three
    have hbb := below_step hb0 hb1
    clear hE hE0 hb1
    go_wp2
    refine bodyPost_ret (v := .tuple #[.agg #[.slice none 0 0, .slice none 0 0, .slice none 0 0], .int .i64 E]) ?_ rfl ⟨below_block3 hbb (Nat.le_succ _) _ _ _, .inl ⟨E, HE.out, rfl⟩⟩
    obtain ⟨z0, z1, z2⟩ := (DR1.store3 (.slice none 0 0) (.slice none 0 0) (.slice none 0 0)).three
    simp only [results, Try.results21]
    go_simp
def WriteOut (a g b : List Int) (at_ ref to_ : Int) (base : Nat) (w' : World) (A1 : Option Addr) (n1 c1 : Nat) (A2 : Option Addr) (n2 c2 : Nat) (A3 : Option Addr) (n3 c3 : Nat) (E : Int) : Prop :=
  E ≠ 0 ∨ (E = 0 ∧ TriOk a g b ∧ ∃ (s : Spot) (k : Nat), spotAt (spotsL a) s.loc = some s ∧ at_ = s.loc ∧ ref = k ∧ (k : Int) < s.r ∧ (to_ = -1 ∨ to_ ∈ begsL (spotsL a)) ∧ TriO w' base A1 n1 c1 A2 n2 c2 A3 n3 c3 (writeL a s k to_) (writeG g b s.loc to_) b)
theorem WriteOut.imp {a g b : List Int} {at_ ref to_ : Int} {base base' : Nat} {w w' : World} {A1 : Option Addr} {n1 c1 : Nat} {A2 : Option Addr} {n2 c2 : Nat} {A3 : Option Addr} {n3 c3 : Nat} {E : Int}
    (h : WriteOut a g b at_ ref to_ base w A1 n1 c1 A2 n2 c2 A3 n3 c3 E) (hf : ∀ a' g', TriO w base A1 n1 c1 A2 n2 c2 A3 n3 c3 a' g' b → TriO w' base' A1 n1 c1 A2 n2 c2 A3 n3 c3 a' g' b) : WriteOut a g b at_ ref to_ base' w' A1 n1 c1 A2 n2 c2 A3 n3 c3 E := by
  rcases h with h | ⟨h0, hT, s, k, h1, h2, h3, h4, h5, hO⟩
  · exact .inl h
  · exact .inr ⟨h0, hT, s, k, h1, h2, h3, h4, h5, hf _ _ hO⟩
theorem WriteRet.named {a g b : List Int} {at_ ref to_ : Int} {base : Nat} {e : Ending} {w' : World} (h : WriteRet a g b at_ ref to_ base e w') :
    ∃ (A1 : Option Addr) (n1 c1 : Nat) (A2 : Option Addr) (n2 c2 : Nat) (A3 : Option Addr) (n3 c3 : Nat) (E : Int), e = .returned (.tuple #[.agg #[.slice A1 n1 c1, .slice A2 n2 c2, .slice A3 n3 c3], .int .i64 E]) ∧ WriteOut a g b at_ ref to_ base w' A1 n1 c1 A2 n2 c2 A3 n3 c3 E := by
  rcases h with ⟨E, hE, rfl⟩ | ⟨hT, s, k, h1, h2, h3, h4, h5, A1, n1, c1, A2, n2, c2, A3, n3, c3, rfl, hO⟩
  · exact ⟨none, 0, 0, none, 0, 0, none, 0, 0, E, rfl, .inl hE⟩
  · exact ⟨A1, n1, c1, A2, n2, c2, A3, n3, c3, 0, rfl, .inr ⟨rfl, hT, s, k, h1, h2, h3, h4, h5, hO⟩⟩
end Go.Proofs.Ytgkoaambdejkdaa

namespace Go.Proofs.Ytgkoaambdejkdaa
open Go.RowKit
theorem youngNamed_at {a : List Int} (hE : checkE a = 0) {x : Int} (hx : x ∈ begsL (spotsL a)) (A : Option Addr) (n c : Nat) (hnc : n ≤ c) (hn : n ≤ 256) :
    ∃ (r bb t : Int) (fr : Bool), headF (spotsL a) x = some (.agg #[.int .i64 r, .int .i64 bb, .int .i64 t, .bool fr]) ∧ (linksAt a (spotsL a) x).length ≤ 256 ∧ ∀ w : World, Reads w w.heap.size 1 A n (a.map (.int .u64)) →
      Calls Try.prog 68 #[.slice A n c, .int .i64 x, .agg #[.int .i64 r, .int .i64 bb, .int .i64 t, .bool fr]] w fun e w' => Below w.heap.size w w' ∧ ∃ A' c', e = .returned (.slice A' (linksAt a (spotsL a) x).length c') ∧ w'.ownsRow w.heap.size 3 1 (.slice A' (linksAt a (spotsL a) x).length c') (linksAt a (spotsL a) x).length ((linksAt a (spotsL a) x).map (.int .i64)) := by
  have h0 := (checkE_ok.1 hE).1
  obtain ⟨s, hs⟩ := begsL_iff.1 hx
  obtain ⟨hsS, -, hsl⟩ := spotAt_some hs
  have hok := (parse_mem (parse_ok h0).2 s hsS).1
  have hlk : linksAt a (spotsL a) x = linksL a s := by unfold linksAt; rw [hs]
  have hbd : ∀ v ∈ refsOf a s, v = 0 ∨ 1 ≤ v ∧ v ≤ 256 := fun v hv => by
    by_cases hv0 : v = 0
    · exact .inl hv0
    · have h1 : v - 1 ∈ linksL a s := List.mem_map.2 ⟨v, List.mem_filter.2 ⟨hv, by simpa using hv0⟩, rfl⟩
      have := begsL_bounds h0 _ (links_begs hE hsS _ h1)
      exact .inr (by omega)
  have hlen : (linksL a s).length ≤ 256 := by
    have h1 : (linksL a s).length ≤ (refsOf a s).length := by
      unfold linksL
      rw [List.length_map]
      exact List.length_filter_le _ _
    have h2 := refsOf_length hok
    have h3 := hok.fits
    have h4 := (parse_ok h0).1
    have h5 := hok.loc0
    have h6 := hok.b0
    unfold Spot.long at h3
    omega
  rw [hlk]
  refine ⟨s.r, s.b, s.t, s.f, by unfold headF; rw [hs]; rfl, hlen, fun w hr => ?_⟩
  have := youngNamed_any A n c a s s.f w hr hnc hn hok hbd
  rwa [hsl] at this
set_option maxRecDepth 100000 in
set_option maxHeartbeats 1000000 in
theorem youngKeep_bad (A : Option Addr) (n c : Nat) (G : Option Addr) (gn gc : Nat) (K : Option Addr) (kn kc : Nat) (a g b : List Int) (A2 : Option Addr) (n2 c2 : Nat) (w : World) (hr : Reads w w.heap.size 1 A n (a.map (.int .u64))) (hnc : n ≤ c) (ha : ∀ x ∈ a, (Lit.int .u64 x).wf = true)
    (hg : Reads w w.heap.size 1 G gn (g.map (.int .i64))) (hgx : ∀ x ∈ g, (Lit.int .i64 x).wf = true) (hk : Reads w w.heap.size 1 K kn (b.map (.int .i64))) (hkx : ∀ x ∈ b, (Lit.int .i64 x).wf = true) (hgn : gn ≤ 1000000000000000000) (hkn : kn ≤ 1000000000000000000) (hT : ¬ AgesOk a g b) :
    Calls Try.prog 29 #[.agg #[.slice A n c, .slice G gn gc, .slice K kn kc], .slice A2 n2 c2] w fun e w' => Below w.heap.size w w' ∧ ∃ E, E ≠ 0 ∧ e = .returned (.tuple #[.slice none 0 0, .int .i64 E]) := by
  have hb0 := below_new w (.cells #[.slice A n c, .slice G gn gc, .slice K kn kc] 52)
  have DS := Blk.new w 52 #[.slice A n c, .slice G gn gc, .slice K kn kc]
  obtain ⟨s0, s1, s2⟩ := DS.three
  have HC := Lib.hid (youngCheck_any A n c G gn gc K kn kc a g b _ ((hr.below hb0).more hb0.size) hnc ha ((hg.below hb0).more hb0.size) hgx ((hk.below hb0).more hb0.size) hkx hgn hkn)
  clear ha hgx hkx hr hg hk
  go_enter Try.func29, Try.ntmps29
  go_wp2_with fail
  refine HC.out.mono ?_
  rintro e w1 ⟨⟨E, rfl, hE⟩, hb1⟩
  have hE0 : E ≠ 0 := fun h => hT (hE.1 h)
  have hE1 : (E != 0) = true := by simpa using hE0
  have HE := Lib.hid hE0
  clear hE hE0
  go_wp2
  go_ret2
  exact ⟨below_step hb0 hb1, E, HE.out, rfl⟩
set_option maxRecDepth 100000 in
set_option maxHeartbeats 4000000 in
theorem youngKeep_ok (A : Option Addr) (n c : Nat) (G : Option Addr) (gn gc : Nat) (K : Option Addr) (kn kc : Nat) (a g b : List Int) (A2 : Option Addr) (n2 c2 : Nat) (f : List Int) (w : World) (hr : Reads w w.heap.size 1 A n (a.map (.int .u64))) (hnc : n ≤ c) (ha : ∀ x ∈ a, (Lit.int .u64 x).wf = true)
    (hg : Reads w w.heap.size 1 G gn (g.map (.int .i64))) (hgx : ∀ x ∈ g, (Lit.int .i64 x).wf = true) (hk : Reads w w.heap.size 1 K kn (b.map (.int .i64))) (hkx : ∀ x ∈ b, (Lit.int .i64 x).wf = true)
    (hr2 : Reads w w.heap.size 1 A2 n2 (f.map (.int .i64))) (hn2 : n2 ≤ 1000000000000000000) (hx2 : ∀ x ∈ f, (Lit.int .i64 x).wf = true) (hT : AgesOk a g b) :
    Calls Try.prog 29 #[.agg #[.slice A n c, .slice G gn gc, .slice K kn kc], .slice A2 n2 c2] w fun e w' => Below w.heap.size w w' ∧
      (((∀ x ∈ f, x ∈ begsL (spotsL a)) ∧ ∃ (L : List Int) (A' : Option Addr) (c' : Nat), KeptY a g b f L ∧ e = .returned (.tuple #[.slice A' L.length c', .int .i64 0]) ∧ w'.ownsRow w.heap.size 3 1 (.slice A' L.length c') L.length (L.map (.int .i64))) ∨
       ((∃ x ∈ f, x ∉ begsL (spotsL a)) ∧ e = .returned (.tuple #[.slice none 0 0, .int .i64 5]))) := by
  obtain ⟨l1, l1', l2⟩ := hT.lens
  have h0 := (checkE_ok.1 hT.ok).1
  have hkl : b.length = kn := by have := hk.1; simpa using this
  have hgl : g.length = gn := by have := hg.1; simpa using this
  have hal : a.length = n := by have := hr.1; simpa using this
  have hn256 : n ≤ 256 := by omega
  have hg256 : gn ≤ 256 := by omega
  have hk256 : kn ≤ 256 := by omega
  have hb0 := below_new w (.cells #[.slice A n c, .slice G gn gc, .slice K kn kc] 52)
  have DS := Blk.new w 52 #[.slice A n c, .slice G gn gc, .slice K kn kc]
  obtain ⟨s0, s1, s2⟩ := DS.three
  have HC := Lib.hid (youngCheck_any A n c G gn gc K kn kc a g b _ ((hr.below hb0).more hb0.size) hnc ha ((hg.below hb0).more hb0.size) hgx ((hk.below hb0).more hb0.size) hkx (by omega) (by omega))
  have HOb := Lib.hid (fun w hr => youngObjects_any A n c a w hr ha h0)
  have HNm := Lib.hid (fun (x : Int) (hx : x ∈ begsL (spotsL a)) => youngNamed_at hT.ok hx A n c hnc hn256)
  have HT := Lib.hid hT
  have H0 := Lib.hid h0
  have HX2 := Lib.hid hx2
  have HKX := Lib.hid hkx
  have HLB := Lib.hid (linksAt_begs hT.ok)
  have HFL : Hid (f.length = n2) := by show _ = _; have := hr2.1; simpa using this
  have HBL : Hid (b.length = kn) := hkl
  clear hgx hkx ha hkl hgl hal hx2 hT h0
  go_enter Try.func29, Try.ntmps29
  go_wp2_with fail
  refine HC.out.mono ?_
  rintro e w1 ⟨⟨E, rfl, hE⟩, hb1⟩
  obtain rfl := hE.2 HT.out
  have DS1 := DS.below hb1 DS.lt
  have hb01 := below_step hb0 hb1
  obtain ⟨s0, s1, s2⟩ := DS1.three
  have HO1 := Lib.hid (HOb.out w1 ((hr.below hb01).more hb01.size))
  clear hE hb1 HC HOb hb0
  go_wp2_with fail
  refine HO1.out.mono ?_
  rintro e W0 ⟨bm, rfl, hbm, hM, hb2⟩
  have hb02 := below_step hb01 hb2
  have DS0 := DS1.below hb2 DS1.lt
  have hbt := DS0.lt
  have hbml := hM.lt
  have hW0 := hb02.size
  have HCome := Lib.hid (fun (kb : Option (Nat × Obj)) (out : List Int) (x : Int) (w' : World) (h : ComeY W0 kb out w') (hl : out.length ≤ 100000) => comeY_any W0 kb w.heap.size A n c G gn gc K kn kc w.heap.size g out x w' DS0 (hg.below hb02) (by omega) hW0 h hl)
  have hC0 : ComeY W0 none [] (W0.alloc (.cells #[.slice none 0 0] 23)) := ⟨none, 0, Blk.new W0 _ _, World.ownsRow_nil _ _ _ _, below_new W0 _, fun k ob e => by cases e⟩
  have hcf := fun (x : Value) (wx : World) => (plain_of (fn := Try.f72) Try.func72 (by kernel_rfl) (by kernel_rfl)) #[x, .pointer (some ⟨w.heap.size, 0, none⟩), .pointer (some ⟨W0.heap.size, 0, none⟩)] wx
  have HC0 := Lib.hid hC0
  have HM := Lib.hid hM
  clear hC0 hM hb2 HO1 DS1 hb01 hbm
  go_wp2
  go_loopw [11, 12, 13, 32] (fun _ _ _ i wr => ∃ (j : Nat) (out : List Int), j ≤ n2 ∧ i = .int .i64 j ∧ Hid (ComeY W0 none out wr) ∧ Hid (Coming a g out 0 ∧ ∀ x ∈ f.take j, x ∈ g ∨ x ∈ out) ∧ Hid (∀ x ∈ f.take j, x ∈ begsL (spotsL a))) (fun _ _ _ i _ => n2 - (intOf i).toNat)
  case atStart => exact ⟨0, [], Nat.zero_le _, rfl, HC0, ⟨Coming.nil a g, by intro x hx; simp at hx⟩, by intro x hx; simp at hx⟩
  case round =>
    obtain ⟨j, out, hj, rfl, HS, HI, HA⟩ := hrel
    have hlow := HS.out.low
    have hbw := below_step hb02 hlow
    have DSw := DS0.below hlow hbt
    have hMw := HM.out.below hlow hbml
    obtain ⟨d0, d1, d2⟩ := DSw.three
    by_cases hlt : j < n2
    · obtain ⟨ad, x, rfl, had, hx, cx⟩ := (hr2.below hbw).num hlt
      have hxf := List.mem_of_getElem? hx
      obtain ⟨rA, bA, tA, fA, lookA, -⟩ := look_head hMw (HX2.out x hxf)
      have hj1 : j + 1 ≤ n2 := hlt
      by_cases hm : x ∈ begsL (spotsL a)
      · rw [decide_eq_true hm] at lookA
        have hSx := HS.out.below (below_new wr (.cells #[.int .i64 rA, .int .i64 bA, .int .i64 tA, .bool fA] 78))
        have hol := HI.out.1.len H0.out
        have HCx := Lib.hid (HCome.out none out x _ hSx (by omega))
        have HI2 : Hid (Coming a g (comeL g out x) 0 ∧ ∀ y ∈ f.take (j + 1), y ∈ g ∨ y ∈ comeL g out x) := by
          refine ⟨HI.out.1.come (Nat.zero_le _) hm, fun y hy => ?_⟩
          rcases take_succ_mem hx y hy with h | rfl
          · exact (HI.out.2 y h).imp id comeL_sub
          · exact comeL_has g out y
        have HA2 : Hid (∀ y ∈ f.take (j + 1), y ∈ begsL (spotsL a)) := by
          intro y hy
          rcases take_succ_mem hx y hy with h | rfl
          · exact HA.out y h
          · exact hm
        clear hx hxf hm hSx hol HI HA HS hMw
        go_wp2_with fail
        refine HCx.out.mono ?_
        rintro e w5 ⟨rfl, hS5⟩
        have HS5 := Lib.hid hS5
        go_wp2
        go_roundw
        case rel => exact ⟨j + 1, _, hj1, by go_num, HS5, HI2, HA2⟩
        case measure => simp [intOf]; omega
      · rw [decide_eq_false hm] at lookA
        have HEX : Hid (∃ x ∈ f, x ∉ begsL (spotsL a)) := ⟨x, hxf, hm⟩
        have hbx := hbw.alloc hbw.size (.cells #[.int .i64 rA, .int .i64 bA, .int .i64 tA, .bool fA] 78)
        clear hx hxf hm HI HA HS hMw
        go_wp2
        go_ret2
        exact ⟨hbx, .inr ⟨HEX.out, rfl⟩⟩
    · have HFa : Hid (∀ x ∈ f, x ∈ begsL (spotsL a)) := by
        have := HA.out
        rw [List.take_of_length_le (by have := HFL.out; omega)] at this
        exact this
      have HFr : Hid (∀ x ∈ f, x ∈ g ∨ x ∈ out) := by
        have := HI.out.2
        rw [List.take_of_length_le (by have := HFL.out; omega)] at this
        exact this
      have HCo := Lib.hid HI.out.1
      have g0 : decide (j < n2) = false := decide_eq_false hlt
      obtain ⟨wo, hwo⟩ : ∃ x, x = wr := ⟨wr, rfl⟩
      subst hwo
      clear HI HA hlow hbw hMw DSw
      go_wp2
      go_loopw [15, 51] (fun _ i wr => ∃ (j : Nat) (out : List Int), j ≤ kn ∧ i = .int .i64 j ∧ Hid (ComeY W0 none out wr) ∧ Hid (Coming a g out 0 ∧ ∀ x ∈ f, x ∈ g ∨ x ∈ out) ∧ Hid (∀ x ∈ b.take j, ∀ y ∈ linksAt a (spotsL a) x, y ∈ g ∨ y ∈ out)) (fun _ i _ => kn - (intOf i).toNat)
      case atStart => exact ⟨0, out, Nat.zero_le _, rfl, HS, ⟨HCo.out, HFr.out⟩, by intro x hx; simp at hx⟩
      case round =>
        obtain ⟨j, out, hj, rfl, HS, HI, HNt⟩ := hrel
        have hlow := HS.out.low
        have hbw := below_step hb02 hlow
        have DSw := DS0.below hlow hbt
        have hMw := HM.out.below hlow hbml
        obtain ⟨d0, d1, d2⟩ := DSw.three
        by_cases hlt : j < kn
        · obtain ⟨ad, x, rfl, had, hx, cx⟩ := (hk.below hbw).num hlt
          have hxb := List.mem_of_getElem? hx
          have hxbeg := HT.out.ob x (HT.out.nb x hxb)
          obtain ⟨r, bb, tg, fr, e1, hlen, HN⟩ := HNm.out x hxbeg
          have hlook := hMw.look (k := 3) (t := 79) Try.underlying3 Try.underlying79 (zero_head _) (HKX.out x hxb)
          rw [e1] at hlook
          have hlook2 : (Instr.lookup 79 (.map (some bm)) (.int .i64 x) false).run Try.prog wr = .ok (.agg #[.int .i64 r, .int .i64 bb, .int .i64 tg, .bool fr]) wr := hlook
          have HN1 := Lib.hid (HN wr ((hr.below hbw).more hbw.size))
          have HTk : Hid (b.take (j + 1) = b.take j ++ [x]) := by
            show _ = _
            obtain ⟨h1, rfl⟩ := List.getElem?_eq_some_iff.1 hx
            exact List.take_succ_eq_append_getElem h1
          have hj1 : j + 1 ≤ kn := hlt
          clear hlook hx hxb hxbeg e1 HN hMw DSw
          go_wp2_with fail
          refine HN1.out.mono ?_
          rintro e w5 ⟨hb5, A8, c8, rfl, hown8⟩
          have hown8' := hown8
          have HS5 := Lib.hid (HS.out.guard hb5 hown8)
          have HLin := Lib.hid (fun y (hy : y ∈ linksAt a (spotsL a) x) => HLB.out x y hy)
          generalize hLk : linksAt a (spotsL a) x = Lk at *
          generalize hmk : Lk.length = m at *
          have HLK := Lib.hid hLk
          have HMK := Lib.hid hmk
          have HOW := Lib.hid hown8
          clear hown8 hown8' hb5 hLk hmk HS
          go_wp2
          go_loopw [17, 63] (fun _ i wr => ∃ j2 : Nat, j2 ≤ m ∧ i = .int .i64 j2 ∧ Hid (ComeY W0 (keepOf (.slice A8 m c8) w5) ((Lk.take j2).foldl (comeL g) out) wr)) (fun _ i _ => m - (intOf i).toNat)
          case atStart => exact ⟨0, Nat.zero_le _, rfl, HS5⟩
          case round =>
            obtain ⟨j2, hj2, rfl, HT2⟩ := hrel
            by_cases hlt2 : j2 < m
            · obtain ⟨ad2, y, rfl, had2, hy, cy⟩ := (Reads.of_own (HT2.out.row HOW.out)).num hlt2
              have hbeg2 : ∀ z ∈ Lk.take j2, z ∈ begsL (spotsL a) := fun z hz => HLin.out z (List.mem_of_mem_take hz)
              have hcm := Coming.comes (Lk.take j2) out HI.out.1 (Nat.zero_le _) hbeg2
              have hol := hcm.1.len H0.out
              have HCx := Lib.hid (HCome.out _ _ y _ HT2.out (by omega))
              have HFo : Hid ((Lk.take (j2 + 1)).foldl (comeL g) out = comeL g ((Lk.take j2).foldl (comeL g) out) y) := by
                show _ = _
                obtain ⟨h1, rfl⟩ := List.getElem?_eq_some_iff.1 hy
                rw [List.take_succ_eq_append_getElem h1, List.foldl_append]
                rfl
              have hj3 : j2 + 1 ≤ m := hlt2
              clear hy hbeg2 hcm hol
              go_wp2_with fail
              refine HCx.out.mono ?_
              rintro e w7 ⟨rfl, hS7⟩
              have HS7 := Lib.hid hS7
              go_wp2
              go_roundw
              case rel => exact ⟨j2 + 1, hj3, by go_num, by rw [HFo.out]; exact HS7.out⟩
              case measure => simp [intOf]; omega
            · have hjm : j2 = m := by omega
              have hfull : Lk.take j2 = Lk := List.take_of_length_le (by have := HMK.out; omega)
              have HSf : Hid (ComeY W0 none (Lk.foldl (comeL g) out) wr) := by have := HT2.out.forget; rw [hfull] at this; exact this
              have hcm := Coming.comes Lk out HI.out.1 (Nat.zero_le _) HLin.out
              have HC2 := Lib.hid hcm
              have g9 : decide (j2 < m) = false := decide_eq_false hlt2
              clear hjm hfull hcm
              have HI3 : Hid (Coming a g (Lk.foldl (comeL g) out) 0 ∧ ∀ z ∈ f, z ∈ g ∨ z ∈ Lk.foldl (comeL g) out) := ⟨HC2.out.1, fun z hz => (HI.out.2 z hz).imp id (HC2.out.2.2.1 z)⟩
              have HN3 : Hid (∀ z ∈ b.take (j + 1), ∀ y ∈ linksAt a (spotsL a) z, y ∈ g ∨ y ∈ Lk.foldl (comeL g) out) := by
                intro z hz y hy
                rw [HTk.out, List.mem_append, List.mem_singleton] at hz
                rcases hz with hz | rfl
                · exact (HNt.out z hz y hy).imp id (HC2.out.2.2.1 y)
                · rw [HLK.out] at hy
                  exact HC2.out.2.2.2.1 y hy
              go_wp2
              go_roundw
              case rel => exact ⟨j + 1, _, hj1, by go_num, HSf, HI3, HN3⟩
              case measure => simp [intOf]; omega
        · have HNa : Hid (∀ x ∈ b, ∀ y ∈ linksAt a (spotsL a) x, y ∈ g ∨ y ∈ out) := by
            have := HNt.out
            rw [List.take_of_length_le (by have := HBL.out; omega)] at this
            exact this
          have HCo := Lib.hid HI.out.1
          have HFr := Lib.hid HI.out.2
          have g0 : decide (j < kn) = false := decide_eq_false hlt
          obtain ⟨wo2, hwo⟩ : ∃ x, x = wr := ⟨wr, rfl⟩
          subst hwo
          clear HI HNt hlow hbw hMw DSw
          go_wp2
          go_loopw [18] (fun i wr => ∃ (j : Nat) (out : List Int), j ≤ out.length ∧ i = .int .i64 j ∧ Hid (ComeY W0 none out wr) ∧ Hid (Coming a g out j) ∧ Hid (∀ x ∈ f, x ∈ g ∨ x ∈ out) ∧ Hid (∀ x ∈ b, ∀ y ∈ linksAt a (spotsL a) x, y ∈ g ∨ y ∈ out)) (fun i _ => 300 - (intOf i).toNat)
          case atStart => exact ⟨0, out, Nat.zero_le _, rfl, HS, HCo, HFr, HNa⟩
          case round =>
            obtain ⟨j, out, hj, rfl, HS, HCi, HFr2, HNt2⟩ := hrel
            obtain ⟨Ao, co, hbox, hown, hlow, -⟩ := HS.out
            have hbw := below_step hb02 hlow
            have DSw := DS0.below hlow hbt
            have hMw := HM.out.below hlow hbml
            obtain ⟨d0, d1, d2⟩ := DSw.three
            have o0 := hbox.cell 0
            simp only [List.getElem?_toArray, List.getElem?_cons_zero] at o0
            have hol := HCi.out.len H0.out
            have hboxl := hbox.lt
            generalize hk9 : out.length = k at *
            by_cases hlt : j < k
            · obtain ⟨ad, x, rfl, had, hx, cx⟩ := (Reads.of_own hown).num hlt
              have hxbeg := HCi.out.begs x (List.mem_of_getElem? hx)
              have hxb := begsL_bounds H0.out x hxbeg
              obtain ⟨r, bb, tg, fr, e1, hlen, HN⟩ := HNm.out x hxbeg
              have hlook := hMw.drew.look (k := 3) (t := 79) Try.underlying3 Try.underlying79 (zero_head _) (x := x) (by simp [Lit.wf, IntKind.min, IntKind.max, IntKind.signed, IntKind.bits]; omega)
              rw [e1] at hlook
              have hlook2 : (Instr.lookup 79 (.map (some bm)) (.int .i64 x) false).run Try.prog wr.drew = .ok (.agg #[.int .i64 r, .int .i64 bb, .int .i64 tg, .bool fr]) wr.drew := hlook
              have HN1 := Lib.hid (HN wr.drew (((hr.below hbw).more hbw.size).below (Below.refl _ _).drew))
              have HXJ := Lib.hid hx
              have HK9 := Lib.hid hk9
              clear hlook hx hxbeg hxb e1 HN hMw hk9 hown hbox
              go_upto_region 27 with fail
              have hbD : Below wr.heap.size wr wr.drew := (Below.refl _ wr).drew
              have HSd := Lib.hid (HS.out.below hbD)
              go_cut [90, 91, 92] from 78 to 89 (fun s90 s91 s92 wc => ∃ A8 c8, s90 = .slice A8 (linksAt a (spotsL a) x).length c8 ∧ s91 = .int .i64 (linksAt a (spotsL a) x).length ∧ s92 = .int .i64 0 ∧ wc.ownsRow wr.heap.size 3 1 (.slice A8 (linksAt a (spotsL a) x).length c8) (linksAt a (spotsL a) x).length ((linksAt a (spotsL a) x).map (.int .i64)) ∧ Below wr.heap.size wr wc)
              case first =>
                have d0' := d0
                have o0' := o0
                have cx' := cx
                have dd0 : wr.drew.cell? ⟨w.heap.size, 0, none⟩ = some (.slice A n c) := d0
                have oo0 : wr.drew.cell? ⟨W0.heap.size, 0, none⟩ = some (.slice (some ad) k co) := o0
                have cc0 : wr.drew.cell? (ad.add j) = some (.int .i64 x) := cx
                have hadb : (ad.add j).block < wr.heap.size := by rw [block_of_add]; exact had
                have hbtr : w.heap.size < wr.heap.size := by have := hlow.size; omega
                go_region_held3 (fun w' => w'.cell? ⟨w.heap.size, 0, none⟩ = some (.slice A n c) ∧ w'.cell? ⟨W0.heap.size, 0, none⟩ = some (.slice (some ad) k co) ∧ w'.cell? (ad.add j) = some (.int .i64 x)) (go_keep)
                  (first
                    | (go_at_call 68; refine HN1.out.mono ?_; rintro e wz ⟨hbz, A8, c8, rfl, hown8⟩; have hbz : Below wr.heap.size wr wz := hbD.trans hbz; have dd0 := (hbz.cell (p := ⟨w.heap.size, 0, none⟩) hbtr).trans d0'; have oo0 := (hbz.cell (p := ⟨W0.heap.size, 0, none⟩) hboxl).trans o0'; have cc0 := (hbz.cell (p := ad.add j) hadb).trans cx'))
                all_goals
                  go_wp2_with fail
                  go_meet
                  exact ⟨_, _, rfl, rfl, rfl, hown8, hbz⟩
              case rest =>
                obtain ⟨A8, c8, rfl, rfl, rfl, hown8, hb5⟩ := hcut
                have HSd : Hid (ComeY W0 none out wr) := HS
                have hown8' := hown8
                have HS5 := Lib.hid (HSd.out.guard hb5 hown8)
                have HLin := Lib.hid (fun y (hy : y ∈ linksAt a (spotsL a) x) => HLB.out x y hy)
                generalize hLk : linksAt a (spotsL a) x = Lk at *
                generalize hmk : Lk.length = m at *
                have HLK := Lib.hid hLk
                have HMK := Lib.hid hmk
                have HOW := Lib.hid hown8
                clear hown8 hown8' hb5 hLk hmk HS HSd
                go_wp2
                go_loopw [20, 92] (fun _ i wr => ∃ j2 : Nat, j2 ≤ m ∧ i = .int .i64 j2 ∧ Hid (ComeY W0 (keepOf (.slice A8 m c8) wc) ((Lk.take j2).foldl (comeL g) out) wr)) (fun _ i _ => m - (intOf i).toNat)
                case atStart => exact ⟨0, Nat.zero_le _, rfl, HS5⟩
                case round =>
                  obtain ⟨j2, hj2, rfl, HT2⟩ := hrel
                  by_cases hlt2 : j2 < m
                  · obtain ⟨ad2, y, rfl, had2, hy, cy⟩ := (Reads.of_own (HT2.out.row HOW.out)).num hlt2
                    have hbeg2 : ∀ z ∈ Lk.take j2, z ∈ begsL (spotsL a) := fun z hz => HLin.out z (List.mem_of_mem_take hz)
                    have hcm := Coming.comes (Lk.take j2) out HCi.out (by rw [HK9.out]; exact hj) hbeg2
                    have hol := hcm.1.len H0.out
                    have HCx := Lib.hid (HCome.out _ _ y _ HT2.out (by omega))
                    have HFo : Hid ((Lk.take (j2 + 1)).foldl (comeL g) out = comeL g ((Lk.take j2).foldl (comeL g) out) y) := by
                      show _ = _
                      obtain ⟨h1, rfl⟩ := List.getElem?_eq_some_iff.1 hy
                      rw [List.take_succ_eq_append_getElem h1, List.foldl_append]
                      rfl
                    have hj3 : j2 + 1 ≤ m := hlt2
                    clear hy hbeg2 hcm hol
                    go_wp2_with fail
                    refine HCx.out.mono ?_
                    rintro e w7 ⟨rfl, hS7⟩
                    have HS7 := Lib.hid hS7
                    go_wp2
                    go_roundw
                    case rel => exact ⟨j2 + 1, hj3, by go_num, by rw [HFo.out]; exact HS7.out⟩
                    case measure => simp [intOf]; omega
                  · have hjm : j2 = m := by omega
                    have hfull : Lk.take j2 = Lk := List.take_of_length_le (by have := HMK.out; omega)
                    have HSf : Hid (ComeY W0 none (Lk.foldl (comeL g) out) wr) := by have := HT2.out.forget; rw [hfull] at this; exact this
                    have hcm := Coming.comes Lk out HCi.out (by rw [HK9.out]; exact hj) HLin.out
                    have HC2 := Lib.hid hcm
                    have g9 : decide (j2 < m) = false := decide_eq_false hlt2
                    clear hjm hfull hcm
                    have hgx : (Lk.foldl (comeL g) out)[j]? = some x := HC2.out.2.2.2.2 j x HXJ.out
                    have HI3 : Hid (Coming a g (Lk.foldl (comeL g) out) (j + 1)) := HC2.out.1.next hgx (fun y hy => HC2.out.2.2.2.1 y (by rw [HLK.out] at hy; exact hy))
                    have HF3 : Hid (∀ z ∈ f, z ∈ g ∨ z ∈ Lk.foldl (comeL g) out) := fun z hz => (HFr2.out z hz).imp id (HC2.out.2.2.1 z)
                    have HN3 : Hid (∀ z ∈ b, ∀ y ∈ linksAt a (spotsL a) z, y ∈ g ∨ y ∈ Lk.foldl (comeL g) out) := fun z hz y hy => (HNt2.out z hz y hy).imp id (HC2.out.2.2.1 y)
                    have hj9 : j + 1 ≤ (Lk.foldl (comeL g) out).length := by have := (List.getElem?_eq_some_iff.1 hgx).1; omega
                    have HJ9 := Lib.hid hj9
                    have hj300 : j < 300 := by omega
                    clear hgx hj9
                    go_wp2
                    go_roundw
                    case rel => exact ⟨j + 1, _, HJ9.out, by go_num, HSf, HI3, HF3, HN3⟩
                    case measure => simp [intOf]; omega
            · have hjk : j = k := by omega
              have HSo := Lib.hid (sort_int _ Ao k co out wr hown (by omega))
              have HDn : Hid (KeptY a g b f (sortL out)) := by
                have h1 := HCi.out
                rw [hjk, ← hk9] at h1
                exact h1.done HFr2.out HNt2.out
              have hkS : k = (sortL out).length := by rw [sortL_length]; exact hk9.symm
              have HKS := Lib.hid hkS
              have HOw := Lib.hid hown
              have HBx := Lib.hid hbox
              have g9 : decide (j < k) = false := decide_eq_false hlt
              clear hjk hk9 hown hbox hkS hMw DSw
              go_wp2_with fail
              refine HSo.out.mono ?_
              rintro e w5 ⟨rfl, hown5, hg5⟩
              have e6 := HBx.out.grown hg5 (fun h => own_off HOw.out (by omega) h.symm)
              have p0 := e6.cell 0
              simp only [List.getElem?_toArray, List.getElem?_cons_zero] at p0
              have hbz := hbw.grown hg5 hbw.size (fun g hg => by have := (HOw.out.lt g hg).1; omega)
              have HO5 := Lib.hid (own_mono (base := w.heap.size) hown5 (by omega))
              clear hown5 hg5 e6
              go_wp2
              go_ret2
              exact ⟨hbz, .inl ⟨HFa.out, sortL out, Ao, co, HDn.out, by rw [← HKS.out]; rfl, by rw [← HKS.out]; exact HO5.out⟩⟩
end Go.Proofs.Ytgkoaambdejkdaa

namespace Go.Proofs.Ytgkoaambdejkdaa
open Go.RowKit
def freed (s : Spot) : Spot := ⟨s.loc, 0, s.long - 1, 0, true⟩
def freeAt (a : List Int) (s : Spot) : List Int := (fillL a s.loc.toNat s.long.toNat 0).set s.loc.toNat (wordOf 0 (s.long - 1) 0 true)
theorem fill_mid {pre mid suf : List Int} {n : Nat} {v w : Int} (hn : mid.length = n + 1) : (fillL (pre ++ (mid ++ suf)) pre.length (n + 1) v).set pre.length w = pre ++ ((w :: List.replicate n v) ++ suf) := by
  unfold fillL
  rw [List.take_left, show pre.length + (n + 1) = (pre ++ mid).length by rw [List.length_append, hn], ← List.append_assoc pre mid suf, List.drop_left, List.append_assoc, List.set_append, if_neg (by omega), Nat.sub_self, List.replicate_succ]
  rfl
theorem free_one {a : List Int} (h : spotsE a = 0) {s : Spot} (hs : s ∈ spotsL a) :
    (freeAt a s).length = a.length ∧ spotsE (freeAt a s) = 0 ∧ (∃ i : Nat, (spotsL a)[i]? = some s ∧ spotsL (freeAt a s) = (spotsL a).set i (freed s)) ∧ ∀ s' ∈ spotsL a, s' ≠ s → refsOf (freeAt a s) s' = refsOf a s' := by
  obtain ⟨cs, hok, rfl, hS, hlen⟩ := arena_chunks h
  obtain ⟨i, hi⟩ := List.mem_iff_getElem?.1 hs
  have hi' := hi
  rw [hS] at hi
  have hil : i < cs.length := by have := (List.getElem?_eq_some_iff.1 hi).1; rw [spotsF_len] at this; exact this
  have hc : cs[i]? = some cs[i] := List.getElem?_eq_getElem hil
  generalize cs[i] = c at hc
  have hix := spotsFrom_ix cs 0 i c hc
  rw [Nat.zero_add] at hix
  obtain rfl : c.spot (chunksW (cs.take i)).length = s := Option.some.inj (hix.symm.trans hi)
  have hcok := hok c (List.mem_of_getElem? hc)
  have hlong := Chk.long hcok (chunksW (cs.take i)).length
  have hlp : c.len = c.pay.length + 1 := by unfold Chk.len; omega
  have hfl : (freeC c.len).len = c.len := freeC_len (by omega)
  have hcut := chunks_cut hc
  have hL : (chunksW cs).length = (chunksW (cs.take i)).length + (c.len + (chunksW (cs.drop (i + 1))).length) := by
    conv => lhs; rw [hcut]
    rw [chunksW_append, chunksW_cons, List.length_append, List.length_append, chkW_length]
  have hsetc : cs.set i (freeC c.len) = cs.take i ++ freeC c.len :: cs.drop (i + 1) := by rw [List.set_eq_take_append_cons_drop, if_pos hil]
  have hfree : freeAt (chunksW cs) (c.spot (chunksW (cs.take i)).length) = chunksW (cs.set i (freeC c.len)) := by
    have h1 : (c.spot (chunksW (cs.take i)).length).loc.toNat = (chunksW (cs.take i)).length := by simp [Chk.spot]
    have h2 : (c.spot (chunksW (cs.take i)).length).long.toNat = c.pay.length + 1 := by rw [hlong]; omega
    have h3 : (c.spot (chunksW (cs.take i)).length).long - 1 = (c.len : Int) - 1 := by rw [hlong]
    unfold freeAt
    rw [h1, h2, h3]
    have h4 : chunksW cs = chunksW (cs.take i) ++ (chkW c ++ chunksW (cs.drop (i + 1))) := by
      conv => lhs; rw [hcut]
      rw [chunksW_append, chunksW_cons]
    conv => lhs; rw [h4]
    rw [fill_mid (by rw [chkW_length]; exact hlp), hsetc, chunksW_append, chunksW_cons]
    congr 2
    unfold chkW freeC
    dsimp only
    rw [show c.len - 1 = c.pay.length by omega]
  rw [hfree]
  have hok' : ∀ d ∈ cs.set i (freeC c.len), d.ok := by
    intro d hd
    rcases List.mem_or_eq_of_mem_set hd with hd | rfl
    · exact hok d hd
    · exact freeC_ok (by omega) (by omega)
  have hl' : (chunksW (cs.set i (freeC c.len))).length = (chunksW cs).length := by
    rw [hsetc, chunksW_append, chunksW_cons, List.length_append, List.length_append, chkW_length, hfl, hL]
  obtain ⟨p1, p2⟩ := chunks_spots hok' (by rw [hl']; exact hlen)
  have hpre : ∀ k, (chunksW ((cs.set i (freeC c.len)).take k)).length = (chunksW (cs.take k)).length := fun k => take_set_same i cs _ k c hc hfl
  have hc' : (cs.set i (freeC c.len))[i]? = some (freeC c.len) := List.getElem?_set_self hil
  refine ⟨hl', p1, ⟨i, hi', ?_⟩, ?_⟩
  · rw [p2, hS]
    apply List.ext_getElem?
    intro k
    by_cases hki : i = k
    · subst hki
      have h1 := spotsFrom_ix (cs.set i (freeC c.len)) 0 i _ hc'
      rw [Nat.zero_add, hpre] at h1
      rw [h1, List.getElem?_set_self (by rw [spotsF_len]; exact hil)]
      unfold freed Chk.spot freeC
      dsimp only
      have : (c.spot (chunksW (cs.take i)).length).long = (c.len : Int) := hlong
      unfold Chk.spot at this
      rw [this]
    · rw [List.getElem?_set_ne hki]
      cases hk : cs[k]? with
      | none =>
        have e1 : cs.length ≤ k := List.getElem?_eq_none_iff.1 hk
        rw [List.getElem?_eq_none (by rw [spotsF_len, List.length_set]; exact e1), List.getElem?_eq_none (by rw [spotsF_len]; exact e1)]
      | some d =>
        have h1 := spotsFrom_ix cs 0 k d hk
        have h2 := spotsFrom_ix (cs.set i (freeC c.len)) 0 k d (by rw [List.getElem?_set_ne hki]; exact hk)
        rw [hpre] at h2
        rw [h1, h2]
  · intro s' hs' hne
    obtain ⟨k, hk⟩ := List.mem_iff_getElem?.1 hs'
    rw [hS] at hk
    have hkl : k < cs.length := by have := (List.getElem?_eq_some_iff.1 hk).1; rw [spotsF_len] at this; exact this
    have hd : cs[k]? = some cs[k] := List.getElem?_eq_getElem hkl
    generalize cs[k] = d at hd
    have hix2 := spotsFrom_ix cs 0 k d hd
    rw [Nat.zero_add] at hix2
    obtain rfl : d.spot (chunksW (cs.take k)).length = s' := Option.some.inj (hix2.symm.trans hk)
    have hki : i ≠ k := by
      intro e
      subst e
      obtain rfl := Option.some.inj (hd.symm.trans hc)
      exact hne rfl
    have hd' : (cs.set i (freeC c.len))[k]? = some d := by rw [List.getElem?_set_ne hki]; exact hd
    obtain ⟨t1, -⟩ := refs_ix hok hd
    obtain ⟨t3, -⟩ := refs_ix hok' hd'
    rw [hpre] at t3
    rw [t1, t3]
structure Freed (a a' : List Int) (D : List Int) : Prop where
  len : a'.length = a.length
  spE : spotsE a' = 0
  spots : spotsL a' = (spotsL a).map fun s => if s.f = false ∧ s.loc ∈ D then freed s else s
  refs : ∀ s ∈ spotsL a, ¬ (s.f = false ∧ s.loc ∈ D) → refsOf a' s = refsOf a s
theorem Freed.start {a : List Int} (h : spotsE a = 0) : Freed a a [] := ⟨rfl, h, by simp, fun s _ _ => rfl⟩
theorem Freed.step {a a' D : List Int} (h0 : spotsE a = 0) (h : Freed a a' D) {s : Spot} (hs : spotAt (spotsL a) s.loc = some s) (hn : s.loc ∉ D) : s ∈ spotsL a' ∧ Freed a (freeAt a' s) (D ++ [s.loc]) := by
  obtain ⟨hm, hf, -⟩ := spotAt_some hs
  have hs' : s ∈ spotsL a' := by
    rw [h.spots]
    exact List.mem_map.2 ⟨s, hm, by rw [if_neg (fun h2 => hn h2.2)]⟩
  obtain ⟨q1, q2, ⟨i, q3, q4⟩, q5⟩ := free_one h.spE hs'
  have huniq : ∀ t ∈ spotsL a, t.loc = s.loc → t = s := by
    intro t ht e
    have hr := spots_rise h0
    obtain ⟨k, hk⟩ := List.mem_iff_getElem?.1 ht
    obtain ⟨l, hl⟩ := List.mem_iff_getElem?.1 hm
    obtain ⟨k1, k2⟩ := List.getElem?_eq_some_iff.1 hk
    obtain ⟨l1, l2⟩ := List.getElem?_eq_some_iff.1 hl
    have h1 : k = l := by
      rcases Nat.lt_trichotomy k l with h2 | h2 | h2
      · have := List.pairwise_iff_getElem.1 hr k l k1 l1 h2; rw [k2, l2] at this; omega
      · exact h2
      · have := List.pairwise_iff_getElem.1 hr l k l1 k1 h2; rw [k2, l2] at this; omega
    subst h1
    rw [hk] at hl
    exact Option.some.inj hl
  refine ⟨hs', q1.trans h.len, q2, ?_, fun t ht hnt => ?_⟩
  · rw [q4, h.spots]
    apply List.ext_getElem?
    intro k
    rw [h.spots, List.getElem?_map] at q3
    obtain ⟨si, hsi, e1⟩ := Option.map_eq_some_iff.1 q3
    have hsis : si = s := by
      by_cases hc : si.f = false ∧ si.loc ∈ D
      · rw [if_pos hc] at e1
        have := congrArg Spot.f e1
        simp [freed, hf] at this
      · rwa [if_neg hc] at e1
    subst hsis
    by_cases hki : i = k
    · subst hki
      rw [List.getElem?_set_self (by rw [List.length_map]; exact (List.getElem?_eq_some_iff.1 hsi).1), List.getElem?_map, hsi, Option.map_some, if_pos ⟨hf, List.mem_append_right _ (by simp)⟩]
    · rw [List.getElem?_set_ne hki, List.getElem?_map, List.getElem?_map]
      cases hk : (spotsL a)[k]? with
      | none => rfl
      | some t =>
        have hts : t.loc ≠ si.loc := by
          intro e
          have h1 := huniq t (List.mem_of_getElem? hk) e
          subst h1
          obtain ⟨k1, k2⟩ := List.getElem?_eq_some_iff.1 hk
          obtain ⟨l1, l2⟩ := List.getElem?_eq_some_iff.1 hsi
          have hr := spots_rise h0
          rcases Nat.lt_or_gt_of_ne hki with h2 | h2
          · have := List.pairwise_iff_getElem.1 hr i k l1 k1 h2; rw [k2, l2] at this; omega
          · have := List.pairwise_iff_getElem.1 hr k i k1 l1 h2; rw [k2, l2] at this; omega
        rw [Option.map_some, Option.map_some]
        congr 1
        by_cases hc : t.f = false ∧ t.loc ∈ D
        · rw [if_pos hc, if_pos ⟨hc.1, List.mem_append_left _ hc.2⟩]
        · rw [if_neg hc, if_neg (fun h2 => hc ⟨h2.1, (List.mem_append.1 h2.2).elim id (fun h3 => absurd (List.mem_singleton.1 h3) hts)⟩)]
  · have hnt2 : ¬ (t.f = false ∧ t.loc ∈ D) := fun h2 => hnt ⟨h2.1, List.mem_append_left _ h2.2⟩
    have hne : t ≠ s := fun e => by subst e; exact hnt ⟨hf, List.mem_append_right _ (by simp)⟩
    rw [q5 t (by rw [h.spots]; exact List.mem_map.2 ⟨t, ht, by rw [if_neg hnt2]⟩) hne]
    exact h.refs t ht hnt2
theorem spot_uniq {a : List Int} (h0 : spotsE a = 0) {s t : Spot} (hs : s ∈ spotsL a) (ht : t ∈ spotsL a) (e : t.loc = s.loc) : t = s := by
  have hr := spots_rise h0
  obtain ⟨k, hk⟩ := List.mem_iff_getElem?.1 ht
  obtain ⟨l, hl⟩ := List.mem_iff_getElem?.1 hs
  obtain ⟨k1, k2⟩ := List.getElem?_eq_some_iff.1 hk
  obtain ⟨l1, l2⟩ := List.getElem?_eq_some_iff.1 hl
  have h1 : k = l := by
    rcases Nat.lt_trichotomy k l with h2 | h2 | h2
    · have := List.pairwise_iff_getElem.1 hr k l k1 l1 h2; rw [k2, l2] at this; omega
    · exact h2
    · have := List.pairwise_iff_getElem.1 hr l k l1 k1 h2; rw [k2, l2] at this; omega
  subst h1
  rw [hk] at hl
  exact Option.some.inj hl
theorem spotAt_of {a : List Int} (h0 : spotsE a = 0) {s : Spot} (hs : s ∈ spotsL a) (hf : s.f = false) : spotAt (spotsL a) s.loc = some s := by
  have h1 : s.loc ∈ begsL (spotsL a) := List.mem_map.2 ⟨s, List.mem_filter.2 ⟨hs, by simp [hf]⟩, rfl⟩
  obtain ⟨t, ht⟩ := begsL_iff.1 h1
  obtain ⟨t1, -, t2⟩ := spotAt_some ht
  rw [ht, spot_uniq h0 hs t1 t2]
theorem spot_ix {a : List Int} (h0 : spotsE a = 0) {s : Spot} (hs : s ∈ spotsL a) : ∃ i : Nat, atIx a s.loc = i ∧ (spotsL a)[i]? = some s := by
  obtain ⟨i, hi⟩ := List.mem_iff_getElem?.1 hs
  refine ⟨i, ?_, hi⟩
  unfold atIx
  refine ixOf_some hi (by simp) (fun y hy => ?_)
  rw [List.mem_take_iff_getElem] at hy
  obtain ⟨j, hj, rfl⟩ := hy
  obtain ⟨q1, rfl⟩ := List.getElem?_eq_some_iff.1 hi
  have := List.pairwise_iff_getElem.1 (spots_rise h0) j i (by omega) q1 (by omega)
  simp only [beq_eq_false_iff_ne]
  omega
section
variable {a a' D : List Int}
theorem Freed.mem (h : Freed a a' D) {t : Spot} : t ∈ spotsL a' ↔ ∃ s ∈ spotsL a, t = if s.f = false ∧ s.loc ∈ D then freed s else s := by
  rw [h.spots, List.mem_map]
  exact ⟨fun ⟨s, h1, h2⟩ => ⟨s, h1, h2.symm⟩, fun ⟨s, h1, h2⟩ => ⟨s, h1, h2.symm⟩⟩
theorem Freed.begs (h : Freed a a' D) {x : Int} : x ∈ begsL (spotsL a') ↔ x ∈ begsL (spotsL a) ∧ x ∉ D := by
  unfold begsL
  constructor
  · intro hx
    obtain ⟨t, ht, rfl⟩ := List.mem_map.1 hx
    obtain ⟨h1, h2⟩ := List.mem_filter.1 ht
    obtain ⟨s, hs, rfl⟩ := h.mem.1 h1
    by_cases hc : s.f = false ∧ s.loc ∈ D
    · rw [if_pos hc] at h2
      simp [freed] at h2
    · rw [if_neg hc] at h2 ⊢
      exact ⟨List.mem_map.2 ⟨s, List.mem_filter.2 ⟨hs, h2⟩, rfl⟩, fun h3 => hc ⟨by simpa using h2, h3⟩⟩
  · rintro ⟨hx, hD⟩
    obtain ⟨s, hs, rfl⟩ := List.mem_map.1 hx
    obtain ⟨h1, h2⟩ := List.mem_filter.1 hs
    exact List.mem_map.2 ⟨s, List.mem_filter.2 ⟨h.mem.2 ⟨s, h1, by rw [if_neg (fun hc => hD hc.2)]⟩, h2⟩, rfl⟩
theorem Freed.links (h0 : spotsE a = 0) (h : Freed a a' D) {x : Int} (hx : x ∈ begsL (spotsL a')) : linksAt a' (spotsL a') x = linksAt a (spotsL a) x := by
  obtain ⟨h1, hD⟩ := h.begs.1 hx
  obtain ⟨s, hs⟩ := begsL_iff.1 h1
  obtain ⟨hsS, hf, rfl⟩ := spotAt_some hs
  have hn : ¬ (s.f = false ∧ s.loc ∈ D) := fun hc => hD hc.2
  have h2 : s ∈ spotsL a' := h.mem.2 ⟨s, hsS, by rw [if_neg hn]⟩
  have h3 := spotAt_of h.spE h2 hf
  unfold linksAt
  rw [hs, h3]
  show linksL a' s = linksL a s
  unfold linksL
  rw [h.refs s hsS hn]
theorem Freed.check (hE : checkE a = 0) (h : Freed a a' D) (hc : ∀ x ∈ begsL (spotsL a), x ∉ D → ∀ y ∈ linksAt a (spotsL a) x, y ∉ D) : checkE a' = 0 := by
  have h0 := (checkE_ok.1 hE).1
  refine checkE_ok.2 ⟨h.spE, ?_⟩
  unfold refsOk
  refine List.all_eq_true.2 fun t ht => List.all_eq_true.2 fun v hv => placeC_some.2 ?_
  obtain ⟨s, hs, rfl⟩ := h.mem.1 ht
  by_cases hD : s.f = false ∧ s.loc ∈ D
  · rw [if_pos hD] at hv
    unfold refsOf freed at hv
    simp at hv
  · rw [if_neg hD] at hv
    rw [h.refs s hs hD] at hv
    by_cases hv0 : v = 0
    · exact .inl hv0
    · right
      have hy : v - 1 ∈ linksL a s := List.mem_map.2 ⟨v, List.mem_filter.2 ⟨hv, by simpa using hv0⟩, rfl⟩
      have hb := links_begs hE hs _ hy
      have hf : s.f = false := by
        cases hf : s.f with
        | false => rfl
        | true =>
          have hok := (parse_mem (parse_ok h0).2 s hs).1
          have := (hok.free hf).1
          unfold refsOf at hv
          rw [this] at hv
          simp at hv
      have hsD : s.loc ∉ D := fun h2 => hD ⟨hf, h2⟩
      have hs2 := spotAt_of h0 hs hf
      have hyD : v - 1 ∉ D := hc s.loc (begsL_iff.2 ⟨s, hs2⟩) hsD _ (by unfold linksAt; rw [hs2]; exact hy)
      have hb2 := h.begs.2 ⟨hb, hyD⟩
      obtain ⟨t, ht2⟩ := begsL_iff.1 hb2
      obtain ⟨t1, t2, t3⟩ := spotAt_some ht2
      exact ⟨t, t1, by simp only [isPlace, Bool.and_eq_true, Bool.not_eq_true', beq_iff_eq]; exact ⟨t2, by omega⟩⟩
theorem Freed.at_ (h0 : spotsE a = 0) (h : Freed a a' D) {x : Int} (hx : x ∈ begsL (spotsL a)) : ∃ (i : Nat) (s : Spot), atIx a' x = i ∧ (spotsL a')[i]? = some s ∧ s.f = decide (x ∈ D) := by
  obtain ⟨s, hs⟩ := begsL_iff.1 hx
  obtain ⟨hsS, hf, rfl⟩ := spotAt_some hs
  have hm := h.mem.2 ⟨s, hsS, rfl⟩
  by_cases hD : s.loc ∈ D
  · rw [if_pos ⟨hf, hD⟩] at hm
    obtain ⟨i, h1, h2⟩ := spot_ix h.spE hm
    exact ⟨i, freed s, h1, h2, by rw [decide_eq_true hD]; rfl⟩
  · rw [if_neg (fun hc => hD hc.2)] at hm
    obtain ⟨i, h1, h2⟩ := spot_ix h.spE hm
    exact ⟨i, s, h1, h2, by rw [decide_eq_false hD]; exact hf⟩
theorem Freed.ages {o t f L : List Int} (hA : AgesOk a o t) (hK : KeptY a o t f L) (h : Freed a a' D) (hD : ∀ x ∈ begsL (spotsL a), x ∈ D ↔ x ∉ olderL o L) : AgesOk a' (olderL o L) [] := by
  have h0 := (checkE_ok.1 hA.ok).1
  obtain ⟨k1, k2, k3⟩ := hK.older hA
  have hb : ∀ x ∈ olderL o L, x ∈ begsL (spotsL a') := fun x hx => h.begs.2 ⟨k2 x hx, fun h2 => (hD x (k2 x hx)).1 h2 hx⟩
  refine ⟨h.check hA.ok (fun x hx hnx y hy h2 => ?_), k1, List.Pairwise.nil, hb, by simp, fun x hx _ y hy => ?_⟩
  · have hxo : x ∈ olderL o L := Classical.byContradiction fun h3 => hnx ((hD x hx).2 h3)
    have hyb := linksAt_begs hA.ok x y hy
    exact (hD y hyb).1 h2 (k3 x hxo y hy)
  · rw [h.links h0 (hb x hx)] at hy
    exact k3 x hx y hy
end
end Go.Proofs.Ytgkoaambdejkdaa
