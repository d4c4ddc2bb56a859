/-
  Texts joined: StMake HoldFn HoldRoom SureLaw Repeat WordNew SlicesInt.
-/
import Derived.Shelf.Bits.Mul64
import Derived.Ground.NamesProg
import Derived.Shelf.Lay
import Derived.IntWalk
import Derived.Test.YtjdpcmmmdaffdaaGreatRows
import Derived.Test.YtjdpcmmmdaffdaaGreatG0
import Derived.Test.YtjdpcmmmdaffdaaGreatG3
import Derived.Test.YtjdpcmmmdaffdaaGreatG10
import Derived.Test.YtjdpcmmmdaffdaaGreatG11
/-
  package store: Make, where nothing stands against it but room.
-/
namespace Go.Proofs.YtjdpcmmmdaffdaaGreat
open Go.RowKit

def MadeOk (S : St) (T : St) (k : Nat) (r b t : Int) (n rn pn hn : Nat) (swept : Bool) (base : Nat) (e : Ending) (w' : World) : Prop :=
  ∃ (j : Nat) (g : Rn), FirstGap T.a (1 + r + b) j g ∧ ∃ (A1 : Option Addr) (c1 : Nat) (A2 : Option Addr) (c2 : Nat) (A3 : Option Addr) (c3 : Nat) (A4 : Option Addr) (c4 : Nat), e = .returned (.tuple #[.agg #[.slice A1 n c1, .slice A2 rn c2, .slice A3 pn c3, .slice A4 hn c4], .bool swept, .int .i64 0]) ∧ StO w' base A1 n c1 A2 rn c2 A3 pn c3 A4 hn c4 ⟨takenA T.a g r b t, T.r.set k g.loc, T.p, T.l⟩
set_option maxRecDepth 100000 in
set_option maxHeartbeats 8000000 in
theorem makeFn_ok (A : Option Addr) (n c : Nat) (RA : Option Addr) (rn rc : Nat) (PA : Option Addr) (pn pc : Nat) (HA : Option Addr) (hn hc : Nat) (S : St) (k : Nat) (r b t : Int) (w : World) (hR : StR w w.heap.size A n RA rn PA pn HA hn S) (hK : StK n c rn pn hn S) (hOK : StOk S) (hk : k < S.r.length) (hE : headE r b t false = 0) :
    Calls Tryz.prog 10 #[.agg #[.slice A n c, .slice RA rn rc, .slice PA pn pc, .slice HA hn hc], .int .i64 k, .agg #[.int .i64 r, .int .i64 b, .int .i64 t, .bool false]] w fun e w' => Below w.heap.size w w' ∧
      (MadeOk S S k r b t n rn pn hn false w.heap.size e w' ∨
       (fitsE (ggL S.a) (1 + r + b) ≠ 0 ∧ ∃ (S' : St) (fr : Int) (L Y now : List Int), Coll S S' fr L Y now ∧ (MadeOk S S' k r b t n rn pn hn true w.heap.size e w' ∨ (fitsE (ggL S'.a) (1 + r + b) ≠ 0 ∧ e = .returned (.tuple #[.agg #[.slice none 0 0, .slice none 0 0, .slice none 0 0, .slice none 0 0], .bool false, .int .i64 7]))))) := by
  obtain ⟨z1, z2, z3, z4⟩ := hR.lens
  have v1 := (parse_ok (checkE_ok.1 hOK.arena).1).1
  have v2 := (rootE_ok hOK.roots).2.2.1
  have v3 := hOK.pins.len
  have v4 := (handE_ok.1 hOK.hands).1
  have HCk := Lib.hid (fun w hR => stcheck_any A n c RA rn rc PA pn pc HA hn hc S w hR hK)
  rw [stE_ok.2 hOK] at HCk
  have HHc := Lib.hid (fun w => hcheck_any r b t false w)
  rw [hE] at HHc
  have HCp := Lib.hid (fun w hR => copied_any A n c RA rn rc PA pn pc HA hn hc S w hR (by omega) (by omega) (by omega) (by omega))
  have hkn : k < rn := by omega
  have g1 : decide ((k : Int) < 0) = false := decide_eq_false (by omega)
  have g2 : decide (rn ≤ k) = false := decide_eq_false (by omega)
  have hb0 := below_new w (.cells #[.slice A n c, .slice RA rn rc, .slice PA pn pc, .slice HA hn hc] 28)
  have hb00 := hb0.alloc hb0.size (.cells #[.int .i64 r, .int .i64 b, .int .i64 t, .bool false] 30)
  have hb1 := hb00.alloc hb00.size (.cells #[.slice none 0 0, .slice none 0 0, .slice none 0 0, .slice none 0 0] 28)
  have DS := ((Blk.new w 28 #[.slice A n c, .slice RA rn rc, .slice PA pn pc, .slice HA hn hc]).alloc (.cells #[.int .i64 r, .int .i64 b, .int .i64 t, .bool false] 30)).alloc (.cells #[.slice none 0 0, .slice none 0 0, .slice none 0 0, .slice none 0 0] 28)
  have DH := (Blk.new (w.alloc (.cells #[.slice A n c, .slice RA rn rc, .slice PA pn pc, .slice HA hn hc] 28)) 30 #[.int .i64 r, .int .i64 b, .int .i64 t, .bool false]).alloc (.cells #[.slice none 0 0, .slice none 0 0, .slice none 0 0, .slice none 0 0] 28)
  have DR := Blk.new ((w.alloc (.cells #[.slice A n c, .slice RA rn rc, .slice PA pn pc, .slice HA hn hc] 28)).alloc (.cells #[.int .i64 r, .int .i64 b, .int .i64 t, .bool false] 30)) 28 #[.slice none 0 0, .slice none 0 0, .slice none 0 0, .slice none 0 0]
  simp only [World.size_alloc] at DH DR
  obtain ⟨s0, s1, s2, s3⟩ := DS.four
  clear hb0 hb00 z1 z2 z3 z4 v1 v2 v3 v4 hk
  go_enter Tryz.func10, Tryz.ntmps10
  go_wp2_with fail
  refine (HCk.out _ ((hR.below hb1).more hb1.size)).mono ?_
  rintro e w2 ⟨rfl, hb2⟩
  have hb02 := below_step hb1 hb2
  have DS2 := DS.below hb2 DS.lt
  have DH2 := DH.below hb2 DH.lt
  have DR2 := DR.below hb2 DR.lt
  clear s0 s1 s2 s3 hb1 hb2 DS DH DR
  obtain ⟨s0, s1, s2, s3⟩ := DS2.four
  obtain ⟨m0, m1, m2, m3⟩ := DH2.four
  go_wp2_with fail
  refine (HHc.out _).mono ?_
  rintro e w3 ⟨rfl, hb3⟩
  have hb03 := below_step hb02 hb3
  have DS3 := DS2.below hb3 DS2.lt
  have DH3 := DH2.below hb3 DH2.lt
  have DR3 := DR2.below hb3 DR2.lt
  clear s0 s1 s2 s3 m0 m1 m2 m3 hb02 hb3 DS2 DH2 DR2
  obtain ⟨s0, s1, s2, s3⟩ := DS3.four
  obtain ⟨m0, m1, m2, m3⟩ := DH3.four
  go_wp2_with fail
  refine (HCp.out _ ((hR.below hb03).more hb03.size)).mono ?_
  rintro e w4 ⟨hb4, A1, c1, A2, c2, A3, c3, A4, c4, rfl, hO⟩
  have hb04 := below_step hb03 hb4
  have hlt3 : w.heap.size + 2 < w3.heap.size := DR3.lt
  have DS4 := DS3.below hb4 DS3.lt
  have DH4 := DH3.below hb4 DH3.lt
  have DR4 := DR3.below hb4 DR3.lt
  have hlt : w.heap.size + 2 < w4.heap.size := DR4.lt
  clear s0 s1 s2 s3 m0 m1 m2 m3 hb4 DS3 DH3 DR3
  obtain ⟨s0, s1, s2, s3⟩ := DS4.four
  obtain ⟨f0, f1, f2, f3⟩ := DS4.four_frozen
  have hO5 := hO.store DS4 (.slice A1 n c1) (.slice A2 rn c2) (.slice A3 pn c3) (.slice A4 hn c4)
  have DS5 := DS4.store4 (.slice A1 n c1) (.slice A2 rn c2) (.slice A3 pn c3) (.slice A4 hn c4)
  have DH5 := DH4.far4 (g' := w.heap.size) (by omega) (.slice A1 n c1) (.slice A2 rn c2) (.slice A3 pn c3) (.slice A4 hn c4)
  have DR5 := DR4.far4 (g' := w.heap.size) (by omega) (.slice A1 n c1) (.slice A2 rn c2) (.slice A3 pn c3) (.slice A4 hn c4)
  have hb05 := below_block4 (g := w.heap.size) hb04 (Nat.le_refl _) (.slice A1 n c1) (.slice A2 rn c2) (.slice A3 pn c3) (.slice A4 hn c4)
  obtain ⟨d0, d1, d2, d3⟩ := DS5.four
  obtain ⟨m0, m1, m2, m3⟩ := DH5.four
  have hR5 := hO5.reads
  have hK5 := hO5.known hK.wf
  clear hO DS4 DH4 DR4 hb04
  by_cases hF : fitsE (ggL S.a) (1 + r + b) = 0
  · obtain ⟨j, g, hG⟩ := first_gap hF
    have HTk := Lib.hid (takeFn_yes A1 n c1 A2 rn c2 A3 pn c3 A4 hn c4 S r b t j g _ hR5 hK5 hOK.arena hE hG)
    go_wp2_with fail
    refine HTk.out.mono ?_
    rintro e w6 ⟨hb6, X, d, rfl, oN⟩
    have hb06 := below_step hb05 hb6
    have DS8 := DS5.below hb6 DS5.lt
    have DR8 := DR5.below hb6 DR5.lt
    have hO8 := (hO5.below hb6)
    have oN8 := own_mono oN hb05.size
    have hO9 := hO8.mono (show w.heap.size ≤ w3.heap.size by omega)
    clear s0 s1 s2 s3 f0 f1 f2 f3 d0 d1 d2 d3 m0 m1 m2 m3 oN HTk HCk HHc HCp
    obtain ⟨qq, hqq, qh, cur, qB⟩ := own_some hO8.r (by omega)
    subst hqq
    have qe : k < ((S).r.map (Value.int .i64)).length := by have := (hO9).reads.lens.2.1; rw [List.length_map]; omega
    have qcc := (hO9).r.cellAt k (by omega)
    rw [List.getElem?_eq_getElem qe] at qcc
    have qf := (hO9).r.frozenAt k
    have hqne : qq ≠ w.heap.size := by omega
    have DS6 := DS8.set_ 0 (.slice X n d)
    have DR6 := DR8.far (p := ⟨w.heap.size, 0, none⟩) (by dsimp only; omega) (.slice X n d)
    have hb6 := hb06.setCell (p := ⟨w.heap.size, 0, none⟩) (Nat.le_refl _) (.slice X n d)
    have qB6 := qB.far (p := ⟨w.heap.size, 0, none⟩) hqne (.slice X n d)
    have hO6 : StO _ w.heap.size X n d (some ⟨qq, 0, none⟩) rn c2 A3 pn c3 A4 hn c4 ⟨takenA (S).a g r b t, (S).r, (S).p, (S).l⟩ :=
      ⟨own_apart oN8 (p := ⟨w.heap.size, 0, none⟩) (own_blk oN8 DS8 (by decide)) (.slice X n d), own_apart (hO9).r (p := ⟨w.heap.size, 0, none⟩) (own_blk (hO9).r DS8 (by decide)) (.slice X n d), own_apart (hO9).p (p := ⟨w.heap.size, 0, none⟩) (own_blk (hO9).p DS8 (by decide)) (.slice X n d), own_apart (hO9).l (p := ⟨w.heap.size, 0, none⟩) (own_blk (hO9).l DS8 (by decide)) (.slice X n d)⟩
    have hO7 := hO6.setR (p := k) (v := g.loc) qB6
    have DS7 := DS6.far (p := ⟨qq, k, none⟩) (by dsimp only; omega) (.int .i64 g.loc)
    have DR7 := DR6.far (p := ⟨qq, k, none⟩) (by dsimp only; omega) (.int .i64 g.loc)
    have hb7 := hb6.setCell (p := ⟨qq, k, none⟩) (by dsimp only; omega) (.int .i64 g.loc)
    have qcc6 : World.cell? _ (⟨qq, k, none⟩ : Addr) = _ := (World.cell?_setCell_far _ ⟨w.heap.size, 0, none⟩ ⟨qq, k, none⟩ (.slice X n d) (by dsimp only; omega)).trans qcc
    obtain ⟨s0, s1, s2, s3⟩ := DS8.four
    obtain ⟨f0, f1, f2, f3⟩ := DS8.four_frozen
    obtain ⟨o0, o1, o2, o3⟩ := DS7.four
    obtain ⟨r0, r1, r2, r3⟩ := DR7.four
    obtain ⟨h0, h1, h2, h3⟩ := DR7.four_frozen
    go_wp2_with fail
    refine bodyPost_ret (v := .tuple #[.agg #[.slice X n d, .slice (some ⟨qq, 0, none⟩) rn c2, .slice A3 pn c3, .slice A4 hn c4], .bool false, .int .i64 0]) ?_ rfl ⟨below_block4 hb7 (by omega) _ _ _ _, .inl ⟨j, g, hG, _, d, _, c2, A3, c3, A4, c4, rfl, hO7.store DR7 _ _ _ _⟩⟩
    obtain ⟨z0, z1, z2, z3⟩ := (DR7.store4 (.slice X n d) (.slice (some ⟨qq, 0, none⟩) rn c2) (.slice A3 pn c3) (.slice A4 hn c4)).four
    simp only [results, Tryz.results10]
    go_simp
  · have HTn := Lib.hid (takeFn_no A1 n c1 A2 rn c2 A3 pn c3 A4 hn c4 S r b t _ hR5 hK5 hE hF)
    go_wp2_with fail
    refine HTn.out.mono ?_
    rintro e w6 ⟨hb6, rfl⟩
    have hb06 := below_step hb05 hb6
    have DS6 := DS5.below hb6 DS5.lt
    have DH6 := DH5.below hb6 DH5.lt
    have DR6 := DR5.below hb6 DR5.lt
    have hO6 := hO5.below hb6
    have HCo := Lib.hid (coll_any A1 n c1 A2 rn c2 A3 pn c3 A4 hn c4 S w6 hO6.reads hK5 hOK)
    clear s0 s1 s2 s3 f0 f1 f2 f3 d0 d1 d2 d3 m0 m1 m2 m3 HTn HCk HHc HCp DS5 DH5 DR5 hO5 hO6 hR5 hb05 hb6 hK5
    obtain ⟨s0, s1, s2, s3⟩ := DS6.four
    go_wp2_with fail
    refine HCo.out.mono ?_
    rintro e w7 ⟨hb7, S', fr, L, Y, now, B1, e1, B2, e2, B3, e3, B4, e4, hC, rfl, hO7⟩
    have hb07 := below_step hb06 hb7
    have hlt6 : w.heap.size + 2 < w6.heap.size := DR6.lt
    have DS7 := DS6.below hb7 DS6.lt
    have DH7 := DH6.below hb7 DH6.lt
    have DR7 := DR6.below hb7 DR6.lt
    clear s0 s1 s2 s3 DS6 DH6 DR6 HCo hb7
    obtain ⟨s0, s1, s2, s3⟩ := DS7.four
    obtain ⟨f0, f1, f2, f3⟩ := DS7.four_frozen
    have hO8 := hO7.store DS7 (.slice B1 n e1) (.slice B2 rn e2) (.slice B3 pn e3) (.slice B4 hn e4)
    have DS8 := DS7.store4 (.slice B1 n e1) (.slice B2 rn e2) (.slice B3 pn e3) (.slice B4 hn e4)
    have DH8 := DH7.far4 (g' := w.heap.size) (by omega) (.slice B1 n e1) (.slice B2 rn e2) (.slice B3 pn e3) (.slice B4 hn e4)
    have DR8 := DR7.far4 (g' := w.heap.size) (by omega) (.slice B1 n e1) (.slice B2 rn e2) (.slice B3 pn e3) (.slice B4 hn e4)
    have hb08 := below_block4 (g := w.heap.size) hb07 (Nat.le_refl _) (.slice B1 n e1) (.slice B2 rn e2) (.slice B3 pn e3) (.slice B4 hn e4)
    obtain ⟨d0, d1, d2, d3⟩ := DS8.four
    obtain ⟨m0, m1, m2, m3⟩ := DH8.four
    have hR8 := hO8.reads
    have hK8 := hO8.known (hC.wf hK.wf)
    have hOK8 := hC.ok hOK
    have HC := Lib.hid hC
    clear hO7 DS7 DH7 DR7 hb07 hC
    by_cases hF2 : fitsE (ggL S'.a) (1 + r + b) = 0
    · obtain ⟨j, g, hG⟩ := first_gap hF2
      have HTk := Lib.hid (takeFn_yes B1 n e1 B2 rn e2 B3 pn e3 B4 hn e4 S' r b t j g _ hR8 hK8 hOK8.arena hE hG)
      go_wp2_with fail
      refine HTk.out.mono ?_
      rintro e w9 ⟨hb9, X, d, rfl, oN⟩
      have hb09 := below_step hb08 hb9
      have DS9 := DS8.below hb9 DS8.lt
      have DR9 := DR8.below hb9 DR8.lt
      have hOa := (hO8.below hb9)
      have oN8 := own_mono oN hb08.size
      have hOb := hOa.mono (show w.heap.size ≤ w6.heap.size by omega)
      clear s0 s1 s2 s3 f0 f1 f2 f3 d0 d1 d2 d3 m0 m1 m2 m3 oN HTk
      obtain ⟨qq, hqq, qh, cur, qB⟩ := own_some hOa.r (by omega)
      subst hqq
      have qe : k < ((S').r.map (Value.int .i64)).length := by have := (hOb).reads.lens.2.1; rw [List.length_map]; omega
      have qcc := (hOb).r.cellAt k (by omega)
      rw [List.getElem?_eq_getElem qe] at qcc
      have qf := (hOb).r.frozenAt k
      have hqne : qq ≠ w.heap.size := by omega
      have DS6 := DS9.set_ 0 (.slice X n d)
      have DR6 := DR9.far (p := ⟨w.heap.size, 0, none⟩) (by dsimp only; omega) (.slice X n d)
      have hb6 := hb09.setCell (p := ⟨w.heap.size, 0, none⟩) (Nat.le_refl _) (.slice X n d)
      have qB6 := qB.far (p := ⟨w.heap.size, 0, none⟩) hqne (.slice X n d)
      have hO6 : StO _ w.heap.size X n d (some ⟨qq, 0, none⟩) rn e2 B3 pn e3 B4 hn e4 ⟨takenA (S').a g r b t, (S').r, (S').p, (S').l⟩ :=
        ⟨own_apart oN8 (p := ⟨w.heap.size, 0, none⟩) (own_blk oN8 DS9 (by decide)) (.slice X n d), own_apart (hOb).r (p := ⟨w.heap.size, 0, none⟩) (own_blk (hOb).r DS9 (by decide)) (.slice X n d), own_apart (hOb).p (p := ⟨w.heap.size, 0, none⟩) (own_blk (hOb).p DS9 (by decide)) (.slice X n d), own_apart (hOb).l (p := ⟨w.heap.size, 0, none⟩) (own_blk (hOb).l DS9 (by decide)) (.slice X n d)⟩
      have hO7 := hO6.setR (p := k) (v := g.loc) qB6
      have DS7 := DS6.far (p := ⟨qq, k, none⟩) (by dsimp only; omega) (.int .i64 g.loc)
      have DR7 := DR6.far (p := ⟨qq, k, none⟩) (by dsimp only; omega) (.int .i64 g.loc)
      have hb7 := hb6.setCell (p := ⟨qq, k, none⟩) (by dsimp only; omega) (.int .i64 g.loc)
      have qcc6 : World.cell? _ (⟨qq, k, none⟩ : Addr) = _ := (World.cell?_setCell_far _ ⟨w.heap.size, 0, none⟩ ⟨qq, k, none⟩ (.slice X n d) (by dsimp only; omega)).trans qcc
      obtain ⟨s0, s1, s2, s3⟩ := DS9.four
      obtain ⟨f0, f1, f2, f3⟩ := DS9.four_frozen
      obtain ⟨o0, o1, o2, o3⟩ := DS7.four
      obtain ⟨r0, r1, r2, r3⟩ := DR7.four
      obtain ⟨h0, h1, h2, h3⟩ := DR7.four_frozen
      go_wp2_with fail
      refine bodyPost_ret (v := .tuple #[.agg #[.slice X n d, .slice (some ⟨qq, 0, none⟩) rn e2, .slice B3 pn e3, .slice B4 hn e4], .bool true, .int .i64 0]) ?_ rfl ⟨below_block4 hb7 (by omega) _ _ _ _, .inr ⟨hF, S', fr, L, Y, now, HC.out, .inl ⟨j, g, hG, _, d, _, e2, B3, e3, B4, e4, rfl, hO7.store DR7 _ _ _ _⟩⟩⟩
      obtain ⟨z0, z1, z2, z3⟩ := (DR7.store4 (.slice X n d) (.slice (some ⟨qq, 0, none⟩) rn e2) (.slice B3 pn e3) (.slice B4 hn e4)).four
      simp only [results, Tryz.results10]
      go_simp
    · have HTn := Lib.hid (takeFn_no B1 n e1 B2 rn e2 B3 pn e3 B4 hn e4 S' r b t _ hR8 hK8 hE hF2)
      go_wp2_with fail
      refine HTn.out.mono ?_
      rintro e w9 ⟨hb9, rfl⟩
      have hb09 := below_step hb08 hb9
      have DR9 := DR8.below hb9 DR8.lt
      clear s0 s1 s2 s3 f0 f1 f2 f3 d0 d1 d2 d3 m0 m1 m2 m3 HTn
      obtain ⟨r0, r1, r2, r3⟩ := DR9.four
      obtain ⟨f0, f1, f2, f3⟩ := DR9.four_frozen
      go_wp2_with fail
      refine bodyPost_ret (v := .tuple #[.agg #[.slice none 0 0, .slice none 0 0, .slice none 0 0, .slice none 0 0], .bool false, .int .i64 7]) ?_ rfl ⟨below_block4 hb09 (by omega) _ _ _ _, .inr ⟨hF, S', fr, L, Y, now, HC.out, .inr ⟨hF2, rfl⟩⟩⟩
      obtain ⟨z0, z1, z2, z3⟩ := (DR9.store4 (.slice none 0 0) (.slice none 0 0) (.slice none 0 0) (.slice none 0 0)).four
      simp only [results, Tryz.results10]
      go_simp
end Go.Proofs.YtjdpcmmmdaffdaaGreat

/-
  package hold: free, asked, Live, Sure, Never, Widest.
-/
namespace Go.Proofs.YtjdpcmmmdaffdaaGreat
open Go.RowKit

theorem longW_nn {a : List Int} (h : checkE a = 0) {x : Int} (hx : x ∈ begsL (spotsL a)) : 0 ≤ longW (spotsL a) x := by
  obtain ⟨s, hs⟩ := begsL_iff.1 hx
  have h1 := ((parse_mem (parse_ok (checkE_ok.1 h).1).2) s (spotAt_some hs).1).1
  unfold longW
  rw [hs]
  have := h1.r0
  have := h1.b0
  simp only [Spot.long]
  omega
theorem longs_nn {S : List Spot} {l : List Int} (h : ∀ x ∈ l, 0 ≤ longW S x) : 0 ≤ longsL S l := by
  induction l with
  | nil => simp [longsL]
  | cons x l ih =>
    have h1 := h x List.mem_cons_self
    have h2 := ih (fun y hy => h y (List.mem_cons_of_mem _ hy))
    simp only [longsL]
    omega
theorem Coll.free {S S' : St} {fr : Int} {L Y now : List Int} (h : Coll S S' fr L Y now) : 0 ≤ fr ∧ fr ≤ S.a.length ∧ S.a.length ≤ 256 ∧ fr + longsL (spotsL S.a) L = S.a.length ∧ fr = rsum (ggL S'.a) ∧ (∀ r ∈ ggL S'.a, 0 ≤ r.len ∧ r.len ≤ 256) ∧ (ggL S'.a).length ≤ S.p.length + 1 ∧ (ggL S'.a).length ≤ 257 := by
  obtain ⟨g1, g2, g3, g4, g5⟩ := (cleaned_of h.is).gaps h.is
  have h1 := longs_nn (S := spotsL S.a) (l := L) (fun x hx => longW_nn h.is.check (h.is.reached.begs x hx))
  have h2 := rsum_takeG g3 (ggL S'.a).length (Nat.le_refl _)
  rw [List.take_length] at h2
  have h3 := h.fr
  unfold freeL at h3
  unfold pinsL at g4
  rw [List.length_map] at g4
  exact ⟨by omega, by omega, (cleaned_of h.is).len256, by omega, h3, g3, g4, g5⟩

set_option maxRecDepth 100000 in
set_option maxHeartbeats 2000000 in
theorem hfree_any (A : Option Addr) (n c : Nat) (RA : Option Addr) (rn rc : Nat) (PA : Option Addr) (pn pc : Nat) (HA : Option Addr) (hn hc : Nat) (S : St) (w : World) (hR : StR w w.heap.size A n RA rn PA pn HA hn S) (hK : StK n c rn pn hn S) :
    Calls Tryz.prog 46 #[.agg #[.slice A n c, .slice RA rn rc, .slice PA pn pc, .slice HA hn hc]] w fun e w' => Below w.heap.size w w' ∧
      ((StOk S ∧ ∃ (S' : St) (fr : Int) (L Y now : List Int) (A1 : Option Addr) (c1 : Nat), Coll S S' fr L Y now ∧ e = .returned (.tuple #[.int .i64 fr, .slice A1 (ggL S'.a).length c1, .int .i64 0]) ∧
        w'.ownsRow w.heap.size 92 2 (.slice A1 (ggL S'.a).length c1) (ggL S'.a).length (runsC (ggL S'.a))) ∨
       (stE S ≠ 0 ∧ e = .returned (.tuple #[.int .i64 0, .slice none 0 0, .int .i64 (stE S)]))) := by
  have HCo := Lib.hid (fun w hR => collectFn_any A n c RA rn rc PA pn pc HA hn hc S w hR hK)
  have HE := Lib.hid (@stE_ok S)
  generalize stE S = E at *
  have hb1 := below_new w (.cells #[.slice A n c, .slice RA rn rc, .slice PA pn pc, .slice HA hn hc] 28)
  have DS := Blk.new w 28 #[.slice A n c, .slice RA rn rc, .slice PA pn pc, .slice HA hn hc]
  obtain ⟨s0, s1, s2, s3⟩ := DS.four
  go_enter Tryz.func46, Tryz.ntmps46
  go_wp2_with fail
  refine (HCo.out _ ((hR.below hb1).more hb1.size)).mono ?_
  rintro e w2 ⟨hb2, ⟨hOK, S', fr, L, Y, now, A1, c1, A2, c2, A3, c3, A4, c4, hC, rfl, hO⟩ | ⟨h0, rfl⟩⟩
  · have hb02 := below_step hb1 hb2
    have hb03 := hb02.alloc hb02.size (.cells #[.slice A1 n c1, .slice A2 rn c2, .slice A3 pn c3, .slice A4 hn c4] 28)
    have DG := Blk.new w2 28 #[.slice A1 n c1, .slice A2 rn c2, .slice A3 pn c3, .slice A4 hn c4]
    obtain ⟨o0, o1, o2, o3⟩ := DG.four
    have HGp := Lib.hid (fun w hr => ggapsE_any A1 n c1 S'.a w hr (own_cap hO.a) (hC.wf hK.wf))
    have hrB := Reads.of_own (own_below hO.a (below_new w2 (.cells #[.slice A1 n c1, .slice A2 rn c2, .slice A3 pn c3, .slice A4 hn c4] 28)))
    obtain ⟨G, hG⟩ : ∃ G, G = ggL S'.a := ⟨_, rfl⟩
    have HG := Lib.hid hG
    rw [← hG] at HGp
    have HC := Lib.hid hC
    clear s0 s1 s2 s3 hO hC hG
    go_wp2_with fail
    refine (HGp.out _ hrB).mono ?_
    rintro e w4 ⟨hb4, A5, c5, rfl, hown⟩
    have hb04 := below_step hb03 hb4
    have HOW := Lib.hid (own_mono hown hb03.size)
    clear hown
    obtain ⟨g, hg⟩ : ∃ g, g = G.length := ⟨_, rfl⟩
    rw [← hg] at HOW
    have HGL := Lib.hid hg
    rw [← hg]
    clear hg
    go_wp2_with fail
    go_ret3
    refine ⟨hb04, .inl ⟨hOK, S', fr, L, Y, now, A5, c5, HC.out, ?_, ?_⟩⟩
    · rw [← HG.out, ← HGL.out]; rfl
    · rw [← HG.out, ← HGL.out]
      exact HOW.out
  · have g1 : (E != 0) = true := by simpa using h0
    have hb02 := (below_step hb1 hb2)
    have hb03 := hb02.alloc hb02.size (.cells #[.slice none 0 0, .slice none 0 0, .slice none 0 0, .slice none 0 0] 28)
    go_wp2_with fail
    go_ret3
    exact ⟨hb03, .inr ⟨h0, rfl⟩⟩

def argE (N : Int) : Int := if N < 1 ∨ 256 < N then 1 else 0
set_option maxRecDepth 100000 in
set_option maxHeartbeats 2000000 in
theorem asked_any (A : Option Addr) (n c : Nat) (RA : Option Addr) (rn rc : Nat) (PA : Option Addr) (pn pc : Nat) (HA : Option Addr) (hn hc : Nat) (S : St) (N : Int) (w : World) (hR : StR w w.heap.size A n RA rn PA pn HA hn S) (hK : StK n c rn pn hn S) :
    Calls Tryz.prog 30 #[.agg #[.slice A n c, .slice RA rn rc, .slice PA pn pc, .slice HA hn hc], .int .i64 N] w fun e w' => Below w.heap.size w w' ∧
      ((StOk S ∧ ∃ (S' : St) (fr : Int) (L Y now : List Int), Coll S S' fr L Y now ∧ e = .returned (.tuple #[.int .i64 fr, .int .i64 (argE N)])) ∨
       (stE S ≠ 0 ∧ e = .returned (.tuple #[.int .i64 0, .int .i64 (stE S)]))) := by
  have HF := Lib.hid (fun w hR => hfree_any A n c RA rn rc PA pn pc HA hn hc S w hR hK)
  generalize stE S = E at *
  have hb1 := below_new w (.cells #[.slice A n c, .slice RA rn rc, .slice PA pn pc, .slice HA hn hc] 28)
  have DS := Blk.new w 28 #[.slice A n c, .slice RA rn rc, .slice PA pn pc, .slice HA hn hc]
  obtain ⟨s0, s1, s2, s3⟩ := DS.four
  go_enter Tryz.func30, Tryz.ntmps30
  go_wp2_with fail
  refine (HF.out _ ((hR.below hb1).more hb1.size)).mono ?_
  rintro e w2 ⟨hb2, ⟨hOK, S', fr, L, Y, now, A1, c1, hC, rfl, hO⟩ | ⟨h0, rfl⟩⟩
  · have hb02 := below_step hb1 hb2
    have HC := Lib.hid hC
    generalize (ggL S'.a).length = g at *
    clear s0 s1 s2 s3 hC hO
    by_cases h1 : N < 1
    · have g1 : decide (N < 1) = true := decide_eq_true h1
      have HAr : Hid (argE N = 1) := by show _ = _; unfold argE; rw [if_pos (.inl h1)]
      clear h1
      go_wp2_with fail
      go_ret2
      exact ⟨hb02, .inl ⟨hOK, S', fr, L, Y, now, HC.out, by rw [HAr.out]; rfl⟩⟩
    · have g1 : decide (N < 1) = false := decide_eq_false h1
      by_cases h2 : 256 < N
      · have g2 : decide (256 < N) = true := decide_eq_true h2
        have HAr : Hid (argE N = 1) := by show _ = _; unfold argE; rw [if_pos (.inr h2)]
        clear h1 h2
        go_wp2_with fail
        go_ret2
        exact ⟨hb02, .inl ⟨hOK, S', fr, L, Y, now, HC.out, by rw [HAr.out]; rfl⟩⟩
      · have g2 : decide (256 < N) = false := decide_eq_false h2
        have HAr : Hid (argE N = 0) := by show _ = _; unfold argE; rw [if_neg (by omega)]
        clear h1 h2
        go_wp2_with fail
        go_ret2
        exact ⟨hb02, .inl ⟨hOK, S', fr, L, Y, now, HC.out, by rw [HAr.out]; rfl⟩⟩
  · have g1 : (E == 0) = false := by simpa using h0
    have hb02 := (below_step hb1 hb2)
    clear s0 s1 s2 s3
    go_wp2_with fail
    go_ret2
    exact ⟨hb02, .inr ⟨h0, rfl⟩⟩

def NeverRet (S : St) (N : Int) (e : Ending) : Prop := ∃ (S' : St) (fr : Int) (L Y now : List Int), Coll S S' fr L Y now ∧ e = .returned (.tuple #[.bool (decide (argE N = 0) && decide (fr < N)), .int .i64 (argE N)])
def SureRet (S : St) (pn : Nat) (N : Int) (e : Ending) : Prop := ∃ (S' : St) (fr : Int) (L Y now : List Int), Coll S S' fr L Y now ∧ e = .returned (.tuple #[.bool (decide (argE N = 0) && decide ((pn + 1) * N ≤ fr)), .int .i64 (argE N)])
set_option maxRecDepth 100000 in
set_option maxHeartbeats 2000000 in
theorem never_any (A : Option Addr) (n c : Nat) (RA : Option Addr) (rn rc : Nat) (PA : Option Addr) (pn pc : Nat) (HA : Option Addr) (hn hc : Nat) (S : St) (N : Int) (w : World) (hR : StR w w.heap.size A n RA rn PA pn HA hn S) (hK : StK n c rn pn hn S) :
    Calls Tryz.prog 9 #[.agg #[.slice A n c, .slice RA rn rc, .slice PA pn pc, .slice HA hn hc], .int .i64 N] w fun e w' => Below w.heap.size w w' ∧
      ((StOk S ∧ NeverRet S N e) ∨
       (stE S ≠ 0 ∧ e = .returned (.tuple #[.bool false, .int .i64 (stE S)]))) := by
  have HF := Lib.hid (fun w hR => asked_any A n c RA rn rc PA pn pc HA hn hc S N w hR hK)
  generalize stE S = E at *
  obtain ⟨F, hF⟩ : ∃ F, F = argE N := ⟨_, rfl⟩
  rw [← hF] at HF
  have HFF := Lib.hid hF
  clear hF
  have hb1 := below_new w (.cells #[.slice A n c, .slice RA rn rc, .slice PA pn pc, .slice HA hn hc] 28)
  have DS := Blk.new w 28 #[.slice A n c, .slice RA rn rc, .slice PA pn pc, .slice HA hn hc]
  obtain ⟨s0, s1, s2, s3⟩ := DS.four
  go_enter Tryz.func9, Tryz.ntmps9
  go_wp2_with fail
  refine (HF.out _ ((hR.below hb1).more hb1.size)).mono ?_
  rintro e w2 ⟨hb2, ⟨hOK, S', fr, L, Y, now, hC, rfl⟩ | ⟨h0, rfl⟩⟩
  · have hb02 := below_step hb1 hb2
    have HC := Lib.hid hC
    have HOK := Lib.hid hOK
    clear s0 s1 s2 s3 hC hOK
    by_cases h1 : F = 0
    · subst h1
      go_wp2_with fail
      go_ret2
      exact ⟨hb02, .inl ⟨HOK.out, S', fr, L, Y, now, HC.out, by rw [← HFF.out]; simp⟩⟩
    · have g1 : (F == 0) = false := by simpa using h1
      have HN : Hid (decide (F = 0) = false) := decide_eq_false h1
      clear h1
      go_wp2_with fail
      go_ret2
      exact ⟨hb02, .inl ⟨HOK.out, S', fr, L, Y, now, HC.out, by rw [← HFF.out, HN.out]; rfl⟩⟩
  · have g1 : (E == 0) = false := by simpa using h0
    have hb02 := (below_step hb1 hb2)
    clear s0 s1 s2 s3
    go_wp2_with fail
    go_ret2
    exact ⟨hb02, .inr ⟨h0, rfl⟩⟩

set_option maxRecDepth 100000 in
set_option maxHeartbeats 2000000 in
theorem sure_any (A : Option Addr) (n c : Nat) (RA : Option Addr) (rn rc : Nat) (PA : Option Addr) (pn pc : Nat) (HA : Option Addr) (hn hc : Nat) (S : St) (N : Int) (w : World) (hR : StR w w.heap.size A n RA rn PA pn HA hn S) (hK : StK n c rn pn hn S) :
    Calls Tryz.prog 8 #[.agg #[.slice A n c, .slice RA rn rc, .slice PA pn pc, .slice HA hn hc], .int .i64 N] w fun e w' => Below w.heap.size w w' ∧
      ((StOk S ∧ SureRet S pn N e) ∨
       (stE S ≠ 0 ∧ e = .returned (.tuple #[.bool false, .int .i64 (stE S)]))) := by
  have HF := Lib.hid (fun w hR => asked_any A n c RA rn rc PA pn pc HA hn hc S N w hR hK)
  have HPn : Hid (StOk S → pn ≤ 16) := fun h => by have := h.pins.len; have := hR.lens.2.2.1; omega
  generalize stE S = E at *
  obtain ⟨F, hF⟩ : ∃ F, F = argE N := ⟨_, rfl⟩
  rw [← hF] at HF
  have HFF := Lib.hid hF
  clear hF
  have hb1 := below_new w (.cells #[.slice A n c, .slice RA rn rc, .slice PA pn pc, .slice HA hn hc] 28)
  have DS := Blk.new w 28 #[.slice A n c, .slice RA rn rc, .slice PA pn pc, .slice HA hn hc]
  obtain ⟨s0, s1, s2, s3⟩ := DS.four
  go_enter Tryz.func8, Tryz.ntmps8
  go_wp2_with fail
  refine (HF.out _ ((hR.below hb1).more hb1.size)).mono ?_
  rintro e w2 ⟨hb2, ⟨hOK, S', fr, L, Y, now, hC, rfl⟩ | ⟨h0, rfl⟩⟩
  · have hb02 := below_step hb1 hb2
    have DS := DS.below hb2 DS.lt
    obtain ⟨s0, s1, s2, s3⟩ := DS.four
    have HC := Lib.hid hC
    have HOK := Lib.hid hOK
    have hp := HPn.out hOK
    clear hC hOK
    by_cases h1 : F = 0
    · subst h1
      have hN : 1 ≤ N ∧ N ≤ 256 := by
        have := HFF.out
        unfold argE at this
        split at this <;> omega
      obtain ⟨k, rfl⟩ : ∃ k : Nat, N = k := ⟨N.toNat, by omega⟩
      obtain ⟨q, hq⟩ : ∃ q : Nat, q = pn + 1 := ⟨_, rfl⟩
      obtain ⟨z, hz⟩ : ∃ z : Nat, z = q * k := ⟨_, rfl⟩
      have hz1 : z ≤ 17 * 256 := by rw [hz]; exact Nat.mul_le_mul (by omega) (by omega)
      have hw1 : IntKind.i64.wrap ((pn : Int) + 1) = q := IntWalk.i64_in _ (by omega) |>.trans (by omega)
      have hw2 : IntKind.i64.wrap ((q : Int) * k) = z := (by rw [hz]; exact_mod_cast IntWalk.i64_in _ (by omega))
      have HZ : Hid (((pn : Int) + 1) * k = z) := by show _ = _; rw [hz, hq]; simp
      clear hq hz
      go_wp2_with fail
      go_ret2
      refine ⟨hb02, .inl ⟨HOK.out, S', fr, L, Y, now, HC.out, ?_⟩⟩
      rw [← HFF.out, HZ.out]
      simp
    · have g1 : (F == 0) = false := by simpa using h1
      have HN : Hid (decide (F = 0) = false) := decide_eq_false h1
      clear h1
      go_wp2_with fail
      go_ret2
      exact ⟨hb02, .inl ⟨HOK.out, S', fr, L, Y, now, HC.out, by rw [← HFF.out, HN.out]; rfl⟩⟩
  · have g1 : (E == 0) = false := by simpa using h0
    have hb02 := (below_step hb1 hb2)
    clear s0 s1 s2 s3
    go_wp2_with fail
    go_ret2
    exact ⟨hb02, .inr ⟨h0, rfl⟩⟩

def mostL : Int → List Rn → Int
  | m, [] => m
  | m, r :: l => mostL (max m r.len) l
theorem mostL_snoc (l : List Rn) (r : Rn) : ∀ m, mostL m (l ++ [r]) = max (mostL m l) r.len := by
  induction l with
  | nil => intro m; rfl
  | cons x l ih => intro m; exact ih _
set_option maxRecDepth 100000 in
set_option maxHeartbeats 2000000 in
theorem widest_any (A : Option Addr) (n c : Nat) (RA : Option Addr) (rn rc : Nat) (PA : Option Addr) (pn pc : Nat) (HA : Option Addr) (hn hc : Nat) (S : St) (w : World) (hR : StR w w.heap.size A n RA rn PA pn HA hn S) (hK : StK n c rn pn hn S) :
    Calls Tryz.prog 19 #[.agg #[.slice A n c, .slice RA rn rc, .slice PA pn pc, .slice HA hn hc]] w fun e w' => Below w.heap.size w w' ∧
      ((StOk S ∧ ∃ (S' : St) (fr : Int) (L Y now : List Int), Coll S S' fr L Y now ∧ e = .returned (.tuple #[.int .i64 (mostL 0 (ggL S'.a)), .int .i64 0])) ∨
       (stE S ≠ 0 ∧ e = .returned (.tuple #[.int .i64 0, .int .i64 (stE S)]))) := by
  have HF := Lib.hid (fun w hR => hfree_any A n c RA rn rc PA pn pc HA hn hc S w hR hK)
  generalize stE S = E at *
  have hb1 := below_new w (.cells #[.slice A n c, .slice RA rn rc, .slice PA pn pc, .slice HA hn hc] 28)
  have DS := Blk.new w 28 #[.slice A n c, .slice RA rn rc, .slice PA pn pc, .slice HA hn hc]
  obtain ⟨s0, s1, s2, s3⟩ := DS.four
  go_enter Tryz.func19, Tryz.ntmps19
  go_wp2_with fail
  refine (HF.out _ ((hR.below hb1).more hb1.size)).mono ?_
  rintro e w2 ⟨hb2, ⟨hOK, S', fr, L, Y, now, A1, c1, hC, rfl, hO⟩ | ⟨h0, rfl⟩⟩
  · have hb02 := below_step hb1 hb2
    obtain ⟨-, -, -, -, -, -, -, hg257⟩ := hC.free
    have HC := Lib.hid hC
    have hrG := Reads.of_own hO
    obtain ⟨G, hG⟩ : ∃ G, G = ggL S'.a := ⟨_, rfl⟩
    rw [← hG] at hrG hg257 ⊢
    have HG := Lib.hid hG
    obtain ⟨g, hg⟩ : ∃ g, g = G.length := ⟨_, rfl⟩
    rw [← hg] at hrG hg257 ⊢
    have HGL := Lib.hid hg
    clear s0 s1 s2 s3 hC hO hG hg
    go_wp2_with fail
    go_loopw [18, 7] (fun i m wr => ∃ (j : Nat) (u : Int), j ≤ g ∧ i = .int .i64 j ∧ m = .int .i64 u ∧ Hid (u = mostL 0 (G.take j)) ∧ Below w2.heap.size w2 wr) (fun i _ _ => g - (intOf i).toNat)
    case atStart => exact ⟨0, 0, Nat.zero_le _, rfl, rfl, by show _ = _; simp [mostL], Below.refl _ _⟩
    case round =>
      obtain ⟨j, u, hj, rfl, rfl, hu, hbr⟩ := hrel
      by_cases hlt : j < g
      · obtain ⟨ad, r, rfl, had, hs, c0, c1⟩ := (hrG.below hbr).run hlt
        have HT : Hid (mostL 0 (G.take (j + 1)) = max u r.len) := by
          show _ = _
          obtain ⟨h1, rfl⟩ := List.getElem?_eq_some_iff.1 hs
          rw [List.take_succ_eq_append_getElem h1, mostL_snoc, hu.out]
        obtain ⟨lo, k⟩ := r
        dsimp only at *
        have hj1 : j + 1 ≤ g := hlt
        have hbx := hbr.alloc hbr.size (.cells #[.int .i64 lo, .int .i64 k] 92)
        clear hs
        go_wp2_with fail
        go_roundw
        case rel => exact ⟨j + 1, max u k, hj1, by go_num, by first | rfl | simp [Int.max_def], HT.out.symm, hbx⟩
        case measure => simp [intOf]; omega
      · have hjg : j = g := by omega
        subst hjg
        rw [List.take_of_length_le (by rw [← HGL.out]; exact Nat.le_refl _)] at hu
        have hb03 := below_step hb02 hbr
        go_wp2_with fail
        go_ret2
        exact ⟨hb03, .inl ⟨hOK, S', fr, L, Y, now, HC.out, by rw [← HG.out, ← hu.out]; rfl⟩⟩
  · have hb02 := (below_step hb1 hb2)
    clear s0 s1 s2 s3
    go_wp2_with fail
    go_loopw [18, 7] (fun i m wr => i = .int .i64 0 ∧ m = .int .i64 0 ∧ Below w.heap.size w wr) (fun _ _ _ => 0)
    case atStart => exact ⟨rfl, rfl, hb02⟩
    case round =>
      obtain ⟨rfl, rfl, hbr⟩ := hrel
      go_wp2_with fail
      go_ret2
      exact ⟨hbr, .inr ⟨h0, rfl⟩⟩
end Go.Proofs.YtjdpcmmmdaffdaaGreat

/-
  package hold: Sure, Never over one number of free words; the laws' closed fact 'holds'.
-/
namespace Go.Proofs.YtjdpcmmmdaffdaaGreat
open Go.RowKit

open Classical in
/-- The words that are free behind a collection. -/
noncomputable def roomOf (S : St) : Int := if h : ∃ fr, ∃ (S' : St) (L Y now : List Int), Coll S S' fr L Y now then h.choose else 0
theorem Coll.room {S S' : St} {fr : Int} {L Y now : List Int} (h : Coll S S' fr L Y now) : roomOf S = fr := by
  have hx : ∃ fr, ∃ (S' : St) (L Y now : List Int), Coll S S' fr L Y now := ⟨_, _, _, _, _, h⟩
  unfold roomOf
  rw [dif_pos hx]
  obtain ⟨S2, L2, Y2, now2, h2⟩ := hx.choose_spec
  exact (h.unique h2).2
def holdE (S : St) (N : Int) : Int := if stE S ≠ 0 then stE S else argE N
noncomputable def neverB (S : St) (N : Int) : Bool := decide (holdE S N = 0) && decide (roomOf S < N)
noncomputable def sureB (S : St) (pn : Nat) (N : Int) : Bool := decide (holdE S N = 0) && decide (((pn : Int) + 1) * N ≤ roomOf S)
theorem holdE_ok {S : St} {N : Int} (h : StOk S) : holdE S N = argE N := by
  unfold holdE
  rw [if_neg (by rw [stE_ok.2 h]; decide)]
theorem holdE_bad {S : St} {N : Int} (h : stE S ≠ 0) : holdE S N = stE S := if_pos h
theorem argE_ok {N : Int} (h : argE N = 0) : 1 ≤ N ∧ N ≤ 256 := by
  unfold argE at h
  split at h <;> omega
theorem holdE_zero {S : St} {N : Int} (h : holdE S N = 0) : StOk S ∧ 1 ≤ N ∧ N ≤ 256 := by
  by_cases h0 : stE S = 0
  · rw [holdE_ok (stE_ok.1 h0)] at h
    exact ⟨stE_ok.1 h0, argE_ok h⟩
  · rw [holdE_bad h0] at h
    exact absurd h h0
theorem hold_falls {S : St} {pn : Nat} {N M : Int} (h1 : holdE S N = 0) (h2 : holdE S M = 0) (h : N ≤ M) : (sureB S pn M = true → sureB S pn N = true) ∧ (neverB S N = true → neverB S M = true) := by
  unfold sureB neverB
  rw [h1, h2]
  simp only [decide_true, Bool.true_and, decide_eq_true_eq]
  constructor
  · intro h3
    have : ((pn : Int) + 1) * N ≤ ((pn : Int) + 1) * M := Int.mul_le_mul_of_nonneg_left h (by omega)
    omega
  · intro h3
    omega

theorem never_room (A : Option Addr) (n c : Nat) (RA : Option Addr) (rn rc : Nat) (PA : Option Addr) (pn pc : Nat) (HA : Option Addr) (hn hc : Nat) (S : St) (N : Int) (w : World)
    (hR : StR w w.heap.size A n RA rn PA pn HA hn S) (hK : StK n c rn pn hn S) :
    Calls Tryz.prog 9 #[.agg #[.slice A n c, .slice RA rn rc, .slice PA pn pc, .slice HA hn hc], .int .i64 N] w fun e w' => e = .returned (.tuple #[.bool (neverB S N), .int .i64 (holdE S N)]) ∧ Below w.heap.size w w' := by
  refine (never_any A n c RA rn rc PA pn pc HA hn hc S N w hR hK).mono ?_
  rintro e w' ⟨hb, ⟨hOK, S', fr, L, Y, now, hC, rfl⟩ | ⟨h0, rfl⟩⟩
  · refine ⟨?_, hb⟩
    unfold neverB
    rw [holdE_ok hOK, hC.room]
  · refine ⟨?_, hb⟩
    unfold neverB
    rw [holdE_bad h0, decide_eq_false h0]
    rfl
theorem sure_room (A : Option Addr) (n c : Nat) (RA : Option Addr) (rn rc : Nat) (PA : Option Addr) (pn pc : Nat) (HA : Option Addr) (hn hc : Nat) (S : St) (N : Int) (w : World)
    (hR : StR w w.heap.size A n RA rn PA pn HA hn S) (hK : StK n c rn pn hn S) :
    Calls Tryz.prog 8 #[.agg #[.slice A n c, .slice RA rn rc, .slice PA pn pc, .slice HA hn hc], .int .i64 N] w fun e w' => e = .returned (.tuple #[.bool (sureB S pn N), .int .i64 (holdE S N)]) ∧ Below w.heap.size w w' := by
  refine (sure_any A n c RA rn rc PA pn pc HA hn hc S N w hR hK).mono ?_
  rintro e w' ⟨hb, ⟨hOK, S', fr, L, Y, now, hC, rfl⟩ | ⟨h0, rfl⟩⟩
  · refine ⟨?_, hb⟩
    unfold sureB
    rw [holdE_ok hOK, hC.room]
  · refine ⟨?_, hb⟩
    unfold sureB
    rw [holdE_bad h0, decide_eq_false h0]
    rfl

theorem empty_ok : StOk ⟨[], [], [], []⟩ := by
  refine ⟨by decide, by decide, pinE_ok.1 (by decide), by decide, fun x hx => ?_⟩
  rcases fromL_mem.1 hx with ⟨h, -⟩ | ⟨s, h, -⟩ | ⟨y, h, -⟩ <;> cases h
theorem empty_reads (w : World) : StR w w.heap.size none 0 none 0 none 0 none 0 ⟨[], [], [], []⟩ := ⟨Reads.none_, Reads.none_, Reads.none_, Reads.none_⟩
theorem empty_known : StK 0 0 0 0 0 ⟨[], [], [], []⟩ := ⟨Nat.le_refl _, Nat.zero_le _, (fun x hx => by cases hx), by decide, by decide, by decide⟩
end Go.Proofs.YtjdpcmmmdaffdaaGreat

/-
  Plain law: how many words are free, and whether a gap is long enough. No program stands here.
-/
namespace Go.Proofs.YtjdpcmmmdaffdaaGreat
open Go.RowKit

/-- The words of the objects that are not free. -/
def nfW : List Chk → Int
  | [] => 0
  | c :: cs => (if c.f then 0 else (c.len : Int)) + nfW cs
theorem rsum_flush (i p : Nat) : rsum (flushG i p) = p := by
  unfold flushG
  by_cases h : p = 0
  · rw [if_pos h, h]; rfl
  · rw [if_neg h]; simp [rsum]
theorem rsum_app : ∀ (l m : List Rn), rsum (l ++ m) = rsum l + rsum m
  | [], m => by simp [rsum]
  | r :: l, m => by simp only [List.cons_append, rsum, rsum_app l m]; omega
theorem gapsP_sum : ∀ (cs : List Chk) (i p : Nat), p ≤ i → rsum (gapsP i p cs) + nfW cs = p + (chunksW cs).length
  | [], i, p, _ => by simp [gapsP, rsum_flush, nfW, chunksW]
  | c :: cs, i, p, hp => by
    rw [chunksW_cons, List.length_append, chkW_length]
    by_cases hf : c.f = true
    · have := gapsP_sum cs (i + c.len) (p + c.len) (by omega)
      simp only [gapsP, nfW, hf, if_true]
      omega
    · have := gapsP_sum cs (i + c.len) 0 (by omega)
      simp only [gapsP, nfW, hf, Bool.false_eq_true, if_false, rsum_app, rsum_flush]
      omega
theorem longsL_permS (S : List Spot) {l m : List Int} (h : l.Perm m) : longsL S l = longsL S m := by
  induction h with
  | nil => rfl
  | cons x _ ih => simp only [longsL, ih]
  | swap x y l => simp only [longsL]; omega
  | trans _ _ h1 h2 => exact h1.trans h2
theorem longsL_sub {S : List Spot} : ∀ {L M : List Int}, L.Nodup → (∀ x ∈ L, x ∈ M) → (∀ x ∈ M, 0 ≤ longW S x) → longsL S L ≤ longsL S M
  | [], M, _, _, h => longs_nn h
  | x :: L, M, hn, hs, h => by
    have hx := hs x List.mem_cons_self
    have hp := List.perm_cons_erase hx
    rw [longsL_permS S hp]
    simp only [longsL]
    have hn2 := List.nodup_cons.1 hn
    have := longsL_sub (M := M.erase x) hn2.2 (fun y hy => (List.mem_erase_of_ne (fun e => by subst e; exact hn2.1 hy)).2 (hs y (List.mem_cons_of_mem _ hy))) (fun y hy => h y (List.mem_of_mem_erase hy))
    omega
theorem longsL_begs : ∀ (cs pre : List Chk), (∀ c ∈ pre ++ cs, c.ok) → longsL (spotsFrom 0 (pre ++ cs)) (begsL (spotsFrom (chunksW pre).length cs)) = nfW cs
  | [], pre, _ => rfl
  | c :: cs, pre, hok => by
    have ih := longsL_begs cs (pre ++ [c]) (by simpa using hok)
    rw [List.append_assoc, List.cons_append, List.nil_append, chunksW_append, List.length_append, show (chunksW [c]).length = c.len by rw [chunksW_cons, List.length_append, chkW_length]; simp [chunksW]] at ih
    simp only [spotsFrom, begsL, nfW] at ih ⊢
    by_cases hf : c.f = true
    · rw [List.filter_cons_of_neg (by simp [Chk.spot, hf]), ih, if_pos hf]
      omega
    · have hff : c.f = false := by simpa using hf
      rw [List.filter_cons_of_pos (by simp [Chk.spot, hff]), List.map_cons, if_neg hf]
      simp only [longsL]
      rw [ih]
      have h1 : longW (spotsFrom 0 (pre ++ c :: cs)) (c.spot (chunksW pre).length).loc = c.len := by
        unfold longW
        rw [show (c.spot (chunksW pre).length).loc = ((chunksW pre).length : Int) from rfl, split_at pre cs c hff]
        exact Chk.long (hok c (by simp)) _
      rw [h1]
/-- What is free, and what is reached, fit the arena together. -/
theorem free_live {a L : List Int} (h : checkE a = 0) (hn : L.Nodup) (hL : ∀ x ∈ L, x ∈ begsL (spotsL a)) : rsum (ggL a) + longsL (spotsL a) L ≤ a.length := by
  have h1 := longsL_sub (S := spotsL a) hn hL (fun x hx => longW_nn h hx)
  obtain ⟨cs, hok, rfl, hs, hl, hr⟩ := check_chunks h
  have h2 := longsL_begs cs [] (by simpa using hok)
  have h3 := gapsP_sum cs 0 0 (Nat.le_refl _)
  simp only [List.nil_append, show (chunksW ([] : List Chk)).length = 0 from rfl] at h2
  rw [hs] at h1 ⊢
  unfold ggL
  rw [if_pos h, hs, gapsL_chunks hok]
  omega
theorem gap_good {a : List Int} (h : checkE a = 0) : (ggL a).any badRun = false := by
  rw [List.any_eq_false]
  intro g hg
  obtain ⟨i, n, rfl, h1, -⟩ := gap_facts h hg
  unfold badRun
  simp
  omega
theorem fits_iff {a : List Int} (h : checkE a = 0) {N : Int} (hN : 1 ≤ N) : fitsE (ggL a) N = 0 ↔ ∃ g ∈ ggL a, N ≤ g.len := by
  rw [fitsE_ok]
  constructor
  · rintro ⟨-, -, h3⟩
    obtain ⟨x, hx⟩ := List.exists_mem_of_ne_nil _ h3
    obtain ⟨j, g, h4, h5, -⟩ := fitIx_mem.1 hx
    exact ⟨g, List.mem_of_getElem? h4, h5⟩
  · rintro ⟨g, hg, h5⟩
    refine ⟨hN, gap_good h, ?_⟩
    obtain ⟨j, hj⟩ := List.mem_iff_getElem?.1 hg
    exact List.ne_nil_of_mem (fitIx_mem.2 ⟨j, g, hj, h5, rfl⟩)
theorem rsum_mem : ∀ {G : List Rn}, (∀ g ∈ G, 0 ≤ g.len) → 0 ≤ rsum G ∧ ∀ g ∈ G, g.len ≤ rsum G
  | [], _ => ⟨by simp [rsum], fun g hg => by cases hg⟩
  | x :: G, h => by
    obtain ⟨h1, h2⟩ := rsum_mem (G := G) (fun g hg => h g (List.mem_cons_of_mem _ hg))
    have h3 := h x List.mem_cons_self
    refine ⟨by simp only [rsum]; omega, fun g hg => ?_⟩
    simp only [rsum]
    rcases List.mem_cons.1 hg with rfl | hg
    · omega
    · have := h2 g hg; omega
theorem rsum_small : ∀ {G : List Rn} {N : Int}, (∀ g ∈ G, g.len < N) → rsum G ≤ G.length * (N - 1)
  | [], N, _ => by simp [rsum]
  | x :: G, N, h => by
    have h1 := h x List.mem_cons_self
    have h2 := rsum_small (G := G) (N := N) (fun g hg => h g (List.mem_cons_of_mem _ hg))
    simp only [rsum, List.length_cons]
    have : ((G.length + 1 : Nat) : Int) * (N - 1) = G.length * (N - 1) + (N - 1) := by rw [Int.natCast_add, Int.add_mul]; simp
    omega
/-- With fewer words free than are asked for there is no gap, neither before nor behind a collection. -/
theorem never_law {S S' : St} {fr : Int} {L Y now : List Int} (hS : StOk S) (h : Coll S S' fr L Y now) {N : Int} (hN : 1 ≤ N) (hf : fr < N) : fitsE (ggL S.a) N ≠ 0 ∧ fitsE (ggL S'.a) N ≠ 0 := by
  obtain ⟨-, -, -, f4, f5, f6, -⟩ := h.free
  constructor
  · intro e
    obtain ⟨g, hg, h1⟩ := (fits_iff hS.arena hN).1 e
    have h2 := free_live hS.arena h.is.reached.once h.is.reached.begs
    have h3 := (rsum_mem (G := ggL S.a) (fun g hg => by obtain ⟨i, n, rfl, q, -⟩ := gap_facts hS.arena hg; simp only; omega)).2 g hg
    omega
  · intro e
    obtain ⟨g, hg, h1⟩ := (fits_iff (h.ok hS).arena hN).1 e
    have h3 := (rsum_mem (G := ggL S'.a) (fun g hg => (f6 g hg).1)).2 g hg
    omega
/-- With that many words free for each gap that there can be there is a gap behind a collection. -/
theorem sure_law {S S' : St} {fr : Int} {L Y now : List Int} (hS : StOk S) (h : Coll S S' fr L Y now) {N : Int} (hN : 1 ≤ N) (hf : ((S.p.length : Int) + 1) * N ≤ fr) : fitsE (ggL S'.a) N = 0 := by
  obtain ⟨-, -, -, -, f5, f6, f7, -⟩ := h.free
  refine (fits_iff (h.ok hS).arena hN).2 (Classical.byContradiction fun hno => ?_)
  have h1 : ∀ g ∈ ggL S'.a, g.len < N := fun g hg => by
    have : ¬ N ≤ g.len := fun h => hno ⟨g, hg, h⟩
    omega
  have h2 := rsum_small h1
  have h3 : ((ggL S'.a).length : Int) * (N - 1) ≤ ((S.p.length : Int) + 1) * (N - 1) := Int.mul_le_mul_of_nonneg_right (by omega) (by omega)
  have h4 : ((S.p.length : Int) + 1) * (N - 1) = ((S.p.length : Int) + 1) * N - ((S.p.length : Int) + 1) := by rw [Int.mul_sub]; omega
  omega
end Go.Proofs.YtjdpcmmmdaffdaaGreat

/-
  slices.Repeat at []int, of one element.
-/
namespace Go.Proofs
open Go.RowKit Go.Shelf

shelf_lay Lays.n212 Nm 212 at Tryz as Tryz.mulU

end Go.Proofs
namespace Go.Proofs.YtjdpcmmmdaffdaaGreat
open Go.RowKit

theorem replicate_snoc2 (v : Value) (a b : Nat) : List.replicate (a + b) v = List.replicate a v ++ List.replicate b v := by rw [List.replicate_append_replicate]

/-- What a copy leaves: M cells hold v; m more do. -/
theorem splice_rep {cur : List Value} {v : Value} {M m : Nat} (h : cur.take M = List.replicate M v) (hM : M + m ≤ cur.length) : (splice cur M (List.replicate m v)).take (M + m) = List.replicate (M + m) v ∧ (splice cur M (List.replicate m v)).length = cur.length := by
  have hl := length_splice cur M (List.replicate m v) (by simpa using hM)
  refine ⟨?_, hl⟩
  have hM2 : M ≤ cur.length := by omega
  have ht : (cur.take M).length = M := by rw [List.length_take]; omega
  unfold splice
  rw [h, ← List.append_assoc, replicate_snoc2, List.take_append_of_le_length (by simp), List.take_of_length_le (by simp)]

set_option maxRecDepth 100000 in
set_option maxHeartbeats 1000000 in
theorem repeat_one (gv n : Nat) (v : Int) (w : World) (hv : Blk w gv 3 #[.int .i64 v]) (hn : n ≤ 1000) :
    Calls Tryz.prog 64 #[.slice (some ⟨gv, 0, none⟩) 1 1, .int .i64 n] w fun e w' => ∃ g, e = .returned (.slice (some ⟨g, 0, none⟩) n n) ∧ w'.ownsRow w.heap.size 3 1 (.slice (some ⟨g, 0, none⟩) n n) n ((List.replicate n v).map (.int .i64)) ∧ Below w.heap.size w w' := by
  have HMul := Lib.hid (fun w => Any.bits_Mul Tryz.mulU 1 n (by decide) (by omega) w)
  obtain ⟨i0, hi, hz0, hz1, hz2⟩ := info_parts info_int
  have hmk := run_make_rowN (P := Tryz.prog) 23 3 i0 (.int .i64 0) Tryz.underlying23 hi hz0 .i64 .i64 n n (Nat.le_refl _) (by rw [hz2]; omega) (by omega) w
  rw [hz1, Nat.mul_one] at hmk
  have hmk : (Instr.makeSlice 23 (.int .i64 n) (.int .i64 n)).run Tryz.prog w = .ok (.slice (some ⟨w.heap.size, 0, none⟩) n n) (w.alloc (.cells (madeCells #[Value.int .i64 0] n) 3)) := hmk
  have hd0 : 1 * n / 18446744073709551616 = 0 := by omega
  have hd1 : 1 * n % 18446744073709551616 = n := by omega
  rw [hd0, hd1] at HMul
  have hvl := hv.lt
  have hvc := hv.cell 0
  simp only [List.getElem?_toArray, List.getElem?_cons_zero] at hvc
  -- what make makes, and the first copy
  have hg0 : ((w.alloc (.cells (madeCells #[Value.int .i64 0] n) 3))).heap[w.heap.size]? = some (.cells (List.replicate n (Value.int .i64 0)).toArray 3 (0, 0)) := by rw [madeCells_one]; exact heap_alloc_new w _
  have hb0 := below_new w (.cells (madeCells #[Value.int .i64 0] n) 3)
  have hv0 := hv.alloc (.cells (madeCells #[Value.int .i64 0] n) 3)
  obtain ⟨W0, hW0⟩ : ∃ W0, W0 = w.alloc (.cells (madeCells #[Value.int .i64 0] n) 3) := ⟨_, rfl⟩
  rw [← hW0] at hg0 hb0 hv0
  obtain ⟨m, hm⟩ : ∃ m, m = Nat.min 1 n := ⟨_, rfl⟩
  have hm1 : m ≤ n := by rw [hm]; exact Nat.min_le_right _ _
  have hm2 : m ≤ 1 := by rw [hm]; exact Nat.min_le_left _ _
  have hm3 : n = 0 ∨ m = 1 := by rw [hm]; simp only [Nat.min_def]; split <;> omega
  obtain ⟨cur, hcur⟩ : ∃ cur, cur = splice (List.replicate n (Value.int .i64 0)) 0 (List.replicate m (Value.int .i64 v)) := ⟨_, rfl⟩
  have hsp := splice_rep (v := Value.int .i64 v) (M := 0) (m := m) (cur := List.replicate n (Value.int .i64 0)) (by simp) (by simpa using hm1)
  rw [← hcur, Nat.zero_add, List.length_replicate] at hsp
  obtain ⟨W1, hW1⟩ : ∃ W1, W1 = W0.setRow w.heap.size cur.toArray := ⟨_, rfl⟩
  have hcp : ∀ ty, (Builtin.copy_ #[23, 23] ty #[.slice (some ⟨w.heap.size, 0, none⟩) n n, .slice (some ⟨gv, 0, none⟩) 1 1]).run Tryz.prog W0 = .ok (goInt m) W1 := fun ty => by
    rw [hW1, hcur]
    refine run_copyK (P := Tryz.prog) W0 23 23 ty 3 1 w.heap.size 0 n n ⟨gv, 0, none⟩ 1 1 m _ 3 _ Tryz.underlying23 size_int hg0 hm.symm (by simp) (fun j u hj => ?_) (by simp; omega) (fun u hu => by obtain ⟨-, rfl⟩ := List.mem_replicate.1 hu; rfl)
    obtain ⟨h1, rfl⟩ := List.getElem?_eq_some_iff.1 hj
    simp only [List.length_replicate] at h1
    obtain rfl : j = 0 := by omega
    rw [Addr.add_lit, List.getElem_replicate]
    have := hv0.cell 0
    simpa using this
  have hg1 : W1.heap[w.heap.size]? = some (.cells cur.toArray 3 (0, 0)) := by rw [hW1]; exact setRow_heap W0 _ _ _ _ _ hg0
  have hb1 : Below w.heap.size w W1 := by rw [hW1]; exact below_setRow hb0 (Nat.le_refl _) _
  have g1 : decide ((n : Int) < 0) = false := decide_eq_false (by omega)
  have g2 : decide (9223372036854775807 < n) = false := decide_eq_false (by omega)
  rw [hW0] at hcp
  have HG := Lib.hid hg1
  have HB := Lib.hid hb1
  have HC := Lib.hid hcp
  have HS := Lib.hid hsp
  have w1 : IntKind.u64.wrap (n : Int) = n := IntWalk.u64_in _ (by omega)
  have w2 : IntKind.i64.wrap (n : Int) = n := IntWalk.i64_in _ (by omega)
  have HM3 := Lib.hid hm3
  clear hg1 hb1 hcp hsp hW1 hcur hg0 hb0 hv0 hW0 hm hd0 hd1 hm3 hvc
  go_enter Tryz.func64, Tryz.ntmps64
  go_wp2_with (first | (go_at_call 94; refine (HMul.out _).mono ?_; rintro e w' ⟨rfl, hw⟩; rw [hw]; clear hw w') | (refine wpList_copy_run _ rfl (.tmp 31) (.tmp 32) 23 23 rfl (.slice (some ⟨w.heap.size, 0, none⟩) n n) (.slice (some ⟨gv, 0, none⟩) 1 1) rfl rfl (HC.out _) ?_))
  go_loopw [8] (fun s wr => ∃ (M : Nat) (cur : List Value), s = .int .i64 M ∧ M ≤ n ∧ (n = 0 ∨ 1 ≤ M) ∧ Hid (wr.heap[w.heap.size]? = some (.cells cur.toArray 3 (0, 0)) ∧ cur.length = n ∧ cur.take M = List.replicate M (.int .i64 v)) ∧ Hid (Below w.heap.size w wr)) (fun s _ => n - (intOf s).toNat)
  case atStart => exact ⟨m, cur, rfl, hm1, by rcases HM3.out with h | h; exact .inl h; exact .inr (by omega), ⟨HG.out, HS.out.2, HS.out.1⟩, HB⟩
  case round =>
    obtain ⟨M, cur, rfl, hM, hM1, HC, HB⟩ := hrel
    by_cases hlt : M < n
    · have hM1 : 1 ≤ M := by omega
      obtain ⟨k, hk⟩ : ∃ k, k = Nat.min M (n - M) := ⟨_, rfl⟩
      have hk1 : 1 ≤ k := by rw [hk]; simp only [Nat.min_def]; split <;> omega
      have hk2 : k ≤ n - M := by rw [hk]; exact Nat.min_le_right _ _
      have hk3 : k ≤ M := by rw [hk]; exact Nat.min_le_left _ _
      obtain ⟨c1, c2, c3⟩ := HC.out
      have hsp := splice_rep (v := Value.int .i64 v) (M := M) (m := k) (cur := cur) c3 (by omega)
      obtain ⟨W2, hW2⟩ : ∃ W2, W2 = wr.drew.setRow w.heap.size (splice cur M (List.replicate k (Value.int .i64 v))).toArray := ⟨_, rfl⟩
      have hcp : ∀ ty, (Builtin.copy_ #[23, 23] ty #[.slice (some ⟨w.heap.size, M, none⟩) (n - M) (n - M), .slice (some ⟨w.heap.size, 0, none⟩) M n]).run Tryz.prog wr.drew = .ok (goInt k) W2 := fun ty => by
        rw [hW2]
        refine run_copyK (P := Tryz.prog) wr.drew 23 23 ty 3 1 w.heap.size M (n - M) (n - M) ⟨w.heap.size, 0, none⟩ M n k cur 3 _ Tryz.underlying23 size_int c1 hk.symm (by simp) (fun j u hj => ?_) (by simp; omega) (fun u hu => by obtain ⟨-, rfl⟩ := List.mem_replicate.1 hu; rfl)
        obtain ⟨h1, rfl⟩ := List.getElem?_eq_some_iff.1 hj
        simp only [List.length_replicate] at h1
        rw [Addr.add_lit, Nat.zero_add, cell_of_row wr.drew _ _ _ _ _ c1, List.getElem_replicate]
        have h2 : (cur.take M)[j]? = some (Value.int .i64 v) := by rw [c3, List.getElem?_replicate, if_pos (by omega)]
        rw [List.getElem?_take, if_pos (by omega)] at h2
        simpa using h2
      have hg2 : W2.heap[w.heap.size]? = some (.cells (splice cur M (List.replicate k (Value.int .i64 v))).toArray 3 (0, 0)) := by rw [hW2]; exact setRow_heap wr.drew _ _ _ _ _ c1
      have hb2 : Below w.heap.size w W2 := by rw [hW2]; exact below_setRow HB.out.drew (Nat.le_refl _) _
      obtain ⟨M2, hM2⟩ : ∃ M2, M2 = M + k := ⟨_, rfl⟩
      rw [← hM2] at hsp
      have w3 : IntKind.i64.wrap ((M : Int) + k) = M2 := by rw [IntWalk.i64_in _ (by omega)]; omega
      have HC2 := Lib.hid hcp
      have HG2 := Lib.hid hg2
      have HB2 := Lib.hid hb2
      have HS2 := Lib.hid (And.intro hsp.2 hsp.1)
      have q1 : M2 ≤ n := by omega
      have q2 : M < M2 := by omega
      have q3 : ¬ n = M := by omega
      have q4 : M ≤ n := hM
      have HCl := Lib.hid c2
      clear hcp hg2 hb2 hsp hW2 hM2 hk hk1 hk2 hk3 c1 c2 c3
      go_wp2
      go_region_law (refine step_copy_run rfl (.tmp 41) (.tmp 44) 23 23 rfl (.slice (some ⟨w.heap.size, M, none⟩) (n - M) (n - M)) (.slice (some ⟨w.heap.size, 0, none⟩) M n) (by simp [Act.eval, Act.put]) (by simp [Act.eval, Act.put]) (HC2.out _) ?_)
      all_goals
        simp only [Act.put, List.getElem_toArray, List.getElem_cons_zero, List.getElem_cons_succ, List.setIfInBounds_toArray, List.set_cons_zero, List.set_cons_succ]
        go_wp2
        go_roundw
        case rel => exact ⟨M2, _, by first | rfl | go_num, q1, .inr (by omega), ⟨HG2.out, by rw [HS2.out.1]; exact HCl.out, HS2.out.2⟩, HB2⟩
        case measure => simp [intOf]; omega
    · obtain ⟨c1, c2, c3⟩ := HC.out
      have hMn : M = n := by omega
      have hown := own_close (base := w.heap.size) (size := 1) (n := n) (c := n) cur (Nat.le_refl _) c1 (Nat.le_refl _) (by unfold maxLen; omega) (by omega)
      rw [Nat.mul_one, ← hMn, c3, hMn] at hown
      have HO := Lib.hid hown
      have q5 : decide (M < n) = false := decide_eq_false hlt
      clear c1 c2 c3 hown hMn
      go_wp2
      go_ret
      exact ⟨_, rfl, by rw [List.map_replicate]; exact HO.out, HB.out⟩
end Go.Proofs.YtjdpcmmmdaffdaaGreat

/-
  package word: New.
-/
namespace Go.Proofs.YtjdpcmmmdaffdaaGreat
open Go.RowKit

set_option maxHeartbeats 400000 in
theorem wnew_ok (n : Nat) (w : World) (hn : n ≤ 256) :
    Calls Tryz.prog 61 #[.int .i64 n] w fun e w' => e = .returned (.tuple #[.slice (some ⟨w.heap.size, 0, none⟩) n n, .int .i64 0]) ∧ w' = w.alloc (.cells (madeCells #[Value.int .u64 0] n) 43) := by
  obtain ⟨i0, hi, hz0, hz1, hz2⟩ := info_parts info_u64
  have hmk := fun W => run_make_rowN (P := Tryz.prog) 22 43 i0 (.int .u64 0) Tryz.underlying22 hi hz0 .i64 .i64 n n (Nat.le_refl _) (by rw [hz2]; omega) (by omega) W
  rw [hz1, Nat.mul_one] at hmk
  have h1 : ¬ (n : Int) < 0 := by omega
  have h2 : ¬ (256 : Int) < n := by omega
  go_enter Tryz.func61, Tryz.ntmps61
  go_wp2
  go_ret2
  exact ⟨rfl, rfl⟩
set_option maxHeartbeats 400000 in
theorem wnew_bad (n : Int) (w : World) (hn : n < 0 ∨ 256 < n) :
    Calls Tryz.prog 61 #[.int .i64 n] w fun e w' => e = .returned (.tuple #[.slice none 0 0, .int .i64 4]) ∧ w' = w := by
  rcases hn with h | h
  · go_enter Tryz.func61, Tryz.ntmps61
    go_wp2
    go_ret2
    exact ⟨rfl, rfl⟩
  · have h1 : ¬ n < 0 := by omega
    go_enter Tryz.func61, Tryz.ntmps61
    go_wp2
    go_ret2
    exact ⟨rfl, rfl⟩
theorem results_tmp4c {fn : Func} {t u v x : Tmp} (h : fn.results = #[.tmp t, .tmp u, .tmp v, .tmp x]) (tmps : Array Value) (P : Program) (w : World) :
    (results fn tmps).run P w = .ok (.tuple #[tmps.getD t undef, tmps.getD u undef, tmps.getD v undef, tmps.getD x undef]) w := by simp [results, h]

end Go.Proofs.YtjdpcmmmdaffdaaGreat

/-
  Contract of slices.Equal at []int.
-/
namespace Go.Proofs.YtjdpcmmmdaffdaaGreat
open Go.RowKit

set_option maxHeartbeats 400000 in
theorem equal_int (A A2 : Option Addr) (n c m c2 B B2 : Nat) (xs ys : List Int) (w : World) (hr : Reads w B 1 A n (xs.map (.int .i64))) (hr2 : Reads w B2 1 A2 m (ys.map (.int .i64))) (hn : n ≤ 1000000000000000000) (hm : m ≤ 1000000000000000000) :
    Calls Tryz.prog 43 #[.slice A n c, .slice A2 m c2] w fun e w' => e = .returned (.bool (decide (xs = ys))) ∧ ∃ q, w' = w.drewN q := by
  have hxl : xs.length = n := by have := hr.1; simpa using this
  have hyl : ys.length = m := by have := hr2.1; simpa using this
  have HX := Lib.hid hxl
  have HY := Lib.hid hyl
  clear hxl hyl
  by_cases hnm : n = m
  · subst hnm
    go_enter Tryz.func43, Tryz.ntmps43
    go_wp2
    go_loopw [13] (fun i wr => ∃ j : Nat, j ≤ n ∧ i = .int .i64 j ∧ xs.take j = ys.take j ∧ ∃ q, wr = w.drewN q) (fun i _ => n - (intOf i).toNat)
    case atStart => exact ⟨0, Nat.zero_le _, rfl, by simp, 0, rfl⟩
    case round =>
      obtain ⟨j, hj, rfl, ht, q, rfl⟩ := hrel
      have HT := Lib.hid ht
      clear ht
      by_cases hlt : j < n
      · obtain ⟨ad, u, rfl, _, hx, hc⟩ := hr.at_ hlt
        obtain ⟨ad2, u2, rfl, _, hx2, hc2⟩ := hr2.at_ hlt
        have hl : j < xs.length := by rw [HX.out]; exact hlt
        have hl2 : j < ys.length := by rw [HY.out]; exact hlt
        rw [List.getElem?_map, List.getElem?_eq_getElem hl] at hx
        rw [List.getElem?_map, List.getElem?_eq_getElem hl2] at hx2
        obtain rfl : u = .int .i64 xs[j] := by simpa using hx.symm
        obtain rfl : u2 = .int .i64 ys[j] := by simpa using hx2.symm
        clear hx hx2
        have T : Hid (xs.take (j + 1) = ys.take (j + 1) ↔ xs[j] = ys[j]) := by
          show _ ↔ _
          rw [List.take_succ_eq_append_getElem hl, List.take_succ_eq_append_getElem hl2, HT.out]
          constructor
          · intro h
            have := List.append_cancel_left h
            simpa using this
          · intro h; rw [h]
        have hlt' : (j : Int) < n := by omega
        generalize hgx : xs[j] = x at *
        generalize hgy : ys[j] = y at *
        have HGX := Lib.hid hgx
        have HGY := Lib.hid hgy
        clear hgx hgy
        by_cases he : x = y
        · subst he
          go_wp2
          go_quiet (fail)
          go_wp2
          go_roundw
          case rel => exact ⟨j + 1, by omega, by go_num, T.out.2 (by simp), _, rfl⟩
          case measure => simp [intOf]; omega
        · have he2 : (x == y) = false := by simpa using he
          have he3 : (x != y) = true := by simpa using he
          go_wp2
          go_quiet (fail)
          go_wp2
          go_ret
          refine ⟨?_, _, drewN_add _ _ _⟩
          have : ¬ xs = ys := by
            intro h
            apply he
            rw [← HGX.out, ← HGY.out]
            subst h
            rfl
          rw [decide_eq_false this]
          rfl
      · go_wp2
        go_ret
        have hjn : j = n := by omega
        subst hjn
        exact ⟨by rw [decide_eq_true (eq_of_takes _ _ _ HX.out HY.out HT.out)]; rfl, _, rfl⟩
  · have hne : ¬ xs = ys := by
      intro h
      subst h
      exact hnm (HX.out.symm.trans HY.out)
    have e1 : ((n : Int) == (m : Int)) = false := by simp; omega
    have e2 : ((n : Int) != (m : Int)) = true := by simp; omega
    have e3 : (n == m) = false := by simpa using hnm
    have e4 : (n != m) = true := by simpa using hnm
    go_enter Tryz.func43, Tryz.ntmps43
    go_wp2
    go_ret
    exact ⟨by rw [decide_eq_false hne]; rfl, 0, rfl⟩

end Go.Proofs.YtjdpcmmmdaffdaaGreat
