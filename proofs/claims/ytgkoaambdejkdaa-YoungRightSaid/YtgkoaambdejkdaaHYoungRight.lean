/-
  YoungRight answers true for all ages, writes and lists, and changes no argument: whatever is written, no old one names a young one and is not noted; so nothing that is reached goes.
-/
import Derived.Test.YtgkoaambdejkdaaG2
import Derived.Test.YtgkoaambdejkdaaG3
import Derived.Test.YtgkoaambdejkdaaG4
import Derived.Test.YtgkoaambdejkdaaG10
import Derived.Test.YtgkoaambdejkdaaG16
import Derived.Test.YtgkoaambdejkdaaG17
namespace Go.Proofs.Ytgkoaambdejkdaa
open Go.RowKit

/-- What is reached is kept, or old. -/
theorem kept_reach {a o t f L M : List Int} (hA : AgesOk a o t) (hK : KeptY a o t f L) (hL : Reached a (spotsL a) f M) : ∀ x ∈ M, x ∈ L ++ o := by
  have := hL.least (fun x => x ∈ o ∨ x ∈ L) hK.roots (fun x hx y hy => by
    rcases hx with hx | hx
    · by_cases ht : x ∈ t
      · exact hK.noted x ht y hy
      · exact .inl (hA.held x hx ht y hy)
    · exact hK.closed x hx y hy)
  intro x hx
  exact List.mem_append.2 (this x hx).symm
theorem agew_keeps {a g b : List Int} {at_ ref to_ : Int} {base : Nat} {w' : World} {A1 : Option Addr} {n1 c1 : Nat} {A2 : Option Addr} {n2 c2 : Nat} {A3 : Option Addr} {n3 c3 : Nat} {E : Int}
    (h : AgeWOut a g b at_ ref to_ base w' A1 n1 c1 A2 n2 c2 A3 n3 c3 E) (hE : E = 0) : ∃ a' b', TriO w' base A1 n1 c1 A2 n2 c2 A3 n3 c3 a' g b' ∧ AgesOk a' g b' := by
  rcases h with h | ⟨-, hT, s, k, h1, -, -, h4, h5, hO⟩
  · exact absurd hE h
  · exact ⟨_, _, hO, ages_write hT h1 h4 h5⟩

set_option maxRecDepth 100000 in
set_option maxHeartbeats 8000000 in
theorem youngRight_any (A : Option Addr) (n c : Nat) (G : Option Addr) (gn gc : Nat) (K : Option Addr) (kn kc : Nat) (a g b : List Int) (A4 : Option Addr) (n4 c4 : Nat) (l : List Trio) (A2 : Option Addr) (n2 c2 : Nat) (f : List Int) (w : World) (hR : TriR w w.heap.size A n c G gn K kn a g b) (hn : n ≤ 140737488355328) (hq : gn + kn ≤ 35184372087808)
    (hn4 : n4 ≤ 9223372036854775807) (hr4 : Reads w w.heap.size 3 A4 n4 (triosC l)) (hr2 : Reads w w.heap.size 1 A2 n2 (f.map (.int .i64))) (hnc2 : n2 ≤ c2) (hc2 : c2 ≤ maxLen) (hx2 : ∀ x ∈ f, (Lit.int .i64 x).wf = true) (hm1 : n2 * 8 ≤ 140737488351232) :
    Calls Try.prog 7 #[.agg #[.slice A n c, .slice G gn gc, .slice K kn kc], .slice A4 n4 c4, .slice A2 n2 c2] w fun e w' => e = .returned (.bool true) ∧ Below w.heap.size w w' := by
  clear hc2 hnc2
  have hb0 := below_new w (.cells #[.slice A n c, .slice G gn gc, .slice K kn kc] 52)
  have DS := Blk.new w 52 #[.slice A n c, .slice G gn gc, .slice K kn kc]
  have HCk := Lib.hid (fun (w : World) (hR : TriR w w.heap.size A n c G gn K kn a g b) => youngCheck_any A n c G gn gc K kn kc a g b w hR.ra hR.nc hR.aw hR.rg hR.gw hR.rb hR.bw (by omega) (by omega))
  have HX2 := Lib.hid hx2
  have HR0 := Lib.hid hR
  clear hx2 hR
  by_cases hT : AgesOk a g b
  · have HT0 := Lib.hid hT
    clear hT
    go_enter Try.func7, Try.ntmps7
    go_wp2_with fail
    refine (youths_true _).mono ?_
    rintro e w1 ⟨rfl, hb1⟩
    have hb01 := below_step hb0 hb1
    have DS1 := DS.below hb1 DS.lt
    have HC1 := Lib.hid (HCk.out w1 ((HR0.out.below hb01).more hb01.size))
    obtain ⟨s0, s1, s2⟩ := DS1.three
    clear hb0 hb1 DS
    go_wp2_with fail
    refine HC1.out.mono ?_
    rintro e w2 ⟨⟨E, rfl, hE⟩, hb2⟩
    obtain rfl := hE.2 HT0.out
    have hb02 := below_step hb01 hb2
    have DS2 := DS1.below hb2 DS1.lt
    have HR2 := Lib.hid ((HR0.out.below hb02).more hb02.size)
    clear hE hb2 hb01 DS1 HC1
    go_wp2
    go_loopw [7, 8, 9, 10, 24] (fun _ _ _ _ i wr => ∃ (j : Nat) (A' : Option Addr) (n' c' : Nat) (G' : Option Addr) (gn' gc' : Nat) (K' : Option Addr) (kn' kc' : Nat) (al gl bl : List Int), j ≤ n4 ∧ i = .int .i64 j ∧ Blk wr w.heap.size 52 #[.slice A' n' c', .slice G' gn' gc', .slice K' kn' kc'] ∧
      Hid (TriR wr wr.heap.size A' n' c' G' gn' K' kn' al gl bl) ∧ Hid (AgesOk al gl bl) ∧ Below w.heap.size w wr) (fun _ _ _ _ i _ => n4 - (intOf i).toNat)
    case atStart => exact ⟨0, A, n, c, G, gn, gc, K, kn, kc, a, g, b, Nat.zero_le _, rfl, DS2, HR2, HT0, hb02⟩
    case round =>
      obtain ⟨j, A', n', c', G', gn', gc', K', kn', kc', al, gl, bl, hj, rfl, DS, HR, HT, hb⟩ := hrel
      have hws := hb.size
      have hdl := DS.lt
      have hgk : gn' ≤ 256 ∧ kn' ≤ 256 ∧ n' ≤ 256 := by
        have h1 := HT.out.lens
        have h2 := HR.out.rg.1
        have h3 := HR.out.rb.1
        have h4 := HR.out.ra.1
        simp only [List.length_map, Nat.mul_one] at h2 h3 h4
        omega
      by_cases hlt : j < n4
      · obtain ⟨ad, p, rfl, had, hp, c0, c1, c2'⟩ := (hr4.below hb).trio hlt
        obtain ⟨x, y, z, hx, hy, hz⟩ := p
        dsimp only at c0 c1 c2'
        have hj1 : j + 1 ≤ n4 := hlt
        have hba : Below wr.heap.size wr (wr.alloc (.cells #[.int .i64 x, .int .i64 y, .int .i64 z] 62)) := below_new wr _
        have DSa := DS.alloc (.cells #[.int .i64 x, .int .i64 y, .int .i64 z] 62)
        have HRa := (HR.out.below hba).more hba.size
        have HWr := Lib.hid (youngWrite_any A' n' c' G' gn' gc' K' kn' kc' al gl bl x y z _ HRa.ra HRa.nc HRa.aw HRa.rg HRa.gw HRa.rb HRa.bw (by omega) (by omega) hx hy hz)
        have DPa := Blk.new wr 62 #[.int .i64 x, .int .i64 y, .int .i64 z]
        obtain ⟨k0, k1, k2⟩ := DPa.three
        obtain ⟨s0, s1, s2⟩ := DSa.three
        clear hp hx hy hz HRa
        go_wp2_with fail
        refine HWr.out.mono ?_
        rintro e w3 ⟨hb3, hret⟩
        obtain ⟨C1, m1, e1, C2, m2, e2, C3, m3, e3, E, rfl, hout⟩ := hret.named
        have hwr3 : Below wr.heap.size wr w3 := below_step hba hb3
        have hwr4 : Below wr.heap.size wr (w3.alloc (.cells #[.slice C1 m1 e1, .slice C2 m2 e2, .slice C3 m3 e3] 52)) := hwr3.alloc hwr3.size _
        have hb04 := below_step hb hwr4
        have DS4 := (DSa.below hb3 DSa.lt).alloc (.cells #[.slice C1 m1 e1, .slice C2 m2 e2, .slice C3 m3 e3] 52)
        have DX4 := Blk.new w3 52 #[.slice C1 m1 e1, .slice C2 m2 e2, .slice C3 m3 e3]
        obtain ⟨s0, s1, s2⟩ := DS4.three
        obtain ⟨x0, x1, x2⟩ := DX4.three
        have HR4 := Lib.hid ((HR.out.below hwr4).more hwr4.size)
        clear HWr hret hba DPa DSa k0 k1 k2
        by_cases h60 : j < 60
        · have g60 : decide ((j : Int) < 60) = true := decide_eq_true (by omega)
          have g60' : decide (j < 60) = true := decide_eq_true h60
          by_cases hE : E = 0
          · subst hE
            obtain ⟨a', b', hO, hA⟩ := agew_keeps hout rfl
            have f0 := DS4.frozen 0
            have f1 := DS4.frozen 1
            have f2 := DS4.frozen 2
            have DS5 := DS4.store3 (.slice C1 m1 e1) (.slice C2 m2 e2) (.slice C3 m3 e3)
            have HR5 := Lib.hid ((hO.alloc (.cells #[.slice C1 m1 e1, .slice C2 m2 e2, .slice C3 m3 e3] 52)).store DS4 (by decide) (by decide) (.slice C1 m1 e1) (.slice C2 m2 e2) (.slice C3 m3 e3)).reads
            have HB5 := Lib.hid (below_block3 (g := w.heap.size) hb04 (Nat.le_refl _) (.slice C1 m1 e1) (.slice C2 m2 e2) (.slice C3 m3 e3))
            have HA5 := Lib.hid hA
            clear hout hO hA hb3
            go_wp2
            go_roundw
            case rel => exact ⟨j + 1, C1, m1, e1, C2, m2, e2, C3, m3, e3, a', gl, b', hj1, by go_num, DS5, HR5, HA5, HB5.out⟩
            case measure => simp [intOf]; omega
          · have hE1 : (E == 0) = false := by simpa using hE
            clear hout hE hb3
            go_wp2
            go_roundw
            case rel => exact ⟨j + 1, A', n', c', G', gn', gc', K', kn', kc', al, gl, bl, hj1, by go_num, DS4, HR4, HT, hb04⟩
            case measure => simp [intOf]; omega
        · have g60 : decide ((j : Int) < 60) = false := decide_eq_false (by omega)
          have g60' : decide (j < 60) = false := decide_eq_false h60
          clear hout hb3
          go_wp2
          go_roundw
          case rel => exact ⟨j + 1, A', n', c', G', gn', gc', K', kn', kc', al, gl, bl, hj1, by go_num, DS4, HR4, HT, hb04⟩
          case measure => simp [intOf]; omega
      · have g0 : decide (j < n4) = false := decide_eq_false hlt
        have HC2 := Lib.hid (youngCheck_any A' n' c' G' gn' gc' K' kn' kc' al gl bl wr HR.out.ra HR.out.nc HR.out.aw HR.out.rg HR.out.gw HR.out.rb HR.out.bw (by omega) (by omega))
        have HKp := Lib.hid (fun (W : World) (hR : TriR W W.heap.size A' n' c' G' gn' K' kn' al gl bl) (hr2 : Reads W W.heap.size 1 A2 n2 (f.map (.int .i64))) => youngKeep_ok A' n' c' G' gn' gc' K' kn' kc' al gl bl A2 n2 c2 f W hR.ra hR.nc hR.aw hR.rg hR.gw hR.rb hR.bw hr2 (by omega) HX2.out HT.out)
        have HGr := Lib.hid (fun (W : World) (hR : TriR W W.heap.size A' n' c' G' gn' K' kn' al gl bl) (hr2 : Reads W W.heap.size 1 A2 n2 (f.map (.int .i64))) => youngGrow_ok A' n' c' G' gn' gc' K' kn' kc' al gl bl A2 n2 c2 f W hR.ra hR.nc hR.aw hR.rg hR.gw hR.rb hR.bw hr2 (by omega) HX2.out HT.out)
        have HRe := Lib.hid (fun (W : World) (hR : TriR W W.heap.size A' n' c' G' gn' K' kn' al gl bl) (hr2 : Reads W W.heap.size 1 A2 n2 (f.map (.int .i64))) => reach_ok A' n' c' al A2 n2 c2 f W hR.ra hR.nc hR.aw hr2 (by omega) HX2.out HT.out.ok)
        have H0 := Lib.hid ((checkE_ok.1 HT.out.ok).1)
        obtain ⟨s0, s1, s2⟩ := DS.three
        obtain ⟨wo, hwo⟩ : ∃ x, x = wr := ⟨wr, rfl⟩
        subst hwo
        go_wp2_with fail
        refine HC2.out.mono ?_
        rintro e w3 ⟨⟨E, rfl, hE⟩, hb3⟩
        obtain rfl := hE.2 HT.out
        have hb03 := below_step hb hb3
        have DS3 := DS.below hb3 DS.lt
        have HR3 := Lib.hid ((HR.out.below hb3).more hb3.size)
        have HK3 := Lib.hid (HKp.out w3 HR3.out ((hr2.below hb03).more hb03.size))
        obtain ⟨s0, s1, s2⟩ := DS3.three
        clear hE hb3 HC2 HKp DS
        go_wp2_with fail
        refine HK3.out.mono ?_
        rintro e w4 ⟨hb4, ⟨hall, L, A6, c6, hL, rfl, hown6⟩ | ⟨hex, rfl⟩⟩
        · have hb04 := below_step hb03 hb4
          have DS4 := DS3.below hb4 DS3.lt
          have HR4 := Lib.hid ((HR3.out.below hb4).more hb4.size)
          have HG4 := Lib.hid (HGr.out w4 HR4.out ((hr2.below hb04).more hb04.size))
          have hr6 := Reads.of_own hown6
          have hL256 : L.length ≤ 256 := nodup_bound 256 _ hL.once (fun x hx => begsL_bounds H0.out x (hL.begs x hx))
          obtain ⟨m, hm⟩ : ∃ m, m = L.length := ⟨_, rfl⟩
          rw [← hm] at hr6 hL256 ⊢
          obtain ⟨s0, s1, s2⟩ := DS4.three
          have HAll := Lib.hid hall
          have HL := Lib.hid hL
          clear hb4 hown6 hm hall hL HK3 DS3 HGr
          go_wp2_with fail
          refine HG4.out.mono ?_
          rintro e w5 ⟨hb5, ⟨⟨x, hx, hn⟩, -⟩ | ⟨-, L2, a', D, B1, m1, d1, B2, m2, d2, hK2, hF2, hD2, rfl, hO⟩⟩
          · exact absurd (HAll.out x hx) hn
          · have hAg := hF2.ages HT.out hK2 hD2
            have hbx : Below w4.heap.size w4 (w5.alloc (.cells #[.slice B1 m1 d1, .slice B2 m2 d2, .slice none 0 0] 52)) := hb5.alloc hb5.size _
            have hb06 := below_step hb04 hbx
            have DS6 := DS4.below hbx DS4.lt
            have DX6 := Blk.new w5 52 #[.slice B1 m1 d1, .slice B2 m2 d2, .slice none 0 0]
            have HX6 := Lib.hid (hO.alloc (.cells #[.slice B1 m1 d1, .slice B2 m2 d2, .slice none 0 0] 52)).reads
            have HR6 := Lib.hid ((HR4.out.below hbx).more hbx.size)
            have hr6x := (hr6.below hbx).more hbx.size
            have HRe6 := Lib.hid (HRe.out _ HR6.out ((hr2.below hb06).more hb06.size))
            have HAg := Lib.hid hAg
            have hm2 : m2 ≤ 256 := by
              have h1 := hAg.lens
              have h2 := HX6.out.rg.1
              simp only [List.length_map, Nat.mul_one] at h2
              omega
            obtain ⟨s0, s1, s2⟩ := DS6.three
            obtain ⟨x0, x1, x2⟩ := DX6.three
            generalize olderL gl L2 = OL at *
            clear hK2 hF2 hD2 hO hAg hb5 hbx hr6 HG4 DS4
            go_wp2_with fail
            refine HRe6.out.mono ?_
            rintro e w7 ⟨hb7, ⟨M, A7, c7, hM, rfl, hown7⟩ | ⟨⟨x, hx, hn⟩, -⟩⟩
            · have hM256 : M.length ≤ 256 := nodup_bound 256 _ hM.once (fun x hx => begsL_bounds H0.out x (hM.begs x hx))
              have HWi : Hid (∀ x ∈ M, x ∈ L ++ gl) := kept_reach HT.out HL.out hM
              have hr7 := Reads.of_own hown7
              obtain ⟨mm, hmm⟩ : ∃ mm, mm = M.length := ⟨_, rfl⟩
              rw [← hmm] at hr7 hM256 ⊢
              have hbz := below_new w7 (.cells #[.slice A6 m c6, .slice G' gn' gc'] 23)
              have hb78 := below_step hb7 hbz
              have hb08 := below_step hb06 hb78
              have DS8 := DS6.below hb78 DS6.lt
              have DX8 := DX6.below hb78 DX6.lt
              have hr78 := (hr7.below hbz).more hbz.size
              have HCc := Lib.hid (concat2_int A6 m c6 (L.map (.int .i64)) G' gn' gc' (gl.map (.int .i64)) (some ⟨w7.heap.size, 0, none⟩) 2 (w7.alloc (.cells #[.slice A6 m c6, .slice G' gn' gc'] 23)) (by simpa using reads_new w7 [.slice A6 m c6, .slice G' gn' gc'] 23 2 1 rfl) ((hr6x.below hb78).more hb78.size) ((HR6.out.rg.below hb78).more hb78.size) (ints_one _) (ints_one _) (by omega))
              have hsz8 := hb78.size
              obtain ⟨s0, s1, s2⟩ := (DS6.below hb7 DS6.lt).three
              obtain ⟨t0, t1, t2⟩ := DS8.three
              obtain ⟨x0, x1, x2⟩ := DX8.three
              clear hM hown7 hmm hbz hb7 hr7
              go_wp2_with fail
              refine HCc.out.mono ?_
              rintro e w9 ⟨A8, c8, rfl, hown8, hb9⟩
              rw [← List.map_append] at hown8
              have hb89 := below_step hb78 hb9
              have hb09 := below_step hb08 hb9
              have DX9 := DX8.below hb9 DX8.lt
              have HW9 := Lib.hid (within_two A7 A8 mm c7 (m + gn') c8 M (L ++ gl) true w9 ((hr78.below hb9).more hb9.size) (by omega) (Reads.of_own hown8) (by omega) (decide_eq_true HWi.out))
              obtain ⟨x0, x1, x2⟩ := DX9.three
              clear hown8 hb9
              go_wp2_with fail
              refine HW9.out.mono ?_
              rintro e w10 ⟨rfl, hb10⟩
              have hb8a := below_step hb89 hb10
              have hb0a := below_step hb09 hb10
              have DXa := DX9.below hb10 DX9.lt
              have HXa := (HX6.out.below hb8a).more hb8a.size
              have HC9 := Lib.hid (youngCheck_any B1 m1 d1 B2 m2 d2 none 0 0 a' OL [] w10 HXa.ra HXa.nc HXa.aw HXa.rg HXa.gw HXa.rb HXa.bw (by omega) (by omega))
              obtain ⟨x0, x1, x2⟩ := DXa.three
              clear hb10 hb8a HXa
              go_wp2_with fail
              refine HC9.out.mono ?_
              rintro e w11 ⟨⟨E, rfl, hE⟩, hb11⟩
              obtain rfl := hE.2 HAg.out
              have hb0b := below_step hb0a hb11
              obtain ⟨x0, x1, x2⟩ := (DXa.below hb11 DXa.lt).three
              clear hE hb11 HC9
              go_wp2
              go_ret
              exact ⟨by first | rfl | simp, hb0b⟩
            · exact absurd (HAll.out x hx) hn
        · have hb04 := below_step hb03 hb4
          have DS4 := DS3.below hb4 DS3.lt
          have HR4 := Lib.hid ((HR3.out.below hb4).more hb4.size)
          have HG4 := Lib.hid (HGr.out w4 HR4.out ((hr2.below hb04).more hb04.size))
          obtain ⟨s0, s1, s2⟩ := DS4.three
          have HEx := Lib.hid hex
          clear hb4 hex HK3 DS3 HGr
          go_wp2_with fail
          refine HG4.out.mono ?_
          rintro e w5 ⟨hb5, ⟨-, rfl⟩ | ⟨hall, -⟩⟩
          · have hbx := (below_step hb04 hb5).alloc (below_step hb04 hb5).size (.cells #[.slice none 0 0, .slice none 0 0, .slice none 0 0] 52)
            go_wp2
            go_ret
            exact ⟨by first | rfl | simp, hbx⟩
          · obtain ⟨x, hx, hn⟩ := HEx.out
            exact absurd (hall x hx) hn
  · have HN := Lib.hid hT
    clear hT
    go_enter Try.func7, Try.ntmps7
    go_wp2_with fail
    refine (youths_true _).mono ?_
    rintro e w1 ⟨rfl, hb1⟩
    have hb01 := below_step hb0 hb1
    have DS1 := DS.below hb1 DS.lt
    have HC1 := Lib.hid (HCk.out w1 ((HR0.out.below hb01).more hb01.size))
    obtain ⟨s0, s1, s2⟩ := DS1.three
    clear hb0 hb1 DS
    go_wp2_with fail
    refine HC1.out.mono ?_
    rintro e w2 ⟨⟨E, rfl, hE⟩, hb2⟩
    have hE1 : (E != 0) = true := by
      have : E ≠ 0 := fun h => HN.out (hE.1 h)
      simpa using this
    have hb02 := below_step hb01 hb2
    clear hE
    go_wp2
    go_ret
    exact ⟨by first | rfl | simp, hb02⟩

namespace YoungRight
open Go.ChangeShapes Go.WideShapes Go.ChangeAt Go.RowKit
theorem own : ownKnob Try.prog.godebug = none := by kernel_rfl
theorem laidOut : laidOutB Try.prog = true := by kernel_rfl

set_option maxRecDepth 100000 in
theorem lifted (os : Os) (started : os.Started) (H : Type) (enc : TypeId × Value → H) :
    ReturnsInHanded {} Try.checked os 7 .any (Rows.youngRightSpec.pre6 enc Try.prog Try.f7 Rows.youngRightRow.domain false) (Rows.youngRightSpec.post enc Try.prog Try.f7 false true false false) := by
  refine returnsInHanded_of_change_sized (C := Try.checked) own started (by as_aux_lemma => kernel_rfl) Try.func7
    (ChangeSpec.witness6 (enc := enc) (C := Try.checked) false ⟨#[], #[.agg #[.slice none 0 0, .slice none 0 0, .slice none 0 0], .slice none 0 0, .slice none 0 0], []⟩ 8 (by as_aux_lemma => kernel_rfl) (by as_aux_lemma => kernel_rfl) (by as_aux_lemma => kernel_rfl) (by as_aux_lemma => kernel_rfl)) ?_
  intro W base args ds gs before hval0 hW hcnd hsz _
  have hval : ∀ (j : Nat) t v, Try.f7.params[j]? = some t → args[j]? = some v → Value.okWide Try.prog W .any base t v := hval0
  have hW' := hW
  obtain ⟨p, q, hA0, hV, rfl, hfz, hnd⟩ := hW
  have hA : DataW.TrodAll enc Try.prog W 0 (fun _ => true) true Try.f7.params.toList args.toList ds p := hA0
  rw [Try.params7] at hA hval
  obtain ⟨v0, vs0, d0, ds0, p0, q0, hargs, rfl, rfl, h0, hA⟩ := trodAll_cons hA
  obtain ⟨v1, vs1, d1, ds1, p1, q1, rfl, rfl, rfl, h1, hA⟩ := trodAll_cons hA
  obtain ⟨v2, vs2, d2, ds2, p2, q2, rfl, rfl, rfl, h2, hA⟩ := trodAll_cons hA
  obtain ⟨rfl, rfl, rfl⟩ := trodAll_nil hA
  obtain rfl : args = #[v0, v1, v2] := by cases args; simp_all
  obtain ⟨A0, n0, c0, G0, gn0, gc0, K0, kn0, kc0, a0, g0, b0, rfl, hR0, hn0, hq0⟩ := open_ages (hval 0 _ v0 rfl rfl) (fun x hx => hW'.lt x (by simp [hx])) h0 (fun m hm => by simpa using List.all_eq_true.1 hsz _ (DataW.weights_mem_each (j := 0) (t := 52) rfl rfl m hm))
  obtain ⟨A1, n1, c1, l1, rfl, hn1, hr1⟩ := open_trios (hval 1 _ v1 rfl rfl) (fun x hx => hW'.lt x (by simp [hx])) h1
  obtain ⟨A2, n2, c2, xs2, rfl, hnc2, hc2, hr2, hx2, hd2⟩ := open_nums2 Try.underlying23 Try.underlying3 (by as_aux_lemma => kernel_rfl) (hval 2 _ v2 rfl rfl) (fun x hx => hW'.lt x (by simp [hx])) h2
  have hm2 : n2 * 8 ≤ 140737488351232 := by
    rcases hd2 with h0 | ⟨D, E, rfl, hD⟩
    · omega
    · have h5 : (D.length + E.length) * Try.prog.bytesOf 3 ≤ reachBytes := sized_slice hsz (j := 2) (t := 23) (e := 3) rfl rfl Try.underlying23
      rw [k_int_bytes, hD] at h5
      simp only [reachBytes] at h5
      omega
  refine (youngRight_any A0 n0 c0 G0 gn0 gc0 K0 kn0 kc0 a0 g0 b0 A1 n1 c1 l1 A2 n2 c2 xs2 W hR0 hn0 hq0 hn1 hr1 hr2 hnc2 hc2 hx2 hm2).mono fun e W' ⟨he, hb⟩ => ?_
  subst he
  exact ⟨_, rfl, law_post laidOut Try.underlying4 rfl (by as_aux_lemma => kernel_rfl) rfl rfl hW' hb⟩

set_option maxHeartbeats 10000000 in
theorem closed : joinedFacts Try.prog 7 Try.f7 Rows.youngRightSpec Rows.youngRightRow = true := by
  unfold joinedFacts
  simp only [Bool.and_eq_true]
  repeat' apply And.intro
  all_goals as_aux_lemma => kernel_rfl

set_option maxHeartbeats 1000000 in
theorem proved : Rows.YoungRightSaid :=
  OpenClaim.holds_of_wide 7 Try.f7 rfl rfl rfl rfl rfl rfl rfl ⟨rfl, rfl, rfl, rfl, rfl⟩ rfl rfl rfl rfl rfl (by as_aux_lemma => kernel_rfl) Try.func7 closed
    (of_decide_eq_true (by as_aux_lemma => kernel_rfl)) (by unfold Func.isWrapper; first | (rw [if_pos (by decide +kernel)]; kernel_rfl) | (rw [if_neg (by decide +kernel)]; exact ⟨rfl, rfl⟩))
    (fun os started H enc _ => lifted os started H enc)
end YoungRight
end Go.Proofs.Ytgkoaambdejkdaa
