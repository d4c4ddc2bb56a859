/-
  package slide: Clean.
-/
import Derived.Test.YtammailnbgojgaaSlideFn
import Derived.Test.YtammailnbgojgaaTintReach
import Derived.Test.YtammailnbgojgaaConcatInt
import Derived.Test.YtammailnbgojgaaContainsInt
namespace Go.Proofs.Ytammailnbgojgaa
open Go.RowKit

set_option maxHeartbeats 400000 in
theorem slide_bad (A A2 A3 : Option Addr) (n c n2 c2 m c3 : Nat) (a keep pinned : List Int) (w : World) (hr : Reads w w.heap.size 1 A n (a.map (.int .u64))) (hnc : n ≤ c) (ha : ∀ x ∈ a, (Lit.int .u64 x).wf = true)
    (hr2 : Reads w w.heap.size 1 A2 n2 (keep.map (.int .i64))) (hr3 : Reads w w.heap.size 1 A3 m (pinned.map (.int .i64))) (hn2 : n2 * 8 ≤ 140737488351232) (hm : m ≤ 1000000000000000000) (hE : longsE a keep pinned ≠ 0) :
    Calls Try.prog 27 #[.slice A n c, .slice A2 n2 c2, .slice A3 m c3] w fun e w' => e = .returned (.tuple #[.slice none 0 0, .slice none 0 0, .int .i64 (longsE a keep pinned)]) ∧ Below w.heap.size w w' := by
  have H1 := Lib.hid (fun w hr hr2 hr3 => planTo_bad A A2 A3 n c n2 c2 m c3 a keep pinned w hr hnc ha hr2 hr3 hn2 hm hE)
  have hE1 : (longsE a keep pinned != 0) = true := by simpa using hE
  generalize longsE a keep pinned = E at *
  clear hE
  go_enter Try.func27, Try.ntmps27
  go_wp2_with fail
  refine (H1.out _ hr hr2 hr3).mono ?_
  rintro e w1 ⟨rfl, hb1⟩
  go_wp2
  go_ret3
  exact ⟨rfl, hb1⟩

def CleanOk (a f p : List Int) : Prop := checkE a = 0 ∧ (∀ x ∈ f ++ p, x ∈ begsL (spotsL a)) ∧ risesP p = true
theorem pairwise_rises : ∀ {l : List Int}, l.Pairwise (· < ·) → risesP l = true
  | [], _ => rfl
  | [_], _ => rfl
  | x :: y :: t, h => by
    obtain ⟨h1, h2⟩ := List.pairwise_cons.1 h
    simp only [risesP, Bool.and_eq_true, decide_eq_true_eq]
    exact ⟨h1 y List.mem_cons_self, pairwise_rises h2⟩
theorem reached_rises {a f L : List Int} {S : List Spot} (h : Reached a S f L) : risesP L = true := by
  refine pairwise_rises ?_
  have h1 := h.sorted
  have h2 := List.nodup_iff_pairwise_ne.1 h.once
  exact (List.Pairwise.and h1 h2).imp (fun ⟨h, h'⟩ => by omega)
theorem begs_ix {S : List Spot} {x : Int} (h : x ∈ begsL S) : 0 ≤ ixOf (pL x) S := by
  obtain ⟨s, hs⟩ := begsL_iff.1 h
  obtain ⟨h1, h2, h3⟩ := spotAt_some hs
  rcases ixOf_cases (pL x) S with ⟨-, e2⟩ | ⟨i, s', e1, -⟩
  · have := e2 s h1
    simp [pL, h2, h3] at this
  · omega
theorem clean_longs {a f p L : List Int} (h0 : checkE a = 0) (h : Reached a (spotsL a) (f ++ p) L) : (risesP p = true → longsE a L p = 0) ∧ (risesP p = false → longsE a L p = 3) := by
  constructor
  · intro hp
    exact longsE_ok.2 ⟨h0, reached_rises h, hp, fun x hx => begs_ix (h.begs x hx), fun x hx => h.roots x (List.mem_append_right _ hx)⟩
  · intro hp
    unfold longsE
    rw [if_neg (by simp [h0]), if_pos (by simp [hp])]
theorem reached_closed {a f L : List Int} (h0 : checkE a = 0) (h : Reached a (spotsL a) f L) : ClosedL a L :=
  ⟨h.begs, h.closed, fun x hx => (begsL_bounds (checkE_ok.1 h0).1 x (h.begs x hx)).1⟩

/-- What Clean makes. -/
structure CleanIs (a f p L Y b now : List Int) : Prop where
  check : checkE a = 0
  rises : risesP p = true
  reached : Reached a (spotsL a) (f ++ p) L
  longs : longsE a L p = 0
  y : Y = slidGo p 0 L (longsV a L p)
  b : b = slidW a L p
  now : now = f.map (posL L Y)

set_option maxRecDepth 100000 in
set_option maxHeartbeats 2000000 in
theorem clean_any (A : Option Addr) (n c : Nat) (a : List Int) (A2 : Option Addr) (n2 c2 : Nat) (f : List Int) (A3 : Option Addr) (m c3 : Nat) (p : List Int) (w : World) (hr : Reads w w.heap.size 1 A n (a.map (.int .u64))) (hnc : n ≤ c) (hc : c ≤ maxLen) (ha : ∀ x ∈ a, (Lit.int .u64 x).wf = true)
    (hr2 : Reads w w.heap.size 1 A2 n2 (f.map (.int .i64))) (hn2 : n2 * 8 ≤ 140737488351232) (hx2 : ∀ x ∈ f, (Lit.int .i64 x).wf = true) (hr3 : Reads w w.heap.size 1 A3 m (p.map (.int .i64))) (hm : m * 8 ≤ 140737488351232) (hx3 : ∀ x ∈ p, (Lit.int .i64 x).wf = true) :
    Calls Try.prog 10 #[.slice A n c, .slice A2 n2 c2, .slice A3 m c3] w fun e w' => Below w.heap.size w w' ∧
      ((CleanOk a f p ∧ ∃ (L Y b now : List Int) (A1 : Option Addr) (c1 : Nat) (A4 : Option Addr) (c4 : Nat), CleanIs a f p L Y b now ∧ e = .returned (.tuple #[.slice A1 n c1, .slice A4 n2 c4, .int .i64 0]) ∧
          w'.ownsRow w.heap.size 42 1 (.slice A1 n c1) n (b.map (.int .u64)) ∧ w'.ownsRow w.heap.size 3 1 (.slice A4 n2 c4) n2 (now.map (.int .i64))) ∨
       (¬ CleanOk a f p ∧ ∃ er : Int, (er != 0) = true ∧ e = .returned (.tuple #[.slice none 0 0, .slice none 0 0, .int .i64 er]))) := by
  have hfl : f.length = n2 := by have := hr2.1; simpa using this
  have hpl : p.length = m := by have := hr3.1; simpa using this
  have hv := reads_new w [.slice A2 n2 c2, .slice A3 m c3] 23 2 1 rfl
  have hbn := below_new w (.cells #[.slice A2 n2 c2, .slice A3 m c3] 23)
  have HCo := Lib.hid (concat2_int A2 n2 c2 (f.map (.int .i64)) A3 m c3 (p.map (.int .i64)) (some ⟨w.heap.size, 0, none⟩) 2 _ (hv.more (by simp)) ((hr2.below hbn).more hbn.size) ((hr3.below hbn).more hbn.size) (ints_one f) (ints_one p) (by omega))
  have hxx : ∀ x ∈ f ++ p, (Lit.int .i64 x).wf = true := fun x hx => by
    rcases List.mem_append.1 hx with h | h
    · exact hx2 x h
    · exact hx3 x h
  by_cases hE : checkE a = 0
  · have HR := Lib.hid (fun A4 c4 w hr hr4 => reach_ok A n c a A4 (n2 + m) c4 (f ++ p) w hr hnc ha hr4 (by omega) hxx hE)
    have HSO := Lib.hid (fun A4 c4 L k w hr hr4 hr3 (hk : k = L.length) hkl (h1 : Reached a (spotsL a) (f ++ p) L) (h2 : risesP p = true) => slide_ok A A4 A3 n c k c4 m c3 a L p w hr hnc hc ha hr4 hr3 hkl (by omega) ((clean_longs hE h1).1 h2) (reached_closed hE h1))
    have HSB := Lib.hid (fun A4 c4 L k w hr hr4 hr3 (hk : k = L.length) hkl (h1 : Reached a (spotsL a) (f ++ p) L) (h2 : risesP p = false) => by
      have := slide_bad A A4 A3 n c k c4 m c3 a L p w hr hnc ha hr4 hr3 hkl (by omega) (by rw [(clean_longs hE h1).2 h2]; decide)
      rw [(clean_longs hE h1).2 h2] at this
      exact this)
    have HPl := Lib.hid (fun L (h1 : Reached a (spotsL a) (f ++ p) L) (h2 : risesP p = true) => planned_of ((clean_longs hE h1).1 h2))
    have HIs := Lib.hid (fun L (h1 : Reached a (spotsL a) (f ++ p) L) (h2 : risesP p = true) => (⟨hE, h2, h1, (clean_longs hE h1).1 h2, rfl, rfl, rfl⟩ : CleanIs a f p L (slidGo p 0 L (longsV a L p)) (slidW a L p) (f.map (posL L (slidGo p 0 L (longsV a L p))))))
    have HNo : Hid (∀ z ∈ f ++ p, z ∉ begsL (spotsL a) → ¬ CleanOk a f p) := fun z hz hz2 h => hz2 (h.2.1 z hz)
    have HNo2 : Hid (risesP p = false → ¬ CleanOk a f p) := fun h1 h => by rw [h.2.2] at h1; cases h1
    have HYes : Hid (∀ L, Reached a (spotsL a) (f ++ p) L → risesP p = true → CleanOk a f p) := fun L h1 h2 => ⟨hE, fun x hx => h1.begs x (h1.roots x hx), h2⟩
    have HBB := Lib.hid (begsL_bounds (checkE_ok.1 hE).1)
    generalize spotsL a = S at *
    have HFL := Lib.hid hfl
    obtain ⟨i0, hi, hz0, hz1, hz2⟩ := info_parts info_int
    have hn2b : n2 ≤ 100000000000000 := by omega
    clear hfl hpl hv hxx hE
    go_enter Try.func10, Try.ntmps10
    go_wp2_with fail
    refine HCo.out.mono ?_
    rintro e w1 ⟨A4, c4, rfl, hown4, hb1⟩
    rw [← List.map_append] at hown4
    have hb01 := below_step hbn hb1
    have hr4 := Reads.of_own hown4
    clear hown4 hbn hb1
    go_wp2_with fail
    refine (HR.out _ _ _ ((hr.below hb01).more hb01.size) hr4).mono ?_
    rintro e w2 ⟨hb2, ⟨L, A5, c5, hL, rfl, hown5⟩ | ⟨⟨z, hz, hz2⟩, rfl⟩⟩
    · have hb02 := below_step hb01 hb2
      have hL256 : L.length ≤ 256 := nodup_bound 256 L hL.once (fun x hx => HBB.out x (hL.begs x hx))
      have hr5 := Reads.of_own hown5
      obtain ⟨k, hk⟩ : ∃ k, k = L.length := ⟨_, rfl⟩
      rw [← hk] at hr5 hL256 ⊢
      cases hp : risesP p
      · have HS := Lib.hid (HSB.out A5 c5 L k w2 ((hr.below hb02).more hb02.size) hr5 ((hr3.below hb02).more hb02.size) hk (by omega) hL hp)
        have HN := Lib.hid (HNo2.out hp)
        clear hp hown5 hL hr5 hk
        go_wp2_with fail
        refine HS.out.mono ?_
        rintro e w3 ⟨rfl, hb3⟩
        go_wp2
        go_ret3
        exact ⟨below_step hb02 hb3, .inr ⟨HN.out, 3, by decide, rfl⟩⟩
      · have HS := Lib.hid (HSO.out A5 c5 L k w2 ((hr.below hb02).more hb02.size) hr5 ((hr3.below hb02).more hb02.size) hk (by omega) hL hp)
        have HI := HIs.out L hL hp
        have HP := HPl.out L hL hp
        have HY := Lib.hid (HYes.out L hL hp)
        have hLf : ∀ x ∈ f, x ∈ L := fun x hx => hL.roots x (List.mem_append_left _ hx)
        have hYl := HP.len
        have hnd := HP.nodup
        rw [← hk] at hYl
        generalize slidGo p 0 L (longsV a L p) = Y at *
        generalize slidW a L p = b at *
        obtain ⟨φ, hφ⟩ : ∃ φ, φ = posL L Y := ⟨_, rfl⟩
        rw [← hφ] at HI
        have hix : ∀ x ∈ L, ∃ (q : Nat) (y : Int), q < k ∧ ixOf (fun z => x == z) L = q ∧ Y[q]? = some y ∧ φ x = y := fun x hx => by
          obtain ⟨q, y, h1, h2, h3⟩ := posL_ex (keep := L) (Y := Y) hnd (by rw [hYl, hk]) hx
          exact ⟨q, y, by rw [hk]; exact (List.getElem?_eq_some_iff.1 h1).1, idxL_at hnd h1, h2, by rw [hφ]; exact h3⟩
        have HIX := Lib.hid hix
        have HI := Lib.hid HI
        have HLf := Lib.hid hLf
        clear hp hL hk HP hLf hYl hnd hφ hix hown5
        go_wp2_with fail
        refine HS.out.mono ?_
        rintro e w3 ⟨hb3, A1, c1, AY, cY, rfl, hown1, hownY⟩
        have hb03 := below_step hb02 hb3
        have HO1 := Lib.hid (own_mono hown1 hb02.size)
        have hrY := Reads.of_own hownY
        have hr53 := (hr5.below hb3).more hb3.size
        clear hown1 hownY hb02 hb2 hb01 hb3 hr5
        go_wp2
        go_loopw [13, 41] (fun v i wr => ∃ (j : Nat) (A6 : Option Addr) (c6 : Nat), j ≤ n2 ∧ v = .slice A6 j c6 ∧ i = .int .i64 j ∧ wr.ownsRow w3.heap.size 3 1 (.slice A6 j c6) j (((f.take j).map φ).map (.int .i64)) ∧ Below w3.heap.size w3 wr) (fun _ i _ => n2 - (intOf i).toNat)
        case atStart => exact ⟨0, none, 0, Nat.zero_le _, rfl, rfl, World.ownsRow_nil _ _ _ _, Below.refl _ _⟩
        case round =>
          obtain ⟨j, A6, c6, hj, rfl, rfl, hown, hb⟩ := hrel
          have hbw := below_step hb03 hb
          by_cases hlt : j < n2
          · obtain ⟨ad, x, rfl, had, hx, cx⟩ := (hr2.below hbw).num hlt
            obtain ⟨q, y, q1, q2, q3, q4⟩ := HIX.out x (HLf.out x (List.mem_of_getElem? hx))
            obtain ⟨adY, y', rfl, hadY, hy', cy⟩ := (hrY.below hb).num q1
            obtain rfl : y = y' := Option.some.inj (q3.symm.trans hy')
            have HX := index_int A5 k c5 w3.heap.size L x wr (hr53.below hb) (by omega)
            rw [q2] at HX
            have HX := Lib.hid HX
            have hown2 := hown.alloc (.cells #[.int .i64 y] 3)
            have hb2 := hb.alloc hb.size (.cells #[.int .i64 y] 3)
            have hnew := reads_new wr [.int .i64 y] 3 1 1 rfl
            have HT : Hid ((f.take (j + 1)).map φ = (f.take j).map φ ++ [y]) := by
              show _ = _
              obtain ⟨z1, z2⟩ := List.getElem?_eq_some_iff.1 hx
              rw [List.take_succ_eq_append_getElem z1, z2, List.map_append, ← q4]
              rfl
            have hj1 : j + 1 ≤ n2 := hlt
            have hsz := hb.size
            clear q2 q3 q4 hx hy' hown hb
            go_wp2_with fail
            refine HX.out.mono ?_
            rintro e w5 ⟨rfl, rfl⟩
            go_wp2_with (at_builtin; refine wpList_append_any _ rfl (.tmp 45) (.tmp 52) 23 rfl w3.heap.size 3 i0 (.int .i64 0) 1 8 Try.underlying23 hi hz0 hz1 hz2 rfl (by decide) (.slice A6 j c6) j _ rfl hown2 (wr.heap.size + 1) (some ⟨wr.heap.size, 0, none⟩) 1 1 [.int .i64 y] rfl hnew (by simp [Value.oneCell']) (by unfold maxLen; omega) (by omega) (by simp; omega) ?_; rintro v' w5 hown5 hgr - -; obtain ⟨A7, c7, rfl⟩ := own_slice hown5)
            have hb5 := hb2.grown hgr hb2.size (fun g hg => (hown2.lt g hg).1)
            go_roundw
            case rel => exact ⟨j + 1, A7, c7, hj1, rfl, by go_num, by rw [HT.out, List.map_append]; exact hown5, hb5⟩
            case measure => simp [intOf]; omega
          · obtain rfl : n2 = j := by omega
            rw [List.take_of_length_le (by rw [HFL.out]; exact Nat.le_refl _)] at hown
            have HO1' := own_below HO1.out hb
            go_wp2
            go_ret3
            exact ⟨hbw, .inl ⟨HY.out, L, Y, b, f.map φ, A1, c1, A6, c6, HI.out, rfl, HO1', own_mono hown (by have := hb03.size; omega)⟩⟩
    · have HN := Lib.hid (HNo.out z hz hz2)
      have hb02 := below_step hb01 hb2
      clear hz hz2
      go_wp2
      go_ret3
      exact ⟨hb02, .inr ⟨HN.out, 5, by decide, rfl⟩⟩
  · have HR := Lib.hid (fun A4 c4 w hr => reach_bad A n c a A4 (n2 + m) c4 w hr hnc ha hE)
    have HN : Hid (¬ CleanOk a f p) := fun h => hE h.1
    have hE1 : (checkE a != 0) = true := by simpa using hE
    generalize checkE a = E at *
    clear hE hfl hpl hv hxx
    go_enter Try.func10, Try.ntmps10
    go_wp2_with fail
    refine HCo.out.mono ?_
    rintro e w1 ⟨A4, c4, rfl, hown4, hb1⟩
    have hb01 := below_step hbn hb1
    clear hown4
    go_wp2_with fail
    refine (HR.out _ _ _ ((hr.below hb01).more hb01.size)).mono ?_
    rintro e w2 ⟨rfl, hb2⟩
    go_wp2
    go_ret3
    exact ⟨below_step hb01 hb2, .inr ⟨HN.out, E, hE1, rfl⟩⟩
end Go.Proofs.Ytammailnbgojgaa
