/-
  package faint: keep, Keep.
-/
import Derived.Test.YthfjopnomkfegabFaint
import Derived.Test.YthfjopnomkfegabGapDefs
namespace Go.Proofs.Ythfjopnomkfegab
open Go.RowKit

theorem nodup_le : ∀ {L M : List Int}, L.Nodup → (∀ x ∈ L, x ∈ M) → L.length ≤ M.length
  | [], _, _, _ => Nat.zero_le _
  | x :: L, M, hn, h => by
    obtain ⟨h1, h2⟩ := List.nodup_cons.1 hn
    have hx := h x List.mem_cons_self
    have ih := nodup_le (L := L) (M := M.erase x) h2 (fun y hy => by
      have hne : y ≠ x := fun e => h1 (e ▸ hy)
      exact (List.mem_erase_of_ne hne).2 (h y (List.mem_cons_of_mem _ hy)))
    rw [List.length_erase_of_mem hx] at ih
    have := List.length_pos_of_mem hx
    simp only [List.length_cons]
    omega

/-- Keys and values, one after the other. -/
def pairsL (l : List Rn) : List Int := l.flatMap fun p => [p.loc, p.len]
theorem pairsL_snoc (l : List Rn) (p : Rn) : pairsL (l ++ [p]) = pairsL l ++ [p.loc, p.len] := by simp [pairsL]
theorem pairsL_length : ∀ l : List Rn, (pairsL l).length = l.length * 2
  | [] => rfl
  | p :: l => by
    have := pairsL_length l
    unfold pairsL at this ⊢
    simp only [List.flatMap_cons, List.length_append, List.length_cons, List.length_nil]
    omega
theorem pairsL_mem {l : List Rn} {p : Rn} (h : p ∈ l) : p.loc ∈ pairsL l ∧ p.len ∈ pairsL l := ⟨List.mem_flatMap.2 ⟨p, h, by simp⟩, List.mem_flatMap.2 ⟨p, h, by simp⟩⟩

/-- On the way to what is kept. -/
structure Keeping (a : List Int) (S : List Spot) (f : List Int) (ps : List Rn) (L : List Int) : Prop where
  begs : ∀ x ∈ L, x ∈ begsL S
  roots : ∀ x ∈ f, x ∈ L
  closed : ∀ x ∈ L, ∀ y ∈ linksAt a S x, y ∈ L
  least : ∀ X : Int → Prop, (∀ x ∈ f, X x) → (∀ x, X x → ∀ y ∈ linksAt a S x, X y) → (∀ p ∈ ps, X p.loc → X p.len) → ∀ x ∈ L, X x
  sorted : L.Pairwise (fun x y => x ≤ y)
  once : L.Nodup
def PairsIn (ps : List Rn) (L : List Int) : Prop := ∀ p ∈ ps, p.loc ∈ L → p.len ∈ L
/-- What is kept. -/
structure Kept (a : List Int) (S : List Spot) (f : List Int) (ps : List Rn) (L : List Int) : Prop where
  keeping : Keeping a S f ps L
  pairs : PairsIn ps L
theorem Keeping.first {a : List Int} {S : List Spot} {f : List Int} {ps : List Rn} {L : List Int} (h : Reached a S f L) : Keeping a S f ps L :=
  ⟨h.begs, h.roots, h.closed, fun X h1 h2 _ => h.least X h1 h2, h.sorted, h.once⟩
theorem Keeping.more {a : List Int} {S : List Spot} {f : List Int} {ps : List Rn} {L M : List Int} (h : Keeping a S f ps L) {p : Rn} (hp : p ∈ ps) (hk : p.loc ∈ L) (hv : p.len ∉ L) (hM : Reached a S (L ++ [p.len]) M) :
    Keeping a S f ps M ∧ L.length + 1 ≤ M.length := by
  refine ⟨⟨hM.begs, fun x hx => hM.roots x (List.mem_append_left _ (h.roots x hx)), hM.closed, fun X h1 h2 h3 => hM.least X (fun x hx => ?_) h2, hM.sorted, hM.once⟩, ?_⟩
  · rcases List.mem_append.1 hx with hx | hx
    · exact h.least X h1 h2 h3 x hx
    · simp only [List.mem_cons, List.not_mem_nil, or_false] at hx
      rw [hx]
      exact h3 p hp (h.least X h1 h2 h3 _ hk)
  · have := nodup_le (L := L ++ [p.len]) (M := M) (by
      rw [List.nodup_append]
      exact ⟨h.once, by simp, fun x hx y hy e => by simp only [List.mem_cons, List.not_mem_nil, or_false] at hy; subst hy; subst e; exact hv hx⟩) hM.roots
    rwa [List.length_append, List.length_singleton] at this
theorem Kept.unique {a : List Int} {S : List Spot} {f : List Int} {ps : List Rn} {L L' : List Int} (h : Kept a S f ps L) (h' : Kept a S f ps L') : L = L' :=
  sorted_unique h.keeping.sorted h.keeping.once h'.keeping.sorted h'.keeping.once (fun x => ⟨fun hx => h.keeping.least (· ∈ L') h'.keeping.roots h'.keeping.closed h'.pairs x hx, fun hx => h'.keeping.least (· ∈ L) h.keeping.roots h.keeping.closed h.pairs x hx⟩)

theorem FaintOk.big {a f g g' : List Int} {m : Int} (h : 32 < m) : ¬ FaintOk a f m g := fun hk => by have := hk.2.2.1; omega

def slLenF : Value → Nat | .slice _ n _ => n | _ => 0
def boolF : Value → Nat | .bool true => 1 | _ => 0

set_option maxRecDepth 100000 in
set_option maxHeartbeats 4000000 in
theorem keep_any (A : Option Addr) (n c : Nat) (a : List Int) (A2 : Option Addr) (n2 c2 : Nat) (f : List Int) (A3 : Option Addr) (n3 c3 : Nat) (ps : List Rn) (w : World) (hr : Reads w w.heap.size 1 A n (a.map (.int .u64))) (hnc : n ≤ c) (ha : ∀ x ∈ a, (Lit.int .u64 x).wf = true)
    (hr2 : Reads w w.heap.size 1 A2 n2 (f.map (.int .i64))) (hn2 : n2 ≤ 1000000000000000000) (hx2 : ∀ x ∈ f, (Lit.int .i64 x).wf = true) (hr3 : Reads w w.heap.size 2 A3 n3 (runsC ps)) (hn3 : n3 ≤ 1000000000000000000) (hx3 : ∀ x ∈ pairsL ps, (Lit.int .i64 x).wf = true) :
    Calls Try.prog 46 #[.slice A n c, .slice A2 n2 c2, .slice A3 n3 c3] w fun e w' => Below w.heap.size w w' ∧
      ((FaintOk a f n3 (pairsL ps) ∧ ∃ (L : List Int) (A' : Option Addr) (c' : Nat), Kept a (spotsL a) f ps L ∧ L.length ≤ 256 ∧ e = .returned (.tuple #[.slice A' L.length c', .int .i64 0]) ∧ w'.ownsRow w.heap.size 3 1 (.slice A' L.length c') L.length (L.map (.int .i64))) ∨
       (¬ FaintOk a f n3 (pairsL ps) ∧ ∃ er : Int, (er != 0) = true ∧ e = .returned (.tuple #[.slice none 0 0, .int .i64 er]))) := by
  have hpl : ps.length = n3 := by have := hr3.1; rw [runsC_length] at this; omega
  have H1 := Lib.hid (fun A3 m c3 g w hr hr2 hr3 hn3 hx3 => fcheck_any A n c a A2 n2 c2 f n3 A3 m c3 g w hr hnc ha hr2 hn2 hx2 hr3 hn3 hx3)
  have H2 := Lib.hid (fun A2 n2 c2 f w hr hr2 hn2 hx2 hE => reach_ok A n c a A2 n2 c2 f w hr hnc ha hr2 hn2 hx2 hE)
  have HX3 := Lib.hid hx3
  have HPL := Lib.hid hpl
  have HBb : Hid (checkE a = 0 → ∀ x ∈ begsL (spotsL a), 0 ≤ x ∧ x < 256) := fun h => begsL_bounds (checkE_ok.1 h).1
  obtain ⟨i0, hi, hz0, hz1, hz2⟩ := info_parts info_int
  clear ha hx2 hx3 hpl
  by_cases hbig : 32 < n3
  · have g1 : decide (n3 ≤ 32) = false := decide_eq_false (by omega)
    have H1' := Lib.hid (H1.out none 0 0 [] w hr hr2 Reads.none_ (by omega) (by simp))
    have HN1 : Hid (¬ FaintOk a f n3 []) := FaintOk.big (g' := f) (by omega)
    have HN2 : Hid (¬ FaintOk a f n3 (pairsL ps)) := FaintOk.big (g' := f) (by omega)
    go_enter Try.func46, Try.ntmps46
    go_wp2_with fail
    refine H1'.out.mono ?_
    rintro e w1 ⟨hb1, ⟨hok, -⟩ | ⟨-, er, her, rfl⟩⟩
    · exact absurd hok HN1.out
    · have her2 := her
      go_wp2
      go_ret2
      exact ⟨hb1, .inr ⟨HN2.out, er, her2, rfl⟩⟩
  · have g1 : decide (n3 ≤ 32) = true := decide_eq_true (by omega)
    have g1' : decide ((n3 : Int) ≤ 32) = true := decide_eq_true (by omega)
    have h32 : n3 ≤ 32 := by omega
    go_enter Try.func46, Try.ntmps46
    go_wp2
    go_loopw [8, 21] (fun o i wr => ∃ (j c' : Nat) (A' : Option Addr), j ≤ n3 ∧ i = .int .i64 j ∧ o = .slice A' (j * 2) c' ∧ wr.ownsRow w.heap.size 3 1 (.slice A' (j * 2) c') (j * 2) ((pairsL (ps.take j)).map (.int .i64)) ∧ Below w.heap.size w wr) (fun _ i _ => n3 - (intOf i).toNat)
    case atStart => exact ⟨0, 0, none, Nat.zero_le _, rfl, rfl, World.ownsRow_nil _ _ _ _, Below.refl _ _⟩
    case round =>
      obtain ⟨j, c', A', hj, rfl, rfl, HO, hb⟩ := hrel
      by_cases hlt : j < n3
      · obtain ⟨ad, p, rfl, had, hp, c0, c1⟩ := (hr3.below hb).run hlt
        have HT : Hid (ps.take (j + 1) = ps.take j ++ [p]) := by
          show _ = _
          obtain ⟨q1, q2⟩ := List.getElem?_eq_some_iff.1 hp
          rw [List.take_succ_eq_append_getElem q1, q2]
        obtain ⟨kx, vx⟩ := p
        dsimp only at c0 c1
        have hj1 : j + 1 ≤ n3 := hlt
        have hbx := hb.alloc hb.size (.cells #[.int .i64 kx, .int .i64 vx] 44)
        have HOx := HO.alloc (.cells #[.int .i64 kx, .int .i64 vx] 44)
        have D0 := Blk.new wr 44 #[.int .i64 kx, .int .i64 vx]
        have d0 := D0.cell 0
        have d1 := D0.cell 1
        simp only [List.getElem?_toArray, List.getElem?_cons_zero, List.getElem?_cons_succ] at d0 d1
        have hOy := HOx.alloc (.cells #[.int .i64 kx, .int .i64 vx] 3)
        have hby := hbx.alloc hbx.size (.cells #[.int .i64 kx, .int .i64 vx] 3)
        have hrn := reads_new (wr.alloc (.cells #[.int .i64 kx, .int .i64 vx] 44)) [.int .i64 kx, .int .i64 vx] 3 2 1 rfl
        simp only [World.size_alloc] at hrn
        have hws := hb.size
        obtain ⟨J, hJ⟩ : ∃ J, J = j * 2 := ⟨_, rfl⟩
        have hJ2 : J ≤ 64 := by omega
        rw [← hJ] at hOy ⊢
        have HJ := Lib.hid hJ
        clear hp HO HOx hJ
        go_wp2_with (at_builtin; refine wpList_append_any _ rfl (.tmp 25) (.tmp 30) 23 rfl w.heap.size 3 i0 (.int .i64 0) 1 8 Try.underlying23 hi hz0 hz1 hz2 rfl (by decide) (.slice A' J c') J _ rfl hOy _ (some ⟨wr.heap.size + 1, 0, none⟩) 2 2 [.int .i64 kx, .int .i64 vx] rfl hrn (by simp [Value.oneCell']) (by unfold maxLen; omega) (by omega) (by simp; omega) ?_; rintro v' w3 hown3 hgr - -; obtain ⟨A5, c5, rfl⟩ := own_slice hown3)
        go_roundw
        case rel =>
          have hJ3 : (j + 1) * 2 = J + 2 := by rw [HJ.out]; omega
          refine ⟨j + 1, c5, A5, hj1, by go_num, by rw [hJ3], ?_, hby.grown hgr hby.size (fun g hg => (hOy.lt g hg).1)⟩
          rw [HT.out, pairsL_snoc, List.map_append, hJ3]
          exact hown3
        case measure => simp [intOf]; omega
      · have hjk : j = n3 := by omega
        have g0 : decide (j < n3) = false := decide_eq_false hlt
        rw [hjk, List.take_of_length_le (by rw [HPL.out]; exact Nat.le_refl _)] at HO
        have HOw := Lib.hid HO
        obtain ⟨J, hJ⟩ : ∃ J, J = n3 * 2 := ⟨_, rfl⟩
        have hJj : j * 2 = J := by rw [hJ, hjk]
        rw [← hJ] at HO
        have H1' := Lib.hid (H1.out A' J c' (pairsL ps) wr ((hr.below hb).more hb.size) ((hr2.below hb).more hb.size) (Reads.of_own HO) (by omega) HX3.out)
        rw [hJj]
        clear hjk HO hJ hJj
        go_wp2_with fail
        refine H1'.out.mono ?_
        rintro e w1 ⟨hb1, ⟨hok, L, A4, c4, hL, rfl, hown⟩ | ⟨hno, er, her, rfl⟩⟩
        · have HOK := Lib.hid hok
          have HBB := Lib.hid (HBb.out hok.1)
          have hb01 := below_step hb hb1
          have HKp0 := Lib.hid (Keeping.first (ps := ps) hL)
          have HO4 := Lib.hid hown
          have HXb : Hid (∀ x ∈ begsL (spotsL a), (Lit.int .i64 x).wf = true) := fun x hx => by have := HBB.out x hx; simp [Lit.wf, IntKind.min, IntKind.max, IntKind.signed, IntKind.bits]; omega
          obtain ⟨wb, hwb⟩ : ∃ x, x = wr := ⟨wr, rfl⟩
          subst hwb
          clear hok hL hown HOw H1' hlt g0
          go_wp2
          go_loopw [11, 13] (fun o ag wx => ∃ (L : List Int) (Ax : Option Addr) (cx : Nat) (b : Bool), o = .slice Ax L.length cx ∧ ag = .bool b ∧ Hid (Keeping a (spotsL a) f ps L) ∧ Hid (wx.ownsRow wb.heap.size 3 1 (.slice Ax L.length cx) L.length (L.map (.int .i64))) ∧ Hid (b = false → PairsIn ps L) ∧ Below wb.heap.size wb wx) (fun o ag _ => (256 - slLenF o) * 2 + boolF ag)
          case atStart => exact ⟨L, A4, c4, true, rfl, rfl, HKp0, HO4, (by intro h; cases h), hb1⟩
          case round =>
            obtain ⟨L, Ax, cx, b, rfl, rfl, HKp, HOx, HDn, hbx⟩ := hrel
            have hL256 : L.length ≤ 256 := nodup_bound 256 L HKp.out.once (fun x hx => HBB.out x (HKp.out.begs x hx))
            cases b
            · go_wp2
              go_ret2
              exact ⟨below_step hb hbx, .inl ⟨HOK.out, L, ⟨HKp.out, HDn.out trivial⟩, hL256, Ax, cx, rfl, own_mono HOx.out hb.size⟩⟩
            · obtain ⟨m0, hm0⟩ : ∃ m0, m0 = L.length := ⟨_, rfl⟩
              have HM0 := Lib.hid hm0
              rw [← hm0] at hL256
              obtain ⟨wo, hwo⟩ : ∃ x, x = wr := ⟨wr, rfl⟩
              subst hwo
              clear hm0 HDn
              go_wp2
              go_loopw [11, 13, 48] (fun o ag i wx => ∃ (j : Nat) (L2 : List Int) (Ay : Option Addr) (cy : Nat) (b' : Bool), j ≤ n3 ∧ i = .int .i64 j ∧ o = .slice Ay L2.length cy ∧ ag = .bool b' ∧ Hid (Keeping a (spotsL a) f ps L2) ∧ Hid (wx.ownsRow wb.heap.size 3 1 (.slice Ay L2.length cy) L2.length (L2.map (.int .i64))) ∧ m0 ≤ L2.length ∧ Hid (b' = true → m0 + 1 ≤ L2.length) ∧ Hid (b' = false → ∀ p ∈ ps.take j, p.loc ∈ L2 → p.len ∈ L2) ∧ Below wb.heap.size wb wx) (fun _ _ i _ => n3 - (intOf i).toNat)
              case atStart => exact ⟨0, L, Ax, cx, false, Nat.zero_le _, rfl, by rfl, rfl, HKp, HOx, by rw [HM0.out]; exact Nat.le_refl _, (by intro h; cases h), (by intro _ p hp; simp at hp), hbx⟩
              case round =>
                obtain ⟨j, L2, Ay, cy, b', hj, rfl, rfl, rfl, HKp2, HO2, hm1, HB1, HDn2, hbx2⟩ := hrel
                have hL2 : L2.length ≤ 256 := nodup_bound 256 L2 HKp2.out.once (fun x hx => HBB.out x (HKp2.out.begs x hx))
                by_cases hltj : j < n3
                · have hb0x := below_step hb hbx2
                  obtain ⟨ad, p, rfl, had, hp, c0, c1⟩ := (hr3.below hb0x).run hltj
                  have hj1 : j + 1 ≤ n3 := hltj
                  have hpm := List.mem_of_getElem? hp
                  obtain ⟨pk, pv⟩ := pairsL_mem hpm
                  have hvb := HOK.out.2.2.2 p.len pv
                  have hT : ps.take (j + 1) = ps.take j ++ [p] := by
                    obtain ⟨q1, q2⟩ := List.getElem?_eq_some_iff.1 hp
                    rw [List.take_succ_eq_append_getElem q1, q2]
                  have hnext : ∀ (P : Rn → Prop), (∀ z ∈ ps.take j, P z) → P p → ∀ z ∈ ps.take (j + 1), P z := fun P h1 h2 z hz => by
                    rw [hT, List.mem_append] at hz
                    rcases hz with hz | hz
                    · exact h1 z hz
                    · simp only [List.mem_cons, List.not_mem_nil, or_false] at hz
                      rw [hz]; exact h2
                  have HNx := Lib.hid hnext
                  have HMo := Lib.hid (fun hk hv M hM => HKp2.out.more (M := M) hpm hk hv hM)
                  have hbn := below_new wr (.cells #[.int .i64 p.loc, .int .i64 p.len] 44)
                  have D0 := Blk.new wr 44 #[.int .i64 p.loc, .int .i64 p.len]
                  have hby := hbx2.trans (hbn.mono hbx2.size)
                  have d0 := D0.cell 0
                  have d1 := D0.cell 1
                  simp only [List.getElem?_toArray, List.getElem?_cons_zero, List.getElem?_cons_succ] at d0 d1
                  have HOy := HO2.out.alloc (.cells #[.int .i64 p.loc, .int .i64 p.len] 44)
                  have HXv := Lib.hid (HXb.out p.len hvb)
                  have HVb := Lib.hid hvb
                  clear hp hpm pk pv hT hnext hvb hbn
                  obtain ⟨kx, vx⟩ := p
                  dsimp only at c0 c1 d0 d1 HXv HVb HMo HNx D0 hby HOy ⊢
                  by_cases hkL : kx ∈ L2
                  · have HC1 := Lib.hid (contains_int Ay L2.length cy _ L2 kx true _ (Reads.of_own HOy) (by omega) (decide_eq_true hkL))
                    by_cases hvL : vx ∈ L2
                    · have HC2 := Lib.hid (fun u => contains_int Ay L2.length cy _ L2 vx true ((wr.alloc (.cells #[.int .i64 kx, .int .i64 vx] 44)).drewN u) ((Reads.of_own HOy).below (below_drewN (Below.refl _ _) u)) (by omega) (decide_eq_true hvL))
                      have HDn3 : Hid (b' = false → ∀ p ∈ ps.take (j + 1), p.loc ∈ L2 → p.len ∈ L2) := fun h => HNx.out (fun p => p.loc ∈ L2 → p.len ∈ L2) (HDn2.out h) (fun _ => hvL)
                      have HOz := Lib.hid HOy
                      clear hkL hvL HDn2 HOy
                      go_wp2_with fail
                      refine HC1.out.mono ?_
                      rintro e w8 ⟨rfl, rfl⟩
                      go_wp2_with fail
                      refine (HC2.out 0).mono ?_
                      rintro e w8 ⟨rfl, rfl⟩
                      go_wp2
                      go_roundw
                      case rel => exact ⟨j + 1, L2, Ay, cy, b', hj1, by go_num, rfl, rfl, HKp2, HOz, hm1, HB1, HDn3, hby⟩
                      case measure => simp [intOf]; omega
                    · have HC2 := Lib.hid (contains_int Ay L2.length cy _ L2 vx false _ (Reads.of_own HOy) (by omega) (decide_eq_false hvL))
                      have hOz := HOy.alloc (.cells #[.int .i64 vx] 3)
                      have hbz := hby.alloc hby.size (.cells #[.int .i64 vx] 3)
                      have hrn := reads_new (wr.alloc (.cells #[.int .i64 kx, .int .i64 vx] 44)) [.int .i64 vx] 3 1 1 rfl
                      simp only [World.size_alloc] at hrn
                      have hws := hbx2.size
                      obtain ⟨q, hq⟩ : ∃ q, q = L2.length := ⟨_, rfl⟩
                      rw [← hq] at hOz hL2 hm1 HC1 HC2 ⊢
                      have HQ := Lib.hid hq
                      have HMo2 := Lib.hid (fun M hM => HMo.out hkL hvL M hM)
                      have hd1' : decide (kx ∈ L2) = true := decide_eq_true hkL
                      have HE := Lib.hid HOK.out.1
                      have hwL : ∀ x ∈ L2 ++ [vx], (Lit.int .i64 x).wf = true := fun x hx => by
                        rcases List.mem_append.1 hx with h | h
                        · exact HXb.out x (HKp2.out.begs x h)
                        · simp only [List.mem_cons, List.not_mem_nil, or_false] at h
                          rw [h]; exact HXv.out
                      have hbL : ∀ x ∈ L2 ++ [vx], x ∈ begsL (spotsL a) := fun x hx => by
                        rcases List.mem_append.1 hx with h | h
                        · exact HKp2.out.begs x h
                        · simp only [List.mem_cons, List.not_mem_nil, or_false] at h
                          rw [h]; exact HVb.out
                      have HWL := Lib.hid hwL
                      have HBL := Lib.hid hbL
                      clear hkL hvL HDn2 HOy hwL hbL hq hd1' HO2
                      go_wp2_with fail
                      refine HC1.out.mono ?_
                      rintro e w8 ⟨rfl, rfl⟩
                      go_wp2_with fail
                      refine HC2.out.mono ?_
                      rintro e w8 ⟨rfl, rfl⟩
                      go_wp2_with (at_builtin; refine wpList_append_any _ rfl (.tmp 65) (.tmp 68) 23 rfl wb.heap.size 3 i0 (.int .i64 0) 1 8 Try.underlying23 hi hz0 hz1 hz2 rfl (by decide) (.slice Ay q cy) q _ rfl hOz _ (some ⟨wr.heap.size + 1, 0, none⟩) 1 1 [.int .i64 vx] rfl hrn (by simp [Value.oneCell']) (by unfold maxLen; omega) (by omega) (by simp; omega) ?_; rintro v' w3 hown3 hgr - -; obtain ⟨A5, c5, rfl⟩ := own_slice hown3; have hb3 := hbz.grown hgr hbz.size (fun g hg => (hOz.lt g hg).1); have hb03 := below_step hb hb3)
                      have hown4 : w3.ownsRow wb.heap.size 3 1 (.slice A5 (q + 1) c5) (q + 1) ((L2 ++ [vx]).map (.int .i64)) := by rw [List.map_append]; exact hown3
                      refine (H2.out A5 (q + 1) c5 (L2 ++ [vx]) w3 ((hr.below hb03).more hb03.size) (Reads.of_own hown4) (by omega) HWL.out HE.out).mono ?_
                      rintro e w9 ⟨hb9, ⟨M, A9, c9, hM, rfl, hown9⟩ | ⟨⟨x, hx, hx2⟩, -⟩⟩
                      · obtain ⟨hK1, hK2⟩ := HMo2.out M hM
                        have HK1 := Lib.hid hK1
                        have HO9 := Lib.hid (own_mono hown9 hb3.size)
                        have hm2 : m0 + 1 ≤ M.length := by have := HQ.out; omega
                        have HM2 : Hid (true = true → m0 + 1 ≤ M.length) := fun _ => hm2
                        have hb39 := hb3.trans (hb9.mono hb3.size)
                        clear hM hK1 hown9 hown4 hown3 hgr hK2
                        go_wp2
                        go_roundw
                        case rel => exact ⟨j + 1, M, A9, c9, true, hj1, by go_num, rfl, rfl, HK1, HO9, by omega, (fun _ => hm2), (by intro h; cases h), hb39⟩
                        case measure => simp [intOf]; omega
                      · exact absurd (HBL.out x hx) hx2
                  · have HC1 := Lib.hid (contains_int Ay L2.length cy _ L2 kx false _ (Reads.of_own HOy) (by omega) (decide_eq_false hkL))
                    have HDn3 : Hid (b' = false → ∀ p ∈ ps.take (j + 1), p.loc ∈ L2 → p.len ∈ L2) := fun h => HNx.out (fun p => p.loc ∈ L2 → p.len ∈ L2) (HDn2.out h) (fun h2 => absurd h2 hkL)
                    have HOz := Lib.hid HOy
                    clear hkL HDn2 HOy
                    go_wp2_with fail
                    refine HC1.out.mono ?_
                    rintro e w8 ⟨rfl, rfl⟩
                    go_wp2
                    go_roundw
                    case rel => exact ⟨j + 1, L2, Ay, cy, b', hj1, by go_num, rfl, rfl, HKp2, HOz, hm1, HB1, HDn3, hby⟩
                    case measure => simp [intOf]; omega
                · have hjk : j = n3 := by omega
                  have g0 : decide (j < n3) = false := decide_eq_false hltj
                  have HDn3 : Hid (b' = false → PairsIn ps L2) := by
                    have h1 := HDn2.out
                    rw [hjk, List.take_of_length_le (by rw [HPL.out]; exact Nat.le_refl _)] at h1
                    exact h1
                  clear hjk HDn2
                  go_wp2
                  go_roundw
                  case rel => exact ⟨L2, Ay, cy, b', rfl, rfl, HKp2, HO2, HDn3, hbx2⟩
                  case measure =>
                    have h1 := HM0.out
                    have h2 := HB1.out
                    simp only [slLenF]
                    cases b'
                    · simp only [boolF]; omega
                    · have := h2 rfl
                      simp only [boolF]; omega
        · have HNO := Lib.hid hno
          have her2 := her
          clear hno her
          go_wp2
          go_ret2
          exact ⟨below_step hb hb1, .inr ⟨HNO.out, er, her2, rfl⟩⟩

set_option maxHeartbeats 400000 in
theorem keepF_any (A : Option Addr) (n c : Nat) (a : List Int) (A2 : Option Addr) (n2 c2 : Nat) (f : List Int) (A3 : Option Addr) (n3 c3 : Nat) (ps : List Rn) (w : World) (hr : Reads w w.heap.size 1 A n (a.map (.int .u64))) (hnc : n ≤ c) (ha : ∀ x ∈ a, (Lit.int .u64 x).wf = true)
    (hr2 : Reads w w.heap.size 1 A2 n2 (f.map (.int .i64))) (hn2 : n2 ≤ 1000000000000000000) (hx2 : ∀ x ∈ f, (Lit.int .i64 x).wf = true) (hr3 : Reads w w.heap.size 2 A3 n3 (runsC ps)) (hn3 : n3 ≤ 1000000000000000000) (hx3 : ∀ x ∈ pairsL ps, (Lit.int .i64 x).wf = true) :
    Calls Try.prog 24 #[.slice A n c, .slice A2 n2 c2, .slice A3 n3 c3] w fun e w' => Below w.heap.size w w' ∧
      ((FaintOk a f n3 (pairsL ps) ∧ ∃ (L : List Int) (A' : Option Addr) (c' : Nat), Kept a (spotsL a) f ps L ∧ L.length ≤ 256 ∧ e = .returned (.tuple #[.slice A' L.length c', .int .i64 0]) ∧ w'.ownsRow w.heap.size 3 1 (.slice A' L.length c') L.length (L.map (.int .i64))) ∨
       (¬ FaintOk a f n3 (pairsL ps) ∧ ∃ er : Int, (er != 0) = true ∧ e = .returned (.tuple #[.slice none 0 0, .int .i64 er]))) := by
  have H := Lib.hid (keep_any A n c a A2 n2 c2 f A3 n3 c3 ps w hr hnc ha hr2 hn2 hx2 hr3 hn3 hx3)
  clear hr ha hr2 hx2 hr3 hx3
  go_enter Try.func24, Try.ntmps24
  go_wp2_with fail
  refine H.out.mono ?_
  rintro e w1 ⟨hb1, ⟨hok, L, A', c', hL, h256, rfl, hown⟩ | ⟨hno, er, her, rfl⟩⟩
  · have HOK := Lib.hid hok
    have HL := Lib.hid hL
    have HO := Lib.hid hown
    obtain ⟨q, hq⟩ : ∃ q, q = L.length := ⟨_, rfl⟩
    have HQ := Lib.hid hq
    rw [← hq]
    clear hok hL hown hq
    go_wp2
    go_ret2
    refine ⟨hb1, .inl ⟨HOK.out, L, A', c', HL.out, h256, ?_, HO.out⟩⟩
    rw [HQ.out]
    rfl
  · have HNO := Lib.hid hno
    have her2 := her
    clear hno her
    go_wp2
    go_ret2
    exact ⟨hb1, .inr ⟨HNO.out, er, her2, rfl⟩⟩
end Go.Proofs.Ythfjopnomkfegab
