/-
  package tally: Drop.
-/
import Derived.Test.YtjpleagcdncbfaaDropSt
import Derived.Test.YtjpleagcdncbfaaSortInt
namespace Go.Proofs.Ytjpleagcdncbfaa
open Go.RowKit

theorem cntL_le {a : List Int} {S : List Spot} {x : Int} {O : List Int} : ∀ {l : List Int}, cntL a S x O l ≤ cntL a S x [] l
  | [] => Nat.le_refl _
  | z :: t => by
    have ih := cntL_le (a := a) (S := S) (x := x) (O := O) (l := t)
    simp only [cntL]
    rw [if_neg (by simp : ¬ z ∈ ([] : List Int))]
    split <;> omega
theorem cntD_le {a : List Int} {S : List Spot} {left O : List Int} {x : Int} : cntD a S left O x ≤ cntD a S left [] x := by
  unfold cntD
  have := cntL_le (a := a) (S := S) (x := x) (O := O) (l := begsL S)
  omega
theorem drop_start {a : List Int} (h0 : spotsE a = 0) {f : List Int} {k : Nat} {y : Int} (hk : f[k]? = some y) (x : Int) :
    (allLinks a (spotsL a) ++ f).count x = cntD a (spotsL a) (f.take k ++ f.drop (k + 1)) [] x + (if x = y then 1 else 0) := by
  rw [List.count_append, allLinks_count h0 x (spotsL a) (fun s hs => hs), count_left f k y hk x]
  unfold cntD
  omega
theorem take_count {l : List Int} {q : Nat} {x : Int} (h : l[q]? = some x) (z : Int) : (l.take (q + 1)).count z = (l.take q).count z + (if z = x then 1 else 0) := by
  obtain ⟨h1, rfl⟩ := List.getElem?_eq_some_iff.1 h
  rw [List.take_succ_eq_append_getElem h1, List.count_append]
  congr 1
  by_cases hz : z = l[q]
  · rw [if_pos hz, hz]; simp
  · rw [if_neg hz, List.count_eq_zero.2 (by simpa using hz)]
theorem take_count_le (l : List Int) (q : Nat) (z : Int) : (l.take q).count z ≤ l.count z := by
  have h : l.count z = (l.take q ++ l.drop q).count z := by rw [List.take_append_drop]
  rw [List.count_append] at h
  omega
theorem cntD_link {a : List Int} {S : List Spot} {left O : List Int} {x y : Int} (hn : (begsL S).Nodup) (hy : y ∈ begsL S) (hO : y ∉ O) : (linksAt a S y).count x ≤ cntD a S left O x := by
  have := cntD_add (a := a) (left := left) (x := x) hn hy hO
  omega
theorem linksAt_len {a : List Int} (h : a.length ≤ 256) (S : List Spot) (x : Int) : (linksAt a S x).length ≤ 256 := by
  unfold linksAt
  cases spotAt S x with
  | none => exact Nat.zero_le _
  | some s =>
    have h1 : (linksL a s).length ≤ (refsOf a s).length := by
      unfold linksL
      rw [List.length_map]
      exact List.length_filter_le _ _
    have h2 : (refsOf a s).length ≤ a.length := by unfold refsOf; rw [List.length_take, List.length_drop]; omega
    show (linksL a s).length ≤ 256
    omega
theorem linkSum_le {a : List Int} {S : List Spot} (h : ∀ x, (linksAt a S x).length ≤ 256) : ∀ l : List Int, linkSum a S l ≤ 256 * l.length
  | [] => Nat.le_refl _
  | x :: t => by
    have := linkSum_le h t
    have := h x
    simp only [linkSum, List.length_cons]
    omega
theorem Falling.bound {a : List Int} {S : List Spot} {left O : List Int} (h : Falling a S left O) (hb : ∀ x ∈ begsL S, 0 ≤ x ∧ x < 256) : O.length ≤ 256 := nodup_bound 256 O h.once (fun x hx => hb x (h.begs x hx))

theorem blk_ne_map {w : World} {g b n : Nat} {t k : TypeId} {q : IntKind} {P : Program} {cs : Array Value} {f : Int → Option Value} (h : Blk w g t cs) (h2 : MapIs w P k q b n f) : g ≠ b := by
  rintro rfl
  obtain ⟨D, ⟨es, clock, h3, -⟩, -⟩ := h2
  unfold Blk at h
  rw [h3] at h
  injection h with h
  cases h
/-- One link less. -/
def cntQ (a : List Int) (S : List Spot) (left O : List Int) (y : Int) (q : Nat) (x : Int) : Nat := cntD a S left O x - ((linksAt a S y).take q).count x
theorem cntQ_zero {a : List Int} {S : List Spot} {left O : List Int} {y : Int} (x : Int) : cntD a S left O x = cntQ a S left O y 0 x := by
  unfold cntQ; simp
theorem cntQ_pos {a : List Int} {S : List Spot} {left O : List Int} {y x : Int} {q : Nat} (hn : (begsL S).Nodup) (hy : y ∈ begsL S) (hO : y ∉ O) (hq : (linksAt a S y)[q]? = some x) : 0 < cntQ a S left O y q x := by
  have h1 := cntD_link (a := a) (left := left) (x := x) hn hy hO
  have h2 := take_count hq x
  rw [if_pos rfl] at h2
  have h3 := take_count_le (linksAt a S y) (q + 1) x
  unfold cntQ
  omega
theorem cntQ_succ {a : List Int} {S : List Spot} {left O : List Int} {y x : Int} {q v : Nat} (hq : (linksAt a S y)[q]? = some x) (hv : cntQ a S left O y q x = v + 1) (z : Int) : (if z = x then v else cntQ a S left O y q z) = cntQ a S left O y (q + 1) z := by
  have h2 := take_count hq z
  unfold cntQ at hv ⊢
  by_cases hz : z = x
  · subst hz
    rw [if_pos rfl] at h2 ⊢
    omega
  · rw [if_neg hz] at h2 ⊢
    rw [h2]; rfl
theorem cntQ_all {a : List Int} {S : List Spot} {left O : List Int} {y : Int} (hn : (begsL S).Nodup) (hy : y ∈ begsL S) (hO : y ∉ O) (z : Int) : cntQ a S left O y (linksAt a S y).length z = cntD a S left (O ++ [y]) z := by
  have h1 := cntD_add (a := a) (left := left) (x := z) hn hy hO
  unfold cntQ
  rw [List.take_length]
  omega
theorem cntQ_le {a : List Int} {S : List Spot} {left O : List Int} {y : Int} {q : Nat} {z : Int} : cntQ a S left O y q z ≤ cntD a S left O z := Nat.sub_le _ _

def slLen : Value → Nat | .slice _ n _ => n | _ => 0
def boolN : Value → Nat | .bool true => 1 | _ => 0
theorem lst_take {l : List Int} {j : Nat} {x : Int} (h : l[j]? = some x) : l.take (j + 1) = l.take j ++ [x] := by
  obtain ⟨q1, q2⟩ := List.getElem?_eq_some_iff.1 h
  rw [List.take_succ_eq_append_getElem q1, q2]
theorem done_next {l : List Int} {j : Nat} {x : Int} {p : Int → Prop} (h : l[j]? = some x) (hp : ∀ z ∈ l.take j, p z) (hx : p x) : ∀ z ∈ l.take (j + 1), p z := by
  intro z hz
  rw [lst_take h, List.mem_append] at hz
  rcases hz with hz | hz
  · exact hp z hz
  · simp only [List.mem_cons, List.not_mem_nil, or_false] at hz
    rw [hz]; exact hx

set_option maxHeartbeats 400000 in
theorem drop_bad (A : Option Addr) (n c : Nat) (a : List Int) (A2 : Option Addr) (n2 c2 : Nat) (k : Int) (w : World) (hr : Reads w w.heap.size 1 A n (a.map (.int .u64))) (hnc : n ≤ c) (ha : ∀ x ∈ a, (Lit.int .u64 x).wf = true) (hE : checkE a ≠ 0) :
    Calls Try.prog 7 #[.slice A n c, .slice A2 n2 c2, .int .i64 k] w fun e w' => e = .returned (.tuple #[.slice none 0 0, .int .i64 (checkE a)]) ∧ Below w.heap.size w w' := by
  have H := Lib.hid (fun w hr => counter_bad A n c a A2 n2 c2 w hr hnc ha hE)
  have hE1 : (checkE a != 0) = true := by simpa using hE
  generalize checkE a = E at *
  clear hE
  go_enter Try.func7, Try.ntmps7
  go_wp2_with fail
  refine (H.out _ hr).mono ?_
  rintro e w1 ⟨rfl, hb1⟩
  go_wp2
  go_ret2
  exact ⟨rfl, hb1⟩

set_option maxRecDepth 100000 in
set_option maxHeartbeats 4000000 in
theorem drop_ok (A : Option Addr) (n c : Nat) (a : List Int) (A2 : Option Addr) (n2 c2 : Nat) (f : List Int) (k : Int) (w : World) (hr : Reads w w.heap.size 1 A n (a.map (.int .u64))) (hnc : n ≤ c) (ha : ∀ x ∈ a, (Lit.int .u64 x).wf = true)
    (hr2 : Reads w w.heap.size 1 A2 n2 (f.map (.int .i64))) (hn2 : n2 ≤ 1000000000000000000) (hx2 : ∀ x ∈ f, (Lit.int .i64 x).wf = true) (hE : checkE a = 0) :
    Calls Try.prog 7 #[.slice A n c, .slice A2 n2 c2, .int .i64 k] w fun e w' => Below w.heap.size w w' ∧
      ((∃ (kk : Nat) (L : List Int) (A' : Option Addr) (c' : Nat), k = kk ∧ kk < n2 ∧ (∀ x ∈ f, x ∈ begsL (spotsL a)) ∧ Dropped a (spotsL a) (f.take kk ++ f.drop (kk + 1)) L ∧ L.length ≤ 256 ∧ e = .returned (.tuple #[.slice A' L.length c', .int .i64 0]) ∧ w'.ownsRow w.heap.size 3 1 (.slice A' L.length c') L.length (L.map (.int .i64))) ∨
       (∃ er : Int, (er != 0) = true ∧ e = .returned (.tuple #[.slice none 0 0, .int .i64 er]))) := by
  have hfl : f.length = n2 := by have := hr2.1; simpa using this
  have h0 := (checkE_ok.1 hE).1
  have H := Lib.hid (fun w hr hr2 => counter_ok A n c a A2 n2 c2 f w hr hnc ha hr2 hn2 hx2 hE)
  have HBb := Lib.hid (begsL_bounds h0)
  have HNd := Lib.hid (begsL_nodup h0)
  have HLk := Lib.hid (linksAt_begs hE)
  have HSt := Lib.hid (fun (k : Nat) (y : Int) hk => drop_start h0 (f := f) (k := k) (y := y) hk)
  have hkb : (begsL (spotsL a)).length ≤ 256 := by
    unfold begsL
    rw [List.length_map]
    have := List.length_filter_le (fun s : Spot => !s.f) (spotsL a)
    have := spotsL_length a
    omega
  have hlk : ∀ x, (linksAt a (spotsL a) x).length ≤ 256 := linksAt_len (parse_ok h0).1 _
  have hal : (allLinks a (spotsL a) ++ f).length ≤ 65536 + n2 := by
    rw [List.length_append, allLinks_length h0 _ (fun s hs => hs)]
    have := linkSum_le hlk (begsL (spotsL a))
    omega
  have HLL := Lib.hid hlk
  generalize spotsL a = S at *
  obtain ⟨l, hl⟩ : ∃ l, l = allLinks a S ++ f := ⟨_, rfl⟩
  rw [← hl] at H HSt hal
  have HAl := Lib.hid hal
  have HX := Lib.hid hx2
  have HFL := Lib.hid hfl
  obtain ⟨i0, hi, hz0, hz1, hz2⟩ := info_parts info_int
  have hmm := @run_makeMap Try.prog
  clear hE h0 ha hx2 hal hl hfl hlk
  go_enter Try.func7, Try.ntmps7
  go_wp2_with fail
  refine (H.out _ hr hr2).mono ?_
  rintro e w2 ⟨hb2, ⟨hall, gh, rfl, hC⟩ | ⟨hex, rfl⟩⟩
  · have HALL := Lib.hid hall
    clear hall
    by_cases hneg : k < 0
    · have g1 : decide (k < 0) = true := decide_eq_true hneg
      clear hC
      go_wp2
      go_ret2
      exact ⟨hb2, .inr ⟨4, rfl, rfl⟩⟩
    · obtain ⟨kk, rfl⟩ := Int.eq_ofNat_of_zero_le (show 0 ≤ k by omega)
      by_cases hge : n2 ≤ kk
      · have g1 : decide (n2 ≤ kk) = true := decide_eq_true hge
        clear hC
        go_wp2
        go_ret2
        exact ⟨hb2, .inr ⟨4, rfl, rfl⟩⟩
      · have g1 : decide (n2 ≤ kk) = false := decide_eq_false hge
        have hlt : kk < n2 := by omega
        obtain ⟨b1, b2, R0, N1, N2, Ao, ko, co, f1, gB, g1', g2, g3, g4, g5, g6, g7, g8, gM1, gM2, g9, g10, g11, gO, gK, gF⟩ := hC
        obtain ⟨ad, y, rfl, had, hy, cy⟩ := (hr2.below hb2).num hlt
        have hyf := HALL.out y (List.mem_of_getElem? hy)
        have hyb := HBb.out y hyf
        have hwy : (Lit.int .i64 y).wf = true := by simp [Lit.wf, IntKind.min, IntKind.max, IntKind.signed, IntKind.bits]; omega
        have h0' := HSt.out kk y hy
        obtain ⟨lf, hlf⟩ : ∃ lf, lf = f.take kk ++ f.drop (kk + 1) := ⟨_, rfl⟩
        rw [← hlf] at h0'
        have HLf := Lib.hid hlf
        have HV : Hid (∀ O x, cntD a S lf O x ≤ 1000000000000065536) := by
          intro O x
          have h1 := cntD_le (a := a) (S := S) (left := lf) (O := O) (x := x)
          have h2 := h0' x
          have h3 := List.count_le_length (a := x) (l := l)
          have h4 := HAl.out
          omega
        have hlC := gM2.drew.look (k := 3) (t := 49) Try.underlying3 Try.underlying49 (zero_intv _) hwy
        rw [manyF_get] at hlC
        have hcy : l.count y = cntD a S lf [] y + 1 := by have := h0' y; rw [if_pos rfl] at this; exact this
        obtain ⟨C, hC⟩ : ∃ C, C = cntD a S lf [] y := ⟨_, rfl⟩
        rw [hcy, ← hC] at hlC
        have hCb : C ≤ 1000000000000065536 := by rw [hC]; exact HV.out _ _
        have hlC2 : (Instr.lookup 49 (.map (some b2)) (.int .i64 y) false).run Try.prog w2.drew = .ok (.int .i64 ((C : Int) + 1)) w2.drew := by rw [hlC]; rfl
        have wC : IntKind.i64.wrap ((C : Int) + 1 - 1) = (C : Int) := by rw [show (C : Int) + 1 - 1 = C by omega]; exact IntWalk.i64_in _ (by omega)
        have hC1 : (C : Int) + 1 - 1 = (C : Int) := by omega
        have wC' : IntKind.i64.wrap (C : Int) = (C : Int) := IntWalk.i64_in _ (by omega)
        have hal := HAl.out
        obtain ⟨w3, hupd, hM3, hg3⟩ := gM2.drew.store (k := 3) (t := 49) Try.underlying3 Try.underlying49 (by unfold maxLen; omega) (x := y) hwy (.int .i64 (C : Int))
        have k2 := gB.cell 2
        simp only [List.getElem?_toArray, List.getElem?_cons_zero, List.getElem?_cons_succ] at k2
        have hngh := blk_ne_map gB gM2
        have hb3 : Below w.heap.size w w3 := hb2.drew.grown hg3 hb2.drew.size (fun g e => by injection e with e; omega)
        have k2' := (gB.drew.grown hg3 (fun e => by injection e with e; omega)).cell 2
        simp only [List.getElem?_toArray, List.getElem?_cons_zero, List.getElem?_cons_succ] at k2'
        have cy' : w3.cell? (ad.add kk) = some (.int .i64 y) := by
          have h1 : Below w.heap.size w2.drew w3 := (Below.refl _ _).grown hg3 hb2.drew.size (fun g e => by injection e with e; omega)
          exact (h1.cell (by unfold Addr.add; split <;> exact had)).trans cy
        have HSt0 : Hid (DropSt w w3 gh b1 b2 R0 Ao ko co a S f1 (N2 + 1) (cntD a S lf []) [] [] none 0 (w3.alloc (.map #[] 0))) := by
          have hlo := fun g hg => (gO.lt g hg).2
          have hsz3 : w2.heap.size ≤ w3.heap.size := hg3.size
          have hm1 := gM1.lt
          have hm2 := gM2.lt
          have hgl := gB.lt
          have hs0 := hb2.size
          refine ⟨⟨g4, hngh, by omega, by omega, by omega, by omega, by omega, by omega, fun g hg => ⟨(gO.lt g hg).1, by have := hlo g hg; omega⟩⟩, (gB.drew.grown hg3 (fun e => by injection e with e; omega)).alloc _, ⟨N1, (gM1.drew.kept hg3 (fun e => by injection e with e; omega)).alloc _⟩, ⟨_, hM3.alloc _, ?_⟩, ⟨_, MapIs.made w3 _ _ _, ?_⟩, ?_, ?_, World.ownsRow_nil _ _ _ _, hb3.alloc hb3.size _, by rw [World.size_alloc]; exact Nat.le_refl _⟩
          · have h1 : manyV (manyF l) (fun x => l.count x) := fun x => manyF_get l x
            have h2 := h1.upd y C
            have h3 : (fun z => if z = y then C else l.count z) = cntD a S lf [] := by
              funext z
              have := h0' z
              by_cases hz : z = y
              · subst hz; rw [if_pos rfl, hC]
              · rw [if_neg hz] at this ⊢; omega
            rw [h3] at h2
            exact h2
          · intro x; simp
          · have := own_grown gO.drew hg3 (fun g hg e => by injection e with e; have := (gO.lt g hg).1; omega)
            rw [← g11] at *
            exact this.alloc _
          · exact ((gF.drew.grown hg3 (fun r e => by injection e with e; exact .inl (by omega))).mono (by exact hsz3)).alloc _
        have hN2b : N2 ≤ 1000000000000200000 := by omega
        have hko : ko ≤ 256 := by omega
        have HKO := Lib.hid g11
        have hd0 : decide ((kk : Int) < 0) = false := decide_eq_false (by omega)
        have HF0 := Lib.hid (Falling.nil a S lf)
        clear hlC hal hcy h0' hC hlf hb3 hg3 hM3 gM1 gM2 gO gK gF g9 g10 g11 g1' g2 g3 g4 g5 g6 g7 g8 gB hngh hy hyf hyb hb2
        go_wp2
        go_region_held3 (fun w' => w'.cell? ⟨gh, 2, none⟩ = some (.map (some b2)) ∧ w'.cell? (ad.add kk) = some (.int .i64 y)) (go_keep) (fail)
        all_goals
          clear hupd k2 cy k2' cy'
          go_wp2
          go_loopw [10, 12] (fun o ag wr => ∃ (O : List Int) (Ax : Option Addr) (cx N : Nat) (b : Bool), o = .slice Ax O.length cx ∧ ag = .bool b ∧ Hid (Falling a S lf O) ∧ N ≤ N2 + 1 + 256 * O.length ∧ Hid (DropSt w w3 gh b1 b2 R0 Ao ko co a S f1 N (cntD a S lf O) O O Ax cx wr) ∧ Hid (b = false → ∀ x ∈ begsL S, x ∈ O ∨ 0 < cntD a S lf O x)) (fun o ag _ => (256 - slLen o) * 2 + boolN ag)
          case atStart => exact ⟨[], none, 0, N2 + 1, true, rfl, rfl, HF0, by simp, HSt0, by intro h; cases h⟩
          case round =>
            obtain ⟨O, Ax, cx, N, b, rfl, rfl, HFa, hN, HSt, HDn⟩ := hrel
            have hO := HFa.out.bound HBb.out
            cases b
            · have HSo := Lib.hid (sort_int (w3.heap.size + 1) Ax O.length cx O wr HSt.out.out (by omega))
              have HD := Lib.hid (HFa.out.done (HDn.out rfl) (L := sortL O) (fun x => sortL_mem))
              have HBl := Lib.hid HSt.out.below
              have HFx := Lib.hid HSt.out.fx
              have HOo := Lib.hid HSt.out.out
              have HSl : Hid ((sortL O).length = O.length) := (sortL_perm O).length_eq
              clear HFa HSt HDn hN
              go_wp2_with fail
              refine HSo.out.mono ?_
              rintro e w5 ⟨rfl, hown5, hg5⟩
              have HW5 := Lib.hid hown5
              have HG5 := Lib.hid hg5
              clear hown5 hg5
              go_wp2
              go_ret2
              refine ⟨HBl.out.grown HG5.out HBl.out.size (fun g e => ?_), .inl ⟨kk, sortL O, Ax, cx, rfl, hlt, HALL.out, ?_, by rw [HSl.out]; exact hO, by rw [HSl.out]; rfl, ?_⟩⟩
              · have := (HOo.out.lt g e).1
                have := HFx.out.bw
                omega
              · rw [← HLf.out]; exact HD.out
              · rw [HSl.out]
                exact own_mono HW5.out (by have := HFx.out.bw; omega)
            · obtain ⟨m0, hm0⟩ : ∃ m0, m0 = O.length := ⟨_, rfl⟩
              have HM0 := Lib.hid hm0
              rw [← hm0] at hO
              obtain ⟨wo, hwo⟩ : ∃ x, x = wr := ⟨wr, rfl⟩
              subst hwo
              have k0 := HSt.out.hdr.cell 0
              simp only [List.getElem?_toArray, List.getElem?_cons_zero, List.getElem?_cons_succ] at k0
              clear hm0 HDn
              go_wp2
              go_loopw [10, 12, 14, 53] (fun o ag _ i wx => ∃ (j : Nat) (O2 : List Int) (Ay : Option Addr) (cy N' : Nat) (b' : Bool), j ≤ ko ∧ i = .int .i64 j ∧ o = .slice Ay O2.length cy ∧ ag = .bool b' ∧ Hid (Falling a S lf O2) ∧ N' ≤ N2 + 1 + 256 * O2.length ∧ Hid (DropSt w w3 gh b1 b2 R0 Ao ko co a S f1 N' (cntD a S lf O2) O2 O2 Ay cy wx) ∧ m0 ≤ O2.length ∧ Hid (b' = true → m0 + 1 ≤ O2.length) ∧ Hid (b' = false → ∀ x ∈ (begsL S).take j, x ∈ O2 ∨ 0 < cntD a S lf O2 x)) (fun _ _ _ i _ => ko - (intOf i).toNat)
              case atStart => exact ⟨0, O, Ax, cx, N, false, Nat.zero_le _, rfl, by rfl, rfl, HFa, hN, HSt, by rw [HM0.out]; exact Nat.le_refl _, (by intro h; cases h), by intro _ x hx; simp at hx⟩
              case round =>
                obtain ⟨j, O2, Ay, cy, N', b', hj, rfl, rfl, rfl, HFa2, hN', HSt2, hm1, HB1, HDn2⟩ := hrel
                by_cases hltj : j < ko
                · obtain ⟨ad2, y2, rfl, had2, hy2, cy2⟩ := (Reads.of_own HSt2.out.order).num hltj
                  have hj1 : j + 1 ≤ ko := hltj
                  have hyb2 := List.mem_of_getElem? hy2
                  have hbd := HBb.out y2 hyb2
                  have hwy2 : (Lit.int .i64 y2).wf = true := by simp [Lit.wf, IntKind.min, IntKind.max, IntKind.signed, IntKind.bits]; omega
                  have x0 := HSt2.out.hdr.cell 0
                  have x1 := HSt2.out.hdr.cell 1
                  have x2 := HSt2.out.hdr.cell 2
                  simp only [List.getElem?_toArray, List.getElem?_cons_zero, List.getElem?_cons_succ] at x0 x1 x2
                  have hlG := HSt2.out.lookG hwy2
                  have hlM := HSt2.out.lookM hwy2
                  have HY := Lib.hid hy2
                  by_cases hyO : y2 ∈ O2
                  · rw [if_pos hyO] at hlG
                    have HDn3 : Hid (b' = false → ∀ x ∈ (begsL S).take (j + 1), x ∈ O2 ∨ 0 < cntD a S lf O2 x) := fun h => done_next hy2 (HDn2.out h) (.inl hyO)
                    clear hy2 hyO hlM HDn2
                    go_wp2
                    go_roundw
                    case rel => exact ⟨j + 1, O2, Ay, cy, N', b', hj1, by go_num, rfl, rfl, HFa2, hN', HSt2, hm1, HB1, HDn3⟩
                    case measure => simp [intOf]; omega
                  · rw [if_neg hyO] at hlG
                    obtain ⟨C2, hC2⟩ : ∃ C2, C2 = cntD a S lf O2 y2 := ⟨_, rfl⟩
                    rw [← hC2] at hlM
                    by_cases hC0 : 0 < C2
                    · have g3 : decide (0 < C2) = true := decide_eq_true hC0
                      have g4 : decide ((0 : Int) < (C2 : Int)) = true := decide_eq_true (by omega)
                      have HDn3 : Hid (b' = false → ∀ x ∈ (begsL S).take (j + 1), x ∈ O2 ∨ 0 < cntD a S lf O2 x) := fun h => done_next hy2 (HDn2.out h) (.inr (by rw [← hC2]; exact hC0))
                      clear hy2 hyO HDn2 hC2
                      go_wp2
                      go_roundw
                      case rel => exact ⟨j + 1, O2, Ay, cy, N', b', hj1, by go_num, rfl, rfl, HFa2, hN', HSt2, hm1, HB1, HDn3⟩
                      case measure => simp [intOf]; omega
                    · have hC00 : C2 = 0 := by omega
                      subst hC00
                      have hO2 := HFa2.out.bound HBb.out
                      have HFa3 := Lib.hid (HFa2.out.add HNd.out hyb2 hyO hC2.symm)
                      have hO3 : O2.length + 1 ≤ 256 := by have := HFa3.out.bound HBb.out; rw [List.length_append] at this; exact this
                      obtain ⟨w4, hupd4, hS4⟩ := HSt2.out.go (by omega) hwy2
                      have HS5 := Lib.hid (hS4.alloc (.cells #[.int .i64 y2] 3))
                      have hOw := HS5.out.out
                      have hrn := reads_new w4 [.int .i64 y2] 3 1 1 rfl
                      have hsz4 := hS4.size
                      have p1 := hS4.hdr.cell 1
                      simp only [List.getElem?_toArray, List.getElem?_cons_zero, List.getElem?_cons_succ] at p1
                      obtain ⟨Ar, mr, cr, hfr, hmr, hlR0⟩ := hS4.lookR hwy2 hyb2
                      have hIq : Hid ((linksAt a S y2).length = mr) := hmr.symm
                      have hmr256 : mr ≤ 256 := by rw [hmr]; exact HLL.out _
                      have HFr := Lib.hid hfr
                      have HyO := Lib.hid hyO
                      clear hS4 hlR0 hC2 hyO hfr hmr
                      go_wp2_with (at_builtin; refine wpList_append_any _ rfl (.tmp 72) (.tmp 74) 23 rfl (w3.heap.size + 1) 3 i0 (.int .i64 0) 1 8 Try.underlying23 hi hz0 hz1 hz2 rfl (by decide) (.slice Ay O2.length cy) O2.length _ rfl hOw _ (some ⟨w4.heap.size, 0, none⟩) 1 1 [.int .i64 y2] rfl hrn (by simp [Value.oneCell']) (by unfold maxLen; omega) (by omega) (by rw [World.size_alloc]; omega) ?_; rintro v' w6 hown6 hgr - -; obtain ⟨A5, c5, rfl⟩ := own_slice hown6; have HS6 := Lib.hid (HS5.out.grow hgr hown6); have x1' := HS6.out.hdr.cell 1; have x2' := HS6.out.hdr.cell 2; simp only [List.getElem?_toArray, List.getElem?_cons_zero, List.getElem?_cons_succ] at x1' x2'; obtain ⟨Ar', mr', cr', hfr', hmr', hlR⟩ := HS6.out.lookR hwy2 hyb2; rw [HFr.out] at hfr'; injection hfr' with hfr'; injection hfr' with e1 e2 e3; subst e1 e2 e3; clear hown6 hgr hmr')
                      go_loopw [16, 83] (fun _ i wx => ∃ (q M : Nat), q ≤ mr ∧ i = .int .i64 q ∧ M ≤ N' + q ∧ Hid (DropSt w w3 gh b1 b2 R0 (some ad2) ko co a S f1 M (cntQ a S lf O2 y2 q) (O2 ++ [y2]) (O2 ++ [y2]) A5 c5 wx)) (fun _ i _ => mr - (intOf i).toNat)
                      case atStart => exact ⟨0, N', Nat.zero_le _, rfl, Nat.le_refl _, HS6.out.congr (fun x => cntQ_zero x)⟩
                      case round =>
                        obtain ⟨q, M, hq, rfl, hM, HSq⟩ := hrel
                        by_cases hltq : q < mr
                        · obtain ⟨ad3, x3, e3, had3, hx3, cx3⟩ := (HSq.out.readR hyb2 HFr.out).num hltq
                          have hbd3 := HBb.out x3 (HLk.out y2 x3 (List.mem_of_getElem? hx3))
                          have hwx3 : (Lit.int .i64 x3).wf = true := by simp [Lit.wf, IntKind.min, IntKind.max, IntKind.signed, IntKind.bits]; omega
                          have hpos := cntQ_pos (left := lf) HNd.out hyb2 HyO.out hx3
                          obtain ⟨v, hv⟩ : ∃ v, cntQ a S lf O2 y2 q x3 = v + 1 := ⟨cntQ a S lf O2 y2 q x3 - 1, by omega⟩
                          have hvb : v ≤ 1000000000000065536 := by have h1 := HV.out O2 x3; have h2 := cntQ_le (a := a) (S := S) (left := lf) (O := O2) (y := y2) (q := q) (z := x3); omega
                          have hlM3 : (Instr.lookup 49 (.map (some b2)) (.int .i64 x3) false).run Try.prog wr = .ok (.int .i64 ((v : Int) + 1)) wr := by have h1 := HSq.out.lookM hwx3; rw [hv] at h1; exact h1
                          have wv : IntKind.i64.wrap ((v : Int) + 1 - 1) = (v : Int) := by rw [show (v : Int) + 1 - 1 = v by omega]; exact IntWalk.i64_in _ (by omega)
                          have hv1 : (v : Int) + 1 - 1 = (v : Int) := by omega
                          have wv' : IntKind.i64.wrap (v : Int) = (v : Int) := IntWalk.i64_in _ (by omega)
                          obtain ⟨w7, hupd7, hS7⟩ := HSq.out.count (by unfold maxLen; omega) hwx3 v
                          have HS7 := Lib.hid (hS7.congr (cntQ_succ hx3 hv))
                          have z2 := HSq.out.hdr.cell 2
                          simp only [List.getElem?_toArray, List.getElem?_cons_zero, List.getElem?_cons_succ] at z2
                          have hq1 : q + 1 ≤ mr := hltq
                          subst e3
                          clear hS7 hv hx3 hpos
                          go_wp2
                          go_roundw
                          case rel => exact ⟨q + 1, M + 1, hq1, by go_num, by omega, HS7⟩
                          case measure => simp [intOf]; omega
                        · have hqm : q = mr := by omega
                          have g0 : decide (q < mr) = false := decide_eq_false hltq
                          have HS8 : Hid (DropSt w w3 gh b1 b2 R0 (some ad2) ko co a S f1 M (cntD a S lf (O2 ++ [y2])) (O2 ++ [y2]) (O2 ++ [y2]) A5 c5 wr) := by
                            have h1 := HSq.out
                            rw [hqm, ← hIq.out] at h1
                            exact h1.congr (fun z => cntQ_all HNd.out hyb2 HyO.out z)
                          have HLn : Hid ((O2 ++ [y2]).length = O2.length + 1) := by show _ = _; rw [List.length_append]; rfl
                          clear hqm
                          go_wp2
                          go_roundw
                          case rel =>
                            refine ⟨j + 1, O2 ++ [y2], A5, c5, M, true, hj1, by go_num, by rw [HLn.out], rfl, HFa3, by rw [HLn.out]; omega, HS8, by rw [HLn.out]; omega, (fun _ => by rw [HLn.out]; omega), ?_⟩
                            intro h; cases h
                          case measure => simp [intOf]; omega
                · have hjk : j = ko := by omega
                  have g0 : decide (j < ko) = false := decide_eq_false hltj
                  have hO2 := HFa2.out.bound HBb.out
                  have HDn3 : Hid (b' = false → ∀ x ∈ begsL S, x ∈ O2 ∨ 0 < cntD a S lf O2 x) := by
                    have h1 := HDn2.out
                    rw [hjk, List.take_of_length_le (by rw [HKO.out]; exact Nat.le_refl _)] at h1
                    exact h1
                  clear hjk HDn2
                  go_wp2
                  go_roundw
                  case rel => exact ⟨O2, Ay, cy, N', b', rfl, rfl, HFa2, hN', HSt2, HDn3⟩
                  case measure =>
                    have h1 := HM0.out
                    have h2 := HB1.out
                    simp only [slLen]
                    cases b'
                    · simp only [boolN]; omega
                    · have := h2 rfl
                      simp only [boolN]; omega
  · clear hex
    go_wp2
    go_ret2
    exact ⟨hb2, .inr ⟨5, rfl, rfl⟩⟩
end Go.Proofs.Ytjpleagcdncbfaa
