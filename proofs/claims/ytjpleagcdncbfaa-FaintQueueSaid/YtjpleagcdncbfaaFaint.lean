/-
  package faint: check, Last.
-/
import Derived.Test.YtjpleagcdncbfaaTintReach
import Derived.Test.YtjpleagcdncbfaaConcatInt
import Derived.Test.YtjpleagcdncbfaaDeleteF
import Derived.Test.YtjpleagcdncbfaaContainsInt
namespace Go.Proofs.Ytjpleagcdncbfaa
open Go.RowKit

/-- When faint's functions go on. -/
def FaintOk (a : List Int) (f : List Int) (many : Int) (g : List Int) : Prop := checkE a = 0 ∧ (∀ x ∈ f, x ∈ begsL (spotsL a)) ∧ many ≤ 32 ∧ ∀ x ∈ g, x ∈ begsL (spotsL a)

set_option maxRecDepth 100000 in
set_option maxHeartbeats 1000000 in
theorem fcheck_any (A : Option Addr) (n c : Nat) (a : List Int) (A2 : Option Addr) (n2 c2 : Nat) (f : List Int) (many : Int) (A3 : Option Addr) (n3 c3 : Nat) (g : List Int) (w : World) (hr : Reads w w.heap.size 1 A n (a.map (.int .u64))) (hnc : n ≤ c) (ha : ∀ x ∈ a, (Lit.int .u64 x).wf = true)
    (hr2 : Reads w w.heap.size 1 A2 n2 (f.map (.int .i64))) (hn2 : n2 ≤ 1000000000000000000) (hx2 : ∀ x ∈ f, (Lit.int .i64 x).wf = true) (hr3 : Reads w w.heap.size 1 A3 n3 (g.map (.int .i64))) (hn3 : n3 ≤ 1000000000000000000) (hx3 : ∀ x ∈ g, (Lit.int .i64 x).wf = true) :
    Calls Try.prog 42 #[.slice A n c, .slice A2 n2 c2, .int .i64 many, .slice A3 n3 c3] w fun e w' => Below w.heap.size w w' ∧
      ((FaintOk a f many g ∧ ∃ L A' c', Reached a (spotsL a) f L ∧ e = .returned (.tuple #[.slice A' L.length c', .int .i64 0]) ∧ w'.ownsRow w.heap.size 3 1 (.slice A' L.length c') L.length (L.map (.int .i64))) ∨
       (¬ FaintOk a f many g ∧ ∃ er : Int, (er != 0) = true ∧ e = .returned (.tuple #[.slice none 0 0, .int .i64 er]))) := by
  by_cases hE : checkE a = 0
  · have H1 := Lib.hid (fun w hr hr2 => reach_ok A n c a A2 n2 c2 f w hr hnc ha hr2 hn2 hx2 hE)
    have H2 := Lib.hid (fun w hr hr2 => reach_ok A n c a A3 n3 c3 g w hr hnc ha hr2 hn3 hx3 hE)
    have HE := Lib.hid hE
    generalize hok : FaintOk a f many g = ok
    have HOK : Hid (ok ↔ FaintOk a f many g) := by show _ ↔ _; rw [hok]
    clear hE ha hx2 hx3 hok
    go_enter Try.func42, Try.ntmps42
    go_wp2_with fail
    refine (H1.out _ hr hr2).mono ?_
    rintro e w1 ⟨hb1, ⟨L, A4, c4, hL, rfl, hown⟩ | ⟨⟨x, hx, hx2⟩, rfl⟩⟩
    · have HL := Lib.hid hL
      have HO := Lib.hid hown
      obtain ⟨k, hk⟩ : ∃ k, k = L.length := ⟨_, rfl⟩
      rw [← hk]
      have HK := Lib.hid hk
      clear hL hown hk
      by_cases hmany : 32 < many
      · have g1 : decide (32 < many) = true := decide_eq_true hmany
        have HN : Hid (¬ ok) := fun h => by have := (HOK.out.1 h).2.2.1; omega
        go_wp2
        go_ret2
        exact ⟨hb1, .inr ⟨HN.out, 2, rfl, rfl⟩⟩
      · have g1 : decide (32 < many) = false := decide_eq_false hmany
        go_wp2_with fail
        refine (H2.out _ ((hr.below hb1).more hb1.size) ((hr3.below hb1).more hb1.size)).mono ?_
        rintro e w2 ⟨hb2, ⟨M, A5, c5, hM, rfl, -⟩ | ⟨⟨x, hx, hx2⟩, rfl⟩⟩
        · have HY : Hid ok := HOK.out.2 ⟨HE.out, fun x hx => HL.out.begs x (HL.out.roots x hx), by omega, fun x hx => hM.begs x (hM.roots x hx)⟩
          clear hM
          go_wp2
          go_ret2
          exact ⟨below_step hb1 hb2, .inl ⟨HY.out, L, A4, c4, HL.out, by rw [← HK.out]; rfl, own_below HO.out hb2⟩⟩
        · have HN : Hid (¬ ok) := fun h => hx2 ((HOK.out.1 h).2.2.2 x hx)
          clear hx hx2
          go_wp2
          go_ret2
          exact ⟨below_step hb1 hb2, .inr ⟨HN.out, 5, rfl, rfl⟩⟩
    · have HN : Hid (¬ ok) := fun h => hx2 ((HOK.out.1 h).2.1 x hx)
      clear hx hx2
      go_wp2
      go_ret2
      exact ⟨hb1, .inr ⟨HN.out, 5, rfl, rfl⟩⟩
  · have H1 := Lib.hid (fun w hr => reach_bad A n c a A2 n2 c2 w hr hnc ha hE)
    have HN : Hid (¬ FaintOk a f many g) := fun h => hE h.1
    have hE1 : (checkE a != 0) = true := by simpa using hE
    generalize FaintOk a f many g = ok at *
    generalize checkE a = E at *
    clear hE
    go_enter Try.func42, Try.ntmps42
    go_wp2_with fail
    refine (H1.out _ hr).mono ?_
    rintro e w1 ⟨rfl, hb1⟩
    go_wp2
    go_ret2
    exact ⟨hb1, .inr ⟨HN.out, E, hE1, rfl⟩⟩

set_option maxHeartbeats 400000 in
theorem told_any (y : Int) (g9 : Nat) (AM : Option Addr) (nM cM : Nat) (M : List Int) (BM : Nat) (w : World) (B9 : Blk w g9 23 #[.slice AM nM cM]) (hM : Reads w BM 1 AM nM (M.map (.int .i64))) (hnM : nM ≤ 1000000000000000000) :
    Calls Try.prog 43 #[.int .i64 y, .pointer (some ⟨g9, 0, none⟩)] w fun e w' => e = .returned (.bool (decide (y ∈ M))) ∧ ∃ q, w' = w.drewN q := by
  have k9 := B9.cell 0
  simp only [List.getElem?_toArray, List.getElem?_cons_zero, List.getElem?_cons_succ] at k9
  obtain ⟨b, hb⟩ : ∃ b, b = decide (y ∈ M) := ⟨_, rfl⟩
  have HC := Lib.hid (contains_int AM nM cM _ M y b w hM hnM hb.symm)
  rw [← hb]
  clear hb hM
  go_enter Try.func43, Try.ntmps43
  go_wp2_with fail
  refine HC.out.mono ?_
  rintro e w' ⟨rfl, rfl⟩
  go_wp2
  go_ret
  exact ⟨by first | rfl | simp, 0, rfl⟩

def toldL (M q : List Int) : List Int := q.filter fun x => !decide (x ∈ M)

set_option maxRecDepth 100000 in
set_option maxHeartbeats 2000000 in
theorem last_any (A : Option Addr) (n c : Nat) (a : List Int) (A2 : Option Addr) (n2 c2 : Nat) (f : List Int) (A3 : Option Addr) (n3 c3 : Nat) (q : List Int) (w : World) (hr : Reads w w.heap.size 1 A n (a.map (.int .u64))) (hnc : n ≤ c) (ha : ∀ x ∈ a, (Lit.int .u64 x).wf = true)
    (hr2 : Reads w w.heap.size 1 A2 n2 (f.map (.int .i64))) (hn2 : n2 ≤ 17592186044500) (hx2 : ∀ x ∈ f, (Lit.int .i64 x).wf = true) (hr3 : Reads w w.heap.size 1 A3 n3 (q.map (.int .i64))) (hn3 : n3 ≤ 1000000000000000000) (hx3 : ∀ x ∈ q, (Lit.int .i64 x).wf = true) :
    Calls Try.prog 23 #[.slice A n c, .slice A2 n2 c2, .slice A3 n3 c3] w fun e w' => Below w.heap.size w w' ∧
      ((FaintOk a f n3 q ∧ ∃ (M T R : List Int) (A4 : Option Addr) (c4 : Nat) (A5 : Option Addr) (c5 : Nat), Reached a (spotsL a) f M ∧ T = toldL M q ∧ Reached a (spotsL a) (f ++ T) R ∧ e = .returned (.tuple #[.slice A4 T.length c4, .slice A5 R.length c5, .int .i64 0]) ∧
          w'.ownsRow w.heap.size 3 1 (.slice A4 T.length c4) T.length (T.map (.int .i64)) ∧ w'.ownsRow w.heap.size 3 1 (.slice A5 R.length c5) R.length (R.map (.int .i64))) ∨
       (¬ FaintOk a f n3 q ∧ ∃ er : Int, (er != 0) = true ∧ e = .returned (.tuple #[.slice none 0 0, .slice none 0 0, .int .i64 er]))) := by
  have hql : q.length = n3 := by have := hr3.1; simpa using this
  have H1 := Lib.hid (fun w hr hr2 hr3 => fcheck_any A n c a A2 n2 c2 f n3 A3 n3 c3 q w hr hnc ha hr2 (by omega) hx2 hr3 hn3 hx3)
  have H2 := Lib.hid (fun A2 n2 c2 f w hr hr2 hn2 hx2 hE => reach_ok A n c a A2 n2 c2 f w hr hnc ha hr2 hn2 hx2 hE)
  have HX := Lib.hid hx2
  have HX3 := Lib.hid hx3
  have HQL := Lib.hid hql
  have HBb : Hid (checkE a = 0 → ∀ x ∈ begsL (spotsL a), 0 ≤ x ∧ x < 256) := fun h => begsL_bounds (checkE_ok.1 h).1
  clear ha hx2 hx3 hql
  go_enter Try.func23, Try.ntmps23
  go_wp2_with fail
  refine (H1.out _ hr hr2 hr3).mono ?_
  rintro e w1 ⟨hb1, ⟨hok, M, A4, c4, hM, rfl, hown⟩ | ⟨hno, er, her, rfl⟩⟩
  · have HOK := Lib.hid hok
    have h32 : n3 ≤ 32 := by have := hok.2.2.1; omega
    have hM256 : M.length ≤ 256 := nodup_bound 256 M hM.once (fun x hx => HBb.out hok.1 x (hM.begs x hx))
    obtain ⟨m, hm⟩ : ∃ m, m = M.length := ⟨_, rfl⟩
    rw [← hm] at hown hM256 ⊢
    have HM := Lib.hid hM
    have hbn := below_new w1 (.cells #[.slice A4 m c4] 23)
    have D1 := Blk.new w1 23 #[.slice A4 m c4]
    have hrM := ((Reads.of_own hown).below hbn).more hbn.size
    have hb2 := below_step hb1 hbn
    clear hok hM hown hm hbn hb1
    go_wp2_with fail
    refine (clone_int A3 n3 c3 _ (q.map (.int .i64)) _ ((hr3.below hb2).more hb2.size) (Nat.le_refl _) (ints_one q) (by omega)).mono ?_
    rintro e w3 ⟨A5, c5, rfl, hown5, hb3⟩
    have hge := fun g hg => (hown5.lt g hg).1
    have D3 := D1.below hb3 D1.lt
    have hrM3 := hrM.below hb3
    have HDF := Lib.hid (deleteF_int 43 #[.pointer (some ⟨w1.heap.size, 0, none⟩)] (fun x => decide (x ∈ M)) _ A5 n3 c5 q w3 hown5 hn3 (plain_of (fn := Try.f43) Try.func43 (by kernel_rfl) (by kernel_rfl)) (fun W x hgW => by
      exact told_any x w1.heap.size A4 m c4 M _ W (D3.grown hgW (fun e => by have := hge _ e.symm; have := D1.lt; omega)) (hrM3.grown hgW hb3.size (fun g e => hge g e)) (by omega)))
    have HO5 := Lib.hid hown5
    clear hown5
    go_wp2_with fail
    refine HDF.out.mono ?_
    rintro e w4 ⟨rfl, hown6, hg4⟩
    have hb4 := hb3.grown hg4 hb3.size (fun g e => hge g e)
    have hb04 := below_step hb2 hb4
    have htl : toldL M q = q.filter fun x => !decide (x ∈ M) := rfl
    rw [← htl] at hown6 ⊢
    have htn : (toldL M q).length ≤ 32 := by
      have h2 := List.length_filter_le (fun x => !decide (x ∈ M)) q
      rw [htl]
      have := HQL.out
      omega
    have hsub : ∀ x ∈ toldL M q, x ∈ q := fun x hx => (List.mem_filter.1 hx).1
    have HS := Lib.hid hsub
    obtain ⟨T, hT⟩ : ∃ T, T = toldL M q := ⟨_, rfl⟩
    rw [← hT] at hown6 htn HS ⊢
    obtain ⟨t, ht⟩ : ∃ t, t = T.length := ⟨_, rfl⟩
    rw [← ht] at hown6 htn ⊢
    have HT := Lib.hid hT
    have HTl := Lib.hid ht
    have hrT := Reads.of_own hown6
    have HO6 := Lib.hid (own_mono hown6 hb2.size)
    have hv := reads_new w4 [.slice A2 n2 c2, .slice A5 t c5] 23 2 1 rfl
    have hbv := below_new w4 (.cells #[.slice A2 n2 c2, .slice A5 t c5] 23)
    have hb05 := below_step hb04 hbv
    have HCo := Lib.hid (concat2_int A2 n2 c2 (f.map (.int .i64)) A5 t c5 (T.map (.int .i64)) (some ⟨w4.heap.size, 0, none⟩) 2 _ (hv.more (by simp)) ((hr2.below hb05).more hb05.size) ((hrT.below hbv).more hbv.size) (ints_one f) (ints_one T) (by omega))
    clear hown6 hsub htl hT ht hv hg4 D3 hrM3 hrM D1 hge hb3 hb2
    go_wp2_with fail
    refine HCo.out.mono ?_
    rintro e w6 ⟨A6, c6, rfl, hown6, hb6⟩
    rw [← List.map_append] at hown6
    have hb06 := below_step hb05 hb6
    have hall : ∀ x ∈ f ++ T, x ∈ begsL (spotsL a) := fun x hx => by
      rcases List.mem_append.1 hx with h | h
      · exact HOK.out.2.1 x h
      · exact HOK.out.2.2.2 x (HS.out x h)
    have hxw : ∀ x ∈ f ++ T, (Lit.int .i64 x).wf = true := fun x hx => by
      rcases List.mem_append.1 hx with h | h
      · exact HX.out x h
      · exact HX3.out x (HS.out x h)
    have H2' := Lib.hid (H2.out A6 (n2 + t) c6 (f ++ T) w6 ((hr.below hb06).more hb06.size) (Reads.of_own hown6) (by omega) hxw HOK.out.1)
    have HAll := Lib.hid hall
    have HO7 := Lib.hid (own_below (own_below HO6.out hbv) hb6)
    clear hall hxw hown6
    go_wp2_with fail
    refine H2'.out.mono ?_
    rintro e w7 ⟨hb7, ⟨R, A7, c7, hR, rfl, hown7⟩ | ⟨⟨x, hx, hx2⟩, -⟩⟩
    · have HR := Lib.hid hR
      have HO8 := Lib.hid hown7
      have hb07 := below_step hb06 hb7
      clear hR hown7
      go_wp2
      go_ret3
      refine ⟨hb07, .inl ⟨HOK.out, M, T, R, A5, c5, A7, c7, HM.out, HT.out, HR.out, by rw [← HTl.out]; rfl, ?_, own_mono HO8.out hb06.size⟩⟩
      rw [← HTl.out]
      exact own_below HO7.out hb7
    · exact absurd (HAll.out x hx) hx2
  · have HNO := Lib.hid hno
    have her2 := her
    clear hno her
    go_wp2
    go_ret3
    exact ⟨(hb1.alloc hb1.size _), .inr ⟨HNO.out, er, her2, rfl⟩⟩
end Go.Proofs.Ytjpleagcdncbfaa
