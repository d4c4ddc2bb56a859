/-
  package faint: check, Last.
-/
import Derived.Test.YthfjopnomkfegabTintReach
import Derived.Test.YthfjopnomkfegabConcatInt
import Derived.Test.YthfjopnomkfegabDeleteF
import Derived.Test.YthfjopnomkfegabContainsInt
namespace Go.Proofs.Ythfjopnomkfegab
open Go.RowKit

/-- When faint's functions go on. -/
def FaintOk (a : List Int) (f : List Int) (many : Int) (g : List Int) : Prop := checkE a = 0 ∧ (∀ x ∈ f, x ∈ begsL (spotsL a)) ∧ many ≤ 32 ∧ ∀ x ∈ g, x ∈ begsL (spotsL a)

set_option maxRecDepth 100000 in
set_option maxHeartbeats 1000000 in
theorem fcheck_any (A : Option Addr) (n c : Nat) (a : List Int) (A2 : Option Addr) (n2 c2 : Nat) (f : List Int) (many : Int) (A3 : Option Addr) (n3 c3 : Nat) (g : List Int) (w : World) (hr : Reads w w.heap.size 1 A n (a.map (.int .u64))) (hnc : n ≤ c) (ha : ∀ x ∈ a, (Lit.int .u64 x).wf = true)
    (hr2 : Reads w w.heap.size 1 A2 n2 (f.map (.int .i64))) (hn2 : n2 ≤ 1000000000000000000) (hx2 : ∀ x ∈ f, (Lit.int .i64 x).wf = true) (hr3 : Reads w w.heap.size 1 A3 n3 (g.map (.int .i64))) (hn3 : n3 ≤ 1000000000000000000) (hx3 : ∀ x ∈ g, (Lit.int .i64 x).wf = true) :
    Calls Try.prog 63 #[.slice A n c, .slice A2 n2 c2, .int .i64 many, .slice A3 n3 c3] w fun e w' => Below w.heap.size w w' ∧
      ((FaintOk a f many g ∧ ∃ L A' c', Reached a (spotsL a) f L ∧ e = .returned (.tuple #[.slice A' L.length c', .int .i64 0]) ∧ w'.ownsRow w.heap.size 3 1 (.slice A' L.length c') L.length (L.map (.int .i64))) ∨
       (¬ FaintOk a f many g ∧ ∃ er : Int, (er != 0) = true ∧ e = .returned (.tuple #[.slice none 0 0, .int .i64 er]))) := by
  by_cases hE : checkE a = 0
  · have H1 := Lib.hid (fun w hr hr2 => reach_ok A n c a A2 n2 c2 f w hr hnc ha hr2 hn2 hx2 hE)
    have H2 := Lib.hid (fun w hr hr2 => reach_ok A n c a A3 n3 c3 g w hr hnc ha hr2 hn3 hx3 hE)
    have HE := Lib.hid hE
    generalize hok : FaintOk a f many g = ok
    have HOK : Hid (ok ↔ FaintOk a f many g) := by show _ ↔ _; rw [hok]
    clear hE ha hx2 hx3 hok
    go_enter Try.func63, Try.ntmps63
    go_wp2_with fail
    refine (H1.out _ hr hr2).mono ?_
    rintro e w1 ⟨hb1, ⟨L, A4, c4, hL, rfl, hown⟩ | ⟨⟨x, hx, hx2⟩, rfl⟩⟩
    · have HL := Lib.hid hL
      have HO := Lib.hid hown
      obtain ⟨k, hk⟩ : ∃ k, k = L.length := ⟨_, rfl⟩
      rw [← hk]
      have HK := Lib.hid hk
      clear hL hown hk
      by_cases hmany : 32 < many
      · have g1 : decide (32 < many) = true := decide_eq_true hmany
        have HN : Hid (¬ ok) := fun h => by have := (HOK.out.1 h).2.2.1; omega
        go_wp2
        go_ret2
        exact ⟨hb1, .inr ⟨HN.out, 2, rfl, rfl⟩⟩
      · have g1 : decide (32 < many) = false := decide_eq_false hmany
        go_wp2_with fail
        refine (H2.out _ ((hr.below hb1).more hb1.size) ((hr3.below hb1).more hb1.size)).mono ?_
        rintro e w2 ⟨hb2, ⟨M, A5, c5, hM, rfl, -⟩ | ⟨⟨x, hx, hx2⟩, rfl⟩⟩
        · have HY : Hid ok := HOK.out.2 ⟨HE.out, fun x hx => HL.out.begs x (HL.out.roots x hx), by omega, fun x hx => hM.begs x (hM.roots x hx)⟩
          clear hM
          go_wp2
          go_ret2
          exact ⟨below_step hb1 hb2, .inl ⟨HY.out, L, A4, c4, HL.out, by rw [← HK.out]; rfl, own_below HO.out hb2⟩⟩
        · have HN : Hid (¬ ok) := fun h => hx2 ((HOK.out.1 h).2.2.2 x hx)
          clear hx hx2
          go_wp2
          go_ret2
          exact ⟨below_step hb1 hb2, .inr ⟨HN.out, 5, rfl, rfl⟩⟩
    · have HN : Hid (¬ ok) := fun h => hx2 ((HOK.out.1 h).2.1 x hx)
      clear hx hx2
      go_wp2
      go_ret2
      exact ⟨hb1, .inr ⟨HN.out, 5, rfl, rfl⟩⟩
  · have H1 := Lib.hid (fun w hr => reach_bad A n c a A2 n2 c2 w hr hnc ha hE)
    have HN : Hid (¬ FaintOk a f many g) := fun h => hE h.1
    have hE1 : (checkE a != 0) = true := by simpa using hE
    generalize FaintOk a f many g = ok at *
    generalize checkE a = E at *
    clear hE
    go_enter Try.func63, Try.ntmps63
    go_wp2_with fail
    refine (H1.out _ hr).mono ?_
    rintro e w1 ⟨rfl, hb1⟩
    go_wp2
    go_ret2
    exact ⟨hb1, .inr ⟨HN.out, E, hE1, rfl⟩⟩

def toldL (M q : List Int) : List Int := q.filter fun x => !decide (x ∈ M)

end Go.Proofs.Ythfjopnomkfegab
