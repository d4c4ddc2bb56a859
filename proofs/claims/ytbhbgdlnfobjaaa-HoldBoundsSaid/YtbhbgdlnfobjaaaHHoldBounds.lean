/-
  HoldBounds answers true for every store, and changes no argument: live and free words add up to all words, and the widest gap is at most the free words and at least its share of them. No condition.
-/
import Derived.Test.YtbhbgdlnfobjaaaG9
import Derived.Test.YtbhbgdlnfobjaaaG10
namespace Go.Proofs.Ytbhbgdlnfobjaaa
open Go.RowKit

theorem most_le (G : List Rn) : ∀ m, m ≤ mostL m G ∧ (∀ r ∈ G, r.len ≤ mostL m G) ∧ (mostL m G = m ∨ ∃ r ∈ G, mostL m G = r.len) := by
  induction G with
  | nil => intro m; exact ⟨Int.le_refl _, (fun r hr => by cases hr), .inl rfl⟩
  | cons x G ih =>
    intro m
    obtain ⟨h1, h2, h3⟩ := ih (max m x.len)
    refine ⟨by simp only [mostL]; omega, fun r hr => ?_, ?_⟩
    · rcases List.mem_cons.1 hr with rfl | hr
      · simp only [mostL]; omega
      · exact h2 r hr
    · rcases h3 with h3 | ⟨r, hr, h3⟩
      · by_cases hm : x.len ≤ m
        · left
          simp only [mostL]
          omega
        · right
          refine ⟨x, List.mem_cons_self, ?_⟩
          simp only [mostL]
          omega
      · exact .inr ⟨r, List.mem_cons_of_mem _ hr, h3⟩
theorem rsum_le {G : List Rn} {M : Int} (h : ∀ r ∈ G, r.len ≤ M) : rsum G ≤ G.length * M := by
  induction G with
  | nil => simp [rsum]
  | cons x G ih =>
    have h1 := h x List.mem_cons_self
    have h2 := ih (fun r hr => h r (List.mem_cons_of_mem _ hr))
    simp only [rsum, List.length_cons]
    have : ((G.length + 1 : Nat) : Int) * M = G.length * M + M := by rw [Int.natCast_add, Int.add_mul]; simp
    omega
theorem rsum_ge {G : List Rn} (h : ∀ r ∈ G, 0 ≤ r.len) : 0 ≤ rsum G ∧ ∀ r ∈ G, r.len ≤ rsum G := by
  induction G with
  | nil => exact ⟨by simp [rsum], fun r hr => by cases hr⟩
  | cons x G ih =>
    have h1 := h x List.mem_cons_self
    obtain ⟨h2, h3⟩ := ih (fun r hr => h r (List.mem_cons_of_mem _ hr))
    refine ⟨by simp only [rsum]; omega, fun r hr => ?_⟩
    simp only [rsum]
    rcases List.mem_cons.1 hr with rfl | hr
    · omega
    · have := h3 r hr; omega
theorem most_bounds {G : List Rn} (h : ∀ r ∈ G, 0 ≤ r.len) : 0 ≤ mostL 0 G ∧ mostL 0 G ≤ rsum G ∧ rsum G ≤ G.length * mostL 0 G := by
  obtain ⟨h1, h2, h3⟩ := most_le G 0
  obtain ⟨h4, h5⟩ := rsum_ge h
  refine ⟨h1, ?_, rsum_le h2⟩
  rcases h3 with h3 | ⟨r, hr, h3⟩
  · omega
  · have := h5 r hr; omega

set_option maxRecDepth 100000 in
set_option maxHeartbeats 4000000 in
theorem holdBounds_any (A : Option Addr) (n c : Nat) (RA : Option Addr) (rn rc : Nat) (PA : Option Addr) (pn pc : Nat) (HA : Option Addr) (hn hc : Nat) (S : St) (w : World)
    (hR : StR w w.heap.size A n RA rn PA pn HA hn S) (hK : StK n c rn pn hn S) :
    Calls Try.prog 4 #[.agg #[.slice A n c, .slice RA rn rc, .slice PA pn pc, .slice HA hn hc]] w fun e w' => e = .returned (.bool true) ∧ Below w.heap.size w w' := by
  have HH := Lib.hid holds_true
  have H1 := Lib.hid (fun w hR => live_any A n c RA rn rc PA pn pc HA hn hc S w hR hK)
  have H2 := Lib.hid (fun w hR => widest_any A n c RA rn rc PA pn pc HA hn hc S w hR hK)
  have H3 := Lib.hid (fun w hR => collectFn_any A n c RA rn rc PA pn pc HA hn hc S w hR hK)
  have HE := Lib.hid (@stE_ok S)
  have HL := Lib.hid hR.lens
  have hKw := Lib.hid hK.wf
  generalize stE S = E at *
  have hb1 := below_new w (.cells #[.slice A n c, .slice RA rn rc, .slice PA pn pc, .slice HA hn hc] 28)
  have DS := Blk.new w 28 #[.slice A n c, .slice RA rn rc, .slice PA pn pc, .slice HA hn hc]
  go_enter Try.func4, Try.ntmps4
  go_wp2_with fail
  refine (HH.out _).mono ?_
  rintro e w1 ⟨rfl, hb2⟩
  have hb02 := below_step hb1 hb2
  have DS := DS.below hb2 DS.lt
  obtain ⟨s0, s1, s2, s3⟩ := DS.four
  clear HH
  go_wp2_with fail
  refine (H1.out _ ((hR.below hb02).more hb02.size)).mono ?_
  rintro e w2 ⟨hb3, hor⟩
  have hb03 := below_step hb02 hb3
  have DS := DS.below hb3 DS.lt
  clear s0 s1 s2 s3
  obtain ⟨s0, s1, s2, s3⟩ := DS.four
  rcases hor with ⟨hOK, S', fr, L, Y, now, hC, rfl⟩ | ⟨h0, rfl⟩
  · have HC := Lib.hid hC
    clear hC
    go_wp2_with fail
    refine (H2.out _ ((hR.below hb03).more hb03.size)).mono ?_
    rintro e w3 ⟨hb4, ⟨-, S2, fr2, L2, Y2, now2, hC2, rfl⟩ | ⟨h0, -⟩⟩
    rotate_left 1
    · exact absurd (HE.out.2 hOK) h0
    obtain ⟨rfl, -⟩ := HC.out.unique hC2
    have hb04 := below_step hb03 hb4
    have DS := DS.below hb4 DS.lt
    clear s0 s1 s2 s3 hC2
    obtain ⟨s0, s1, s2, s3⟩ := DS.four
    obtain ⟨W, hW⟩ : ∃ W, W = mostL 0 (ggL S2.a) := ⟨_, rfl⟩
    rw [← hW]
    have HW := Lib.hid hW
    clear hW
    go_wp2_with fail
    refine (H3.out _ ((hR.below hb04).more hb04.size)).mono ?_
    rintro e w5 ⟨hb5, ⟨-, S3, fr3, L3, Y3, now3, A1, c1, A2, c2, A3, c3, A4, c4, hC3, rfl, hO⟩ | ⟨h0, -⟩⟩
    rotate_left 1
    · exact absurd (HE.out.2 hOK) h0
    obtain ⟨rfl, rfl⟩ := HC.out.unique hC3
    have hb05 := below_step hb04 hb5
    have DS := DS.below hb5 DS.lt
    clear s0 s1 s2 s3
    obtain ⟨f0, f1, f2, f3, f4, f5, f6, f7⟩ := hC3.free
    obtain ⟨m1, m2, m3⟩ := most_bounds (fun r hr => (f5 r hr).1)
    obtain ⟨l1, l2, l3, l4⟩ := HL.out
    rw [l1] at f1 f2
    rw [l3] at f6
    have hp16 : pn ≤ 16 := by have := hOK.pins.len; omega
    have hb06 := hb05.alloc hb05.size (.cells #[.slice A1 n c1, .slice A2 rn c2, .slice A3 pn c3, .slice A4 hn c4] 28)
    have DG := Blk.new w5 28 #[.slice A1 n c1, .slice A2 rn c2, .slice A3 pn c3, .slice A4 hn c4]
    have DS := DS.alloc (.cells #[.slice A1 n c1, .slice A2 rn c2, .slice A3 pn c3, .slice A4 hn c4] 28)
    obtain ⟨o0, o1, o2, o3⟩ := DG.four
    have HGp := Lib.hid (fun w hr => ggapsE_any A1 n c1 S3.a w hr (own_cap hO.a) (hC3.wf hKw.out))
    have hrB := Reads.of_own (own_below hO.a (below_new w5 (.cells #[.slice A1 n c1, .slice A2 rn c2, .slice A3 pn c3, .slice A4 hn c4] 28)))
    have hck : checkE S3.a = 0 := (cleaned_of hC3.is).laid.check
    rw [hck] at HGp
    rw [← HW.out, ← f4] at m2 m3
    rw [← HW.out] at m1
    generalize (ggL S3.a).length = g at *
    obtain ⟨k, rfl⟩ : ∃ k : Nat, W = k := ⟨W.toNat, by omega⟩
    obtain ⟨f, rfl⟩ : ∃ f : Nat, fr3 = f := ⟨fr3.toNat, by omega⟩
    obtain ⟨v, hv⟩ : ∃ v : Nat, (n : Int) - f = v := ⟨((n : Int) - f).toNat, by omega⟩
    rw [hv]
    have hwa : IntKind.i64.wrap ((v : Int) + f) = n := (IntWalk.i64_in _ (by omega)).trans (by omega)
    obtain ⟨q, hq⟩ : ∃ q : Nat, q = pn + 1 := ⟨_, rfl⟩
    obtain ⟨z, hz⟩ : ∃ z : Nat, z = q * k := ⟨_, rfl⟩
    have hk256 : k ≤ 256 := by omega
    have hz1 : z ≤ 17 * 256 := by rw [hz]; exact Nat.mul_le_mul (by omega) (by omega)
    have hw1 : IntKind.i64.wrap ((pn : Int) + 1) = q := (IntWalk.i64_in _ (by omega)).trans (by omega)
    have hw2 : IntKind.i64.wrap ((q : Int) * k) = z := (by rw [hz]; exact_mod_cast IntWalk.i64_in _ (by omega))
    have hfz : f ≤ z := by
      have h1 : g * k ≤ q * k := Nat.mul_le_mul (by omega) (Nat.le_refl _)
      have h2 : f ≤ g * k := by exact_mod_cast m3
      omega
    have g1 : decide (k ≤ f) = true := decide_eq_true (by omega)
    have g2 : decide (f ≤ z) = true := decide_eq_true hfz
    have g3 : decide (g ≤ q) = true := decide_eq_true (by omega)
    clear hO hC3 HC HW hz hq hz1 hk256 f0 f1 f2 f3 f4 f5 f6 f7 m1 m2 m3 hck l1 l2 l3 l4 hv hOK HE hfz hp16
    go_wp2_with fail
    refine (HGp.out _ hrB).mono ?_
    rintro e w7 ⟨hb7, A10, c10, rfl, -⟩
    have hb07 := below_step hb06 hb7
    have DS := DS.below hb7 DS.lt
    have hx0 := reads_new w7 [.int .i64 0, .int .i64 0] 30 2 1 rfl
    have hbn := below_new w7 (.cells #[.int .i64 0, .int .i64 0] 30)
    have HG := Lib.hid (good_of (some ⟨w7.heap.size, 0, none⟩) 2 2 _ [0, 0] true _ (by decide) (by simpa using hx0) (by decide))
    have hb08 := below_step hb07 hbn
    have DS := DS.alloc (.cells #[.int .i64 0, .int .i64 0] 30)
    obtain ⟨s0, s1, s2, s3⟩ := DS.four
    clear hx0 o0 o1 o2 o3
    go_wp2_with fail
    refine HG.out.mono ?_
    rintro e w8 ⟨rfl, rfl⟩
    go_wp2
    go_ret
    exact ⟨by first | rfl | simp, hb08⟩
  · have g1 : (E != 0) = true := by simpa using h0
    go_wp2_with fail
    refine (H2.out _ ((hR.below hb03).more hb03.size)).mono ?_
    rintro e w3 ⟨hb4, ⟨hOK, -⟩ | ⟨-, rfl⟩⟩
    · exact absurd (HE.out.2 hOK) h0
    have hb04 := below_step hb03 hb4
    clear s0 s1 s2 s3
    go_wp2_with fail
    go_ret
    exact ⟨by first | rfl | simp, hb04⟩

namespace HoldBounds
open Go.ChangeShapes Go.WideShapes Go.ChangeAt Go.RowKit
theorem own : ownKnob Try.prog.godebug = none := by kernel_rfl
theorem laidOut : laidOutB Try.prog = true := by kernel_rfl

set_option maxRecDepth 100000 in
theorem lifted (os : Os) (started : os.Started) (H : Type) (enc : TypeId × Value → H) :
    ReturnsInHanded {} Try.checked os 4 .any (Rows.holdBoundsSpec.pre6 enc Try.prog Try.f4 Rows.holdBoundsRow.domain false) (Rows.holdBoundsSpec.post enc Try.prog Try.f4 false true false false) := by
  refine returnsInHanded_of_change (C := Try.checked) own started (by as_aux_lemma => kernel_rfl) Try.func4
    (ChangeSpec.witness6 (enc := enc) (C := Try.checked) false ⟨#[], #[.agg #[.slice none 0 0, .slice none 0 0, .slice none 0 0, .slice none 0 0]], []⟩ 8 (by as_aux_lemma => kernel_rfl) (by as_aux_lemma => kernel_rfl) (by as_aux_lemma => kernel_rfl) (by as_aux_lemma => kernel_rfl)) ?_
  intro W base args ds gs before hval0 hW hcnd _
  have hval : ∀ (j : Nat) t v, Try.f4.params[j]? = some t → args[j]? = some v → Value.okWide Try.prog W .any base t v := hval0
  have hW' := hW
  obtain ⟨p, q, hA0, hV, rfl, hfz, hnd⟩ := hW
  have hA : DataW.TrodAll enc Try.prog W 0 (fun _ => true) true Try.f4.params.toList args.toList ds p := hA0
  rw [Try.params4] at hA hval
  obtain ⟨v0, vs0, d0, ds0, p0, q0, hargs, rfl, rfl, h0, hA⟩ := trodAll_cons hA
  obtain ⟨rfl, rfl, rfl⟩ := trodAll_nil hA
  obtain rfl : args = #[v0] := by cases args; simp_all
  obtain ⟨A0, n0, c0, RA0, rn0, rc0, PA0, pn0, pc0, HA0, hn0, hc0, S0, rfl, hR0, hK0⟩ := open_store (hval 0 _ v0 rfl rfl) (fun x hx => hW'.lt x (by simp [hx])) h0
  refine (holdBounds_any A0 n0 c0 RA0 rn0 rc0 PA0 pn0 pc0 HA0 hn0 hc0 S0 W hR0 hK0).mono fun e W' ⟨he, hb⟩ => ?_
  subst he
  exact ⟨_, rfl, law_post laidOut Try.underlying4 rfl (by as_aux_lemma => kernel_rfl) rfl rfl hW' hb⟩

set_option maxHeartbeats 10000000 in
theorem closed : joinedFacts Try.prog 4 Try.f4 Rows.holdBoundsSpec Rows.holdBoundsRow = true := by
  unfold joinedFacts
  simp only [Bool.and_eq_true]
  repeat' apply And.intro
  all_goals as_aux_lemma => kernel_rfl

set_option maxHeartbeats 1000000 in
theorem proved : Rows.HoldBoundsSaid :=
  OpenClaim.holds_of_wide 4 Try.f4 rfl rfl rfl rfl rfl rfl rfl ⟨rfl, rfl, rfl, rfl, rfl⟩ rfl rfl rfl rfl rfl (by as_aux_lemma => kernel_rfl) Try.func4 closed
    (of_decide_eq_true (by as_aux_lemma => kernel_rfl)) (by unfold Func.isWrapper; first | (rw [if_pos (by decide +kernel)]; kernel_rfl) | (rw [if_neg (by decide +kernel)]; exact ⟨rfl, rfl⟩))
    (fun os started H enc _ => lifted os started H enc)
end HoldBounds
end Go.Proofs.Ytbhbgdlnfobjaaa
