/-
  package spot: Check, Has, Count.
-/
import Derived.Test.YtbmkbnalembbjaaDoorSpotFn
import Derived.Test.YtbmkbnalembbjaaDoorMarksLaw
namespace Go.Proofs.YtbmkbnalembbjaaDoor
open Go.RowKit

def U64s (m : List Int) : Prop := ∀ x ∈ m, (Lit.int .u64 x).wf = true

set_option maxHeartbeats 1000000 in
theorem mcheck_any (A : Option Addr) (n c B : Nat) (m : List Int) (z : Int) (w : World) (hr : Reads w B 1 A n (m.map (.int .u64))) (hn : n ≤ 9223372036854775807) (hm : U64s m) :
    Calls Tryd.prog 35 #[.slice A n c, .int .i64 z] w fun e w' => e = .returned (.int .i64 (mchkE m z)) ∧ w' = w := by
  have hl : m.length = n := by have := hr.1; simpa using this
  by_cases h1 : z < 0
  · have hE : mchkE m z = 4 := by unfold mchkE; rw [if_pos (.inl h1)]
    rw [hE]
    clear hE hm hl
    go_enter Tryd.func35, Tryd.ntmps35
    go_wp2
    go_ret
    exact ⟨rfl, rfl⟩
  · by_cases h2 : 256 < z
    · have hE : mchkE m z = 4 := by unfold mchkE; rw [if_pos (.inr h2)]
      rw [hE]
      clear hE hm hl
      go_enter Tryd.func35, Tryd.ntmps35
      go_wp2
      go_ret
      exact ⟨rfl, rfl⟩
    · obtain ⟨N, rfl⟩ : ∃ N : Nat, z = N := ⟨z.toNat, by omega⟩
      have w1 : IntKind.i64.wrap ((N : Int) + 63) = (N : Int) + 63 := IntWalk.i64_in _ (by omega)
      obtain ⟨q, hq⟩ : ∃ q : Nat, q = (N + 63) / 64 := ⟨_, rfl⟩
      have w2 : ((N : Int) + 63) / 64 = (q : Int) := by omega
      by_cases h3 : n = (N + 63) / 64
      · have hE : mchkE m N = if lastOver m N = true then 3 else 0 := by unfold mchkE; rw [if_neg (by omega), if_neg (by omega), Int.toNat_natCast]
        have hqn : q = n := by omega
        rw [hqn] at w2
        clear hq hqn
        by_cases h4 : N % 64 = 0
        · have hL : lastOver m N = false := by unfold lastOver; rw [decide_eq_false (by omega)]; rfl
          rw [hE, hL]
          have h4n : ((N : Int) % 64 != 0) = false := by simp; omega
          have h4m : (((N % 64 : Nat) : Int) != 0) = false := by simp [h4]
          have H3 := Lib.hid h3
          clear hE hL hm hl h3 h4
          go_enter Tryd.func35, Tryd.ntmps35
          go_wp2
          go_ret
          exact ⟨rfl, rfl⟩
        · have hn0 : n - 1 < n := by omega
          obtain ⟨ad, x, rfl, _, hx, hc⟩ := hr.num hn0
          have hwf := hm x (List.mem_of_getElem? hx)
          have hx0 : 0 ≤ x ∧ x < 18446744073709551616 := by simp [Lit.wf, IntKind.min, IntKind.max, IntKind.signed, IntKind.bits] at hwf; omega
          obtain ⟨X, rfl⟩ : ∃ X : Nat, x = X := ⟨x.toNat, by omega⟩
          obtain ⟨Z, hZ⟩ : ∃ Z : Nat, Z = X / 2 ^ (N % 64) := ⟨_, rfl⟩
          have e1 : ((X : Nat) : Int) / 2 ^ (N % 64) = (Z : Int) := by rw [hZ]; simp
          have hL : lastOver m N = (Z != 0) := by
            unfold lastOver
            rw [decide_eq_true h4, Bool.true_and, hl, List.getD_eq_getElem?_getD, hx, hZ]
            rfl
          rw [hE, hL]
          have h4n : ((N : Int) % 64 != 0) = true := by simp; omega
          have h4m : (((N % 64 : Nat) : Int) != 0) = true := by simp; omega
          have w3 : IntKind.i64.wrap ((n : Int) - 1) = ((n - 1 : Nat) : Int) := by rw [IntWalk.i64_in _ (by omega)]; omega
          have h5 : ((n - 1 : Nat) : Int) < n := by omega
          have H3 := Lib.hid h3
          obtain ⟨p, hp⟩ : ∃ p, p = n - 1 := ⟨_, rfl⟩
          rw [← hp] at hc w3 h5
          clear hE hL hm hl h3 h4 hx hwf hn0 hp hZ
          cases hz : (Z != 0)
          · have hz2 : ((Z : Int) != 0) = false := by have : Z = 0 := by simpa using hz
                                                      simp [this]
            clear hz
            go_enter Tryd.func35, Tryd.ntmps35
            go_wp2
            go_ret
            exact ⟨rfl, rfl⟩
          · have hz2 : ((Z : Int) != 0) = true := by have : Z ≠ 0 := by simpa using hz
                                                     simp [this]
            clear hz
            go_enter Tryd.func35, Tryd.ntmps35
            go_wp2
            go_ret
            exact ⟨rfl, rfl⟩
      · have hE : mchkE m N = 3 := by unfold mchkE; rw [if_neg (by omega), if_pos (by omega)]
        rw [hE]
        have h3q : ((n : Int) != (q : Int)) = true := by simp; omega
        have H3 := Lib.hid h3
        clear hE hm hl h3 hq
        go_enter Tryd.func35, Tryd.ntmps35
        go_wp2
        go_ret
        exact ⟨rfl, rfl⟩

set_option maxHeartbeats 1000000 in
theorem mstretch_any (A : Option Addr) (n c B : Nat) (m : List Int) (z a l : Int) (w : World) (hr : Reads w B 1 A n (m.map (.int .u64))) (hn : n ≤ 9223372036854775807) (hm : U64s m) :
    Calls Tryd.prog 23 #[.slice A n c, .int .i64 z, .int .i64 a, .int .i64 l] w fun e w' => e = .returned (.int .i64 (mstE m z a l)) ∧ w' = w := by
  have H := mcheck_any A n c B m z w hr hn hm
  by_cases hC : mchkE m z = 0
  · have hE : mstE m z a l = if l < 0 ∨ a < 0 ∨ z < a ∨ z - a < l then 4 else 0 := by unfold mstE; rw [if_neg (by simp [hC])]
    obtain ⟨N, rfl, hN, -, -⟩ := mchkE_ok hC
    rw [hC] at H
    have H := Lib.hid H
    rw [hE]
    clear hE hC hm
    by_cases h1 : l < 0
    · rw [if_pos (.inl h1)]
      go_enter Tryd.func23, Tryd.ntmps23
      go_wp2_with (go_at_call 35; refine H.out.mono ?_; rintro e w' ⟨rfl, rfl⟩)
      go_ret
      exact ⟨rfl, rfl⟩
    · by_cases h2 : a < 0
      · rw [if_pos (.inr (.inl h2))]
        go_enter Tryd.func23, Tryd.ntmps23
        go_wp2_with (go_at_call 35; refine H.out.mono ?_; rintro e w' ⟨rfl, rfl⟩)
        go_ret
        exact ⟨rfl, rfl⟩
      · by_cases h3 : (N : Int) < a
        · rw [if_pos (.inr (.inr (.inl h3)))]
          go_enter Tryd.func23, Tryd.ntmps23
          go_wp2_with (go_at_call 35; refine H.out.mono ?_; rintro e w' ⟨rfl, rfl⟩)
          go_ret
          exact ⟨rfl, rfl⟩
        · have w1 : IntKind.i64.wrap ((N : Int) - a) = (N : Int) - a := IntWalk.i64_in _ (by omega)
          by_cases h4 : (N : Int) - a < l
          · rw [if_pos (.inr (.inr (.inr h4)))]
            go_enter Tryd.func23, Tryd.ntmps23
            go_wp2_with (go_at_call 35; refine H.out.mono ?_; rintro e w' ⟨rfl, rfl⟩)
            go_ret
            exact ⟨rfl, rfl⟩
          · rw [if_neg (by omega)]
            go_enter Tryd.func23, Tryd.ntmps23
            go_wp2_with (go_at_call 35; refine H.out.mono ?_; rintro e w' ⟨rfl, rfl⟩)
            go_ret
            exact ⟨rfl, rfl⟩
  · have hE : mstE m z a l = mchkE m z := by unfold mstE; rw [if_pos hC]
    rw [hE]
    generalize mchkE m z = E at *
    have hE1 : (E == 0) = false := by simpa using hC
    have H := Lib.hid H
    clear hE hC hm
    go_enter Tryd.func23, Tryd.ntmps23
    go_wp2_with (go_at_call 35; refine H.out.mono ?_; rintro e w' ⟨rfl, rfl⟩)
    go_ret
    exact ⟨rfl, rfl⟩

/-- spot.Has: what it answers. -/
def hasV (m : List Int) (z a : Int) : Bool := if mstE m z a 1 = 0 then mk m a.toNat else false
set_option maxHeartbeats 1000000 in
theorem mHas_any (A : Option Addr) (n c B : Nat) (m : List Int) (z a : Int) (w : World) (hr : Reads w B 1 A n (m.map (.int .u64))) (hn : n ≤ 9223372036854775807) (hm : U64s m) :
    Calls Tryd.prog 10 #[.slice A n c, .int .i64 z, .int .i64 a] w fun e w' => e = .returned (.tuple #[.bool (hasV m z a), .int .i64 (mstE m z a 1)]) ∧ w' = w := by
  have H := mstretch_any A n c B m z a 1 w hr hn hm
  have hl : m.length = n := by have := hr.1; simpa using this
  by_cases hE : mstE m z a 1 = 0
  · have hV : hasV m z a = mk m a.toNat := by unfold hasV; rw [if_pos hE]
    obtain ⟨N, K, L, rfl, rfl, hL, hN, hlen, -, hKL, -⟩ := mstE_ok hE
    have H2 := Lib.hid (has_any A n c B m K w hr (by omega) (by omega) hm)
    rw [hV, Int.toNat_natCast, hE]
    rw [hE] at H
    generalize mk m K = b at *
    have H := Lib.hid H
    clear hE hV hm hl hlen hKL hL
    go_enter Tryd.func10, Tryd.ntmps10
    go_wp2_with (first | (go_at_call 23; refine H.out.mono ?_; rintro e w' ⟨rfl, rfl⟩) | (go_at_call 26; refine H2.out.mono ?_; rintro e w' ⟨rfl, rfl⟩))
    go_ret2
    exact ⟨rfl, rfl⟩
  · have hV : hasV m z a = false := by unfold hasV; rw [if_neg hE]
    rw [hV]
    generalize mstE m z a 1 = E at *
    have hE1 : (E != 0) = true := by simpa using hE
    have H := Lib.hid H
    clear hE hV hm hl
    go_enter Tryd.func10, Tryd.ntmps10
    go_wp2_with (go_at_call 23; refine H.out.mono ?_; rintro e w' ⟨rfl, rfl⟩)
    go_ret2
    exact ⟨rfl, rfl⟩

/-- spot.Count: what it answers. -/
def cntV (m : List Int) (z a l : Int) : Int := if mstE m z a l = 0 then (cnt m a.toNat l.toNat : Int) else 0
set_option maxRecDepth 100000 in
set_option maxHeartbeats 1000000 in
theorem mCount_any (A : Option Addr) (n c B : Nat) (m : List Int) (z a l : Int) (w : World) (hr : Reads w B 1 A n (m.map (.int .u64))) (hn : n ≤ 9223372036854775807) (hm : U64s m) (hT : Tab w) :
    Calls Tryd.prog 8 #[.slice A n c, .int .i64 z, .int .i64 a, .int .i64 l] w fun e w' => e = .returned (.tuple #[.int .i64 (cntV m z a l), .int .i64 (mstE m z a l)]) ∧ w' = w := by
  have H := mstretch_any A n c B m z a l w hr hn hm
  have hl : m.length = n := by have := hr.1; simpa using this
  by_cases hE : mstE m z a l = 0
  · obtain ⟨N, K, L, rfl, rfl, rfl, hN, hlen, -, hKL, -⟩ := mstE_ok hE
    have hV : cntV m N K L = (cnt m K L : Int) := by unfold cntV; rw [if_pos hE, Int.toNat_natCast, Int.toNat_natCast]
    rw [hV, hE]
    rw [hE] at H
    have H := Lib.hid H
    have HN := Lib.hid (fun s hs => next_any A n c B m N s true w hr hN (by omega) hs hm hT)
    have HT := Lib.hid hT
    have hs1 : IntKind.i64.wrap ((K : Int) + L) = (K : Int) + L := IntWalk.i64_in _ (by omega)
    clear hE hV hm hl hlen hT
    go_enter Tryd.func8, Tryd.ntmps8
    go_wp2_with fail
    refine H.out.mono ?_
    rintro e w' ⟨rfl, rfl⟩
    go_wp2_with fail
    refine (HN.out K (by omega)).mono ?_
    rintro e w2 ⟨⟨k, rfl, hk⟩, rfl⟩
    have HK := Lib.hid hk
    clear hk
    go_wp2
    go_loop [11, 12] (fun q i => ∃ s k q0 : Nat, K ≤ s ∧ s ≤ K + L ∧ i = .int .i64 k ∧ q = .int .i64 q0 ∧ q0 ≤ s - K ∧ Hid (q0 = cnt m K (s - K)) ∧ Hid (Nx m N s true k)) (fun _ i => 512 - (intOf i).toNat)
    case atStart => exact ⟨K, k, 0, Nat.le_refl _, by omega, rfl, rfl, by omega, by show _ = _; rw [Nat.sub_self]; rfl, HK.out⟩
    case round =>
      obtain ⟨s, k, q, hs0, hs2, rfl, rfl, hq, hQ, hNx⟩ := hrel
      obtain ⟨n1, n2, n3, n4⟩ := hNx.out
      by_cases hlt : k < K + L
      · have hlt2 : (k : Int) < (K : Int) + L := by omega
        have hQ2 : Hid (q + 1 = cnt m K (k + 1 - K)) := by
          show _ = _
          rw [cnt_next hs0 n1 n3 (n4 (by omega)), hQ.out]
        have HN2 := Lib.hid (HN.out (k + 1) (by omega))
        have w5 : IntKind.i64.wrap ((k : Int) + 1) = ((k + 1 : Nat) : Int) := by rw [IntWalk.i64_in _ (by omega)]; rfl
        clear n3 n4
        go_wp2_with fail
        refine HN2.out.mono ?_
        rintro e w3 ⟨⟨k2, rfl, hk2⟩, rfl⟩
        go_wp2
        go_round
        case rel => exact ⟨k + 1, k2, q + 1, by omega, by omega, rfl, by go_num, by omega, hQ2, hk2⟩
        case measure => have := hk2.1; have := hk2.2.1; simp [intOf]; omega
      · have hlt2 : ¬ (k : Int) < (K : Int) + L := by omega
        have hQ2 : Hid (cnt m K L = q) := by
          show _ = _
          have := cnt_stop hs0 hs2 (fun j a1 a2 => n3 j a1 (by omega))
          rw [show K + L - K = L by omega] at this
          rw [this, hQ.out]
        clear n3 n4
        go_wp2
        go_ret2
        rw [hQ2.out]
        exact ⟨rfl, rfl⟩
  · have hV : cntV m z a l = 0 := by unfold cntV; rw [if_neg hE]
    rw [hV]
    generalize mstE m z a l = E at *
    have hE1 : (E != 0) = true := by simpa using hE
    have H := Lib.hid H
    clear hE hV hm hl hT
    go_enter Tryd.func8, Tryd.ntmps8
    go_wp2_with (go_at_call 23; refine H.out.mono ?_; rintro e w' ⟨rfl, rfl⟩)
    go_ret2
    exact ⟨rfl, rfl⟩
end Go.Proofs.YtbmkbnalembbjaaDoor
