/-
  package spot: Runs.
-/
import Derived.Test.YtdaanmmffiicdaaDoorSpotFn2
import Derived.Test.YtdaanmmffiicdaaDoorRunsLaw
import Derived.Test.YtdaanmmffiicdaaDoorSlicesRun
namespace Go.Proofs.YtdaanmmffiicdaaDoor
open Go.RowKit

theorem info_run2 : (Tryd.prog.info? 41).map (fun i => (i.zero, i.size, i.bytes)) = some (some (.agg #[.int .i64 0, .int .i64 0]), 2, 16) := by kernel_rfl

set_option maxHeartbeats 1000000 in
theorem mRuns_bad (A : Option Addr) (n c B : Nat) (m : List Int) (z : Int) (w : World) (hr : Reads w B 1 A n (m.map (.int .u64))) (hn : n ≤ 9223372036854775807) (hm : U64s m) (hE : mchkE m z ≠ 0) :
    Calls Tryd.prog 13 #[.slice A n c, .int .i64 z] w fun e w' => e = .returned (.tuple #[.slice none 0 0, .int .i64 (mchkE m z)]) ∧ w' = w := by
  have H := mcheck_any A n c B m z w hr hn hm
  generalize mchkE m z = E at *
  have hE1 : (E != 0) = true := by simpa using hE
  have H := Lib.hid H
  clear hE hm
  go_enter Tryd.func13, Tryd.ntmps13
  go_wp2_with fail
  refine H.out.mono ?_
  rintro e w' ⟨rfl, rfl⟩
  go_wp2
  go_ret2
  exact ⟨rfl, rfl⟩

set_option maxRecDepth 100000 in
set_option maxHeartbeats 2000000 in
theorem mRuns_ok (A : Option Addr) (n c : Nat) (m : List Int) (N : Nat) (w : World) (hr : Reads w w.heap.size 1 A n (m.map (.int .u64))) (hm : U64s m) (hE : mchkE m N = 0) (hT : Tab w) :
    Calls Tryd.prog 13 #[.slice A n c, .int .i64 N] w fun e w' => Below w.heap.size w w' ∧ ∃ A' c' l, e = .returned (.tuple #[.slice A' l.length c', .int .i64 0]) ∧ w'.ownsRow w.heap.size 41 2 (.slice A' l.length c') l.length (runsC l) ∧ Part m N 0 l N := by
  have hl : m.length = n := by have := hr.1; simpa using this
  obtain ⟨N', h1, hN, hlen, -⟩ := mchkE_ok hE
  obtain rfl : N = N' := by omega
  have H := mcheck_any A n c w.heap.size m N w hr (by omega) hm
  rw [hE] at H
  have H := Lib.hid H
  have HX := Lib.hid (fun a on (w' : World) hr ha hT => next_any A n c w.heap.size m N a on w' hr hN (by omega) ha hm hT)
  have HT := Lib.hid hT
  obtain ⟨i0, hi, hz0, hz1, hz2⟩ := info_parts info_run2
  clear hE h1 hl hlen hm hT
  go_enter Tryd.func13, Tryd.ntmps13
  go_wp2_with fail
  refine H.out.mono ?_
  rintro e w' ⟨rfl, rfl⟩
  go_wp2_with fail
  refine (HX.out 0 true _ hr (Nat.zero_le _) HT.out).mono ?_
  rintro e w' ⟨⟨k0, rfl, hk0⟩, rfl⟩
  have HK0 := Lib.hid hk0
  clear hk0
  go_wp2
  go_loopw [7, 8, 9] (fun o i _ wr => ∃ (k : Nat) (A' : Option Addr) (q c' : Nat) (acc : List Rn), k ≤ N ∧ q ≤ k ∧ i = .int .i64 k ∧ o = .slice A' q c' ∧ Hid (q = acc.length) ∧ Hid (Part m N 0 acc k) ∧ Hid (k < N → mk m k = true) ∧
    wr.ownsRow w'.heap.size 41 2 (.slice A' q c') q (runsC acc) ∧ Below w'.heap.size w' wr) (fun _ i _ _ => N - (intOf i).toNat)
  case atStart => exact ⟨k0, none, 0, 0, [], HK0.out.2.1, Nat.zero_le _, rfl, rfl, rfl, ⟨Nat.zero_le _, fun j a1 a2 => by have := HK0.out.2.2.1 j a1 a2; simpa using this⟩, HK0.out.2.2.2, World.ownsRow_nil _ _ _ _, Below.refl _ _⟩
  case round =>
    obtain ⟨k, A', q, c', acc, hkN, hqk, rfl, rfl, hq, hP, hM, hown, hb⟩ := hrel
    by_cases hlt : k < N
    · have H1 := Lib.hid (HX.out k false wr (hr.below hb) (by omega) (HT.out.below hb))
      go_wp2_with fail
      refine H1.out.mono ?_
      rintro e wq ⟨⟨e, rfl, he⟩, rfl⟩
      obtain ⟨e1, e2, e3, e4⟩ := he
      have hke : k < e := by
        rcases Nat.lt_or_ge k e with h | h
        · exact h
        · have h9 : e = k := by omega
          have := e4 (by omega)
          rw [h9, hM.out hlt] at this
          cases this
      have HP2 : Hid (Part m N 0 (acc ++ [⟨k, ((e - k : Nat) : Int)⟩]) e) := hP.out.snoc hke e2 (fun j a1 a2 => by have := e3 j a1 a2; simpa using this) (fun h => e4 h)
      have hw : IntKind.i64.wrap ((e : Int) - k) = ((e - k : Nat) : Int) := by rw [IntWalk.i64_in _ (by omega)]; omega
      obtain ⟨d, hd⟩ : ∃ d, d = e - k := ⟨_, rfl⟩
      rw [← hd] at hw HP2
      have hb2 := hb.alloc hb.size (.cells #[.int .i64 k, .int .i64 d] 41)
      have hown2 := hown.alloc (.cells #[.int .i64 k, .int .i64 d] 41)
      have hnew := reads_new wq (runC ⟨k, d⟩) 41 1 2 rfl
      have HD := Lib.hid hd
      clear e3 e4 hown hd
      go_wp2_with (at_builtin; refine wpList_append_any _ rfl (.tmp 26) (.tmp 32) 37 rfl w'.heap.size 41 i0 _ 2 16 Tryd.underlying37 hi hz0 hz1 hz2 rfl (by decide) (.slice A' q c') q _ rfl hown2 (wq.heap.size + 1) (some ⟨wq.heap.size, 0, none⟩) 1 1 (runC ⟨k, d⟩) rfl hnew (by simp [runC, Value.oneCell']) (by simp [maxLen]; omega) (by omega) (by have := hb2.size; exact this) ?_; rintro v' w3 hown3 hgr hbl -; obtain ⟨A'', c'', rfl⟩ := own_slice hown3)
      have hb3 : Below w'.heap.size w' w3 := hb2.grown hgr hb2.size (fun g hg => (hown2.lt g hg).1)
      have H3 := Lib.hid (HX.out e true w3 (hr.below hb3) e2 (HT.out.below hb3))
      refine H3.out.mono ?_
      rintro e9 w4 ⟨⟨k2, rfl, hk2⟩, rfl⟩
      obtain ⟨f1, f2, f3, f4⟩ := hk2
      have HP3 := Lib.hid (HP2.out.ext f1 (fun j a1 a2 => by have := f3 j a1 a2; simpa using this))
      have HF4 := Lib.hid f4
      clear f3 f4
      go_wp2
      go_roundw
      case rel => exact ⟨k2, A'', q + 1, c'', acc ++ [⟨k, d⟩], f2, by omega, rfl, rfl, by show _ = _; rw [List.length_append, ← hq.out]; rfl, HP3, HF4, by rw [runsC_snoc]; exact hown3, hb3⟩
      case measure => simp [intOf]; omega
    · have hkk : k = N := by omega
      subst hkk
      go_wp2
      go_ret2
      exact ⟨hb, A', c', acc, by rw [← hq.out]; rfl, by rw [← hq.out]; exact hown, hP.out⟩
end Go.Proofs.YtdaanmmffiicdaaDoor
