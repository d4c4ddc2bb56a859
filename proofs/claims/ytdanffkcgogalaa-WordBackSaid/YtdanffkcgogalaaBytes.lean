/-
  package word: Bytes, Words.
-/
import Derived.Test.YtdanffkcgogalaaWord
import Derived.Test.YtdanffkcgogalaaBytesLaw
import Derived.Laws.IdiomStrings
import Derived.Lib.BufferRead
namespace Go.Proofs.Ytdanffkcgogalaa
open Go.RowKit

def byteC (l : List UInt8) : List Value := l.map fun c => .int .u8 (c.toNat : Int)
theorem info_u8 : (Try.prog.info? 5).map (fun i => (i.zero, i.size, i.bytes)) = some (some (.int .u8 0), 1, 1) := by kernel_rfl

theorem bytes_string (w : World) (base : Nat) (A : Option Addr) (k c : Nat) (l : List UInt8) (hk : k = l.length) (h : w.ownsRow base 5 1 (.slice A k c) k (byteC l)) :
    (convert 75 9 (.slice A k c)).run Try.prog w = .ok (.string ⟨l.toArray⟩) w := by
  subst hk
  rcases A with _ | ad
  · have h0 : l.length = 0 := by
      rcases Nat.eq_zero_or_pos l.length with h0 | h0
      · exact h0
      · obtain ⟨g, cap, hv, _⟩ := h.form h0
        cases hv
    obtain rfl := List.length_eq_zero_iff.1 h0
    exact Lib.run_convert_nil_bytes w _ _ 5 _ Try.underlying75 Try.underlying5 Try.underlying9
  · refine run_convert_bytes_back w _ _ 5 _ _ l Try.underlying75 Try.underlying5 Try.underlying9 (fun j hj => ?_)
    obtain ⟨ad', e, _, hc⟩ := (Reads.of_own h).2 (by omega)
    obtain rfl := Option.some.inj e
    exact hc j _ (by simp [byteC, hj])

def bytesE (a : List Int) : Int := if 256 < a.length then 2 else 0

set_option maxHeartbeats 400000 in
theorem bytes_big (A : Option Addr) (n c : Nat) (w : World) (hn : 256 < n) :
    Calls Try.prog 22 #[.slice A n c] w fun e w' => e = .returned (.tuple #[.string ⟨#[]⟩, .int .i64 2]) ∧ w = w' := by
  go_enter Try.func22, Try.ntmps22
  go_wp2_with (go_at_call 31; refine (stretches_big _ _ _ _ _ _ hn).mono ?_; rintro e w1 ⟨rfl, rfl⟩)
  go_ret2
  exact ⟨rfl, rfl⟩

theorem le8_take_succ (v : Int) (k : Nat) (h : k < 8) : (le8 v).take (k + 1) = (le8 v).take k ++ [byteAt v k] := by
  rw [List.take_succ_eq_append_getElem (by rw [le8_length]; exact h)]
  simp [le8]

set_option maxRecDepth 100000 in
set_option maxHeartbeats 1000000 in
theorem bytes_ok (A : Option Addr) (n c : Nat) (a : List Int) (w : World) (hr : Reads w w.heap.size 1 A n (a.map (.int .u64))) (hn : n ≤ 256) (ha : ∀ x ∈ a, (Lit.int .u64 x).wf = true) :
    Calls Try.prog 22 #[.slice A n c] w fun e w' => e = .returned (.tuple #[.string ⟨(bytesL a).toArray⟩, .int .i64 0]) ∧ Below w.heap.size w w' := by
  have hal : a.length = n := by have := hr.1; simpa using this
  have HL := Lib.hid hal
  obtain ⟨i0, hi, hz0, hz1, hz2⟩ := info_parts info_u8
  clear hal
  have H0 := Lib.hid (stretches_any A n c 0 0 none 0 0 [] w hn (by omega) Reads.none_ (by omega) (by simp))
  go_enter Try.func22, Try.ntmps22
  go_wp2_with (go_at_call 31; refine H0.out.mono ?_; rw [show stretchF (n : Int) 0 [] = 0 from rfl]; rintro e w1 ⟨rfl, rfl⟩)
  go_loopw [5, 16] (fun o i wr => ∃ (j : Nat) (A' : Option Addr) (k c' : Nat), j ≤ n ∧ i = .int .i64 j ∧ o = .slice A' k c' ∧ k ≤ 2048 ∧ Hid (k = 8 * j) ∧ wr.ownsRow w.heap.size 5 1 (.slice A' k c') k (byteC (bytesL (a.take j))) ∧ Below w.heap.size w wr) (fun _ i _ => n - (intOf i).toNat)
  case atStart => exact ⟨0, none, 0, 0, Nat.zero_le _, rfl, rfl, Nat.zero_le _, rfl, World.ownsRow_nil _ _ _ _, Below.refl _ _⟩
  case round =>
    obtain ⟨j, A', k, c', hj, rfl, rfl, hk1, hk, hown, hb⟩ := hrel
    by_cases hlt : j < n
    · obtain ⟨ad, v, rfl, had, hv, hc⟩ := (hr.below hb).num hlt
      have HQ : Hid (bytesL (a.take (j + 1)) = bytesL (a.take j) ++ le8 v) := by
        show _ = _
        obtain ⟨hl, rfl⟩ := List.getElem?_eq_some_iff.1 hv
        rw [List.take_succ_eq_append_getElem hl]
        unfold bytesL
        rw [List.flatMap_append]
        simp
      obtain ⟨v0, v1⟩ : 0 ≤ v ∧ v < 18446744073709551616 := by have := ha v (List.mem_of_getElem? hv); simp [Lit.wf, IntKind.min, IntKind.max, IntKind.signed, IntKind.bits] at this; omega
      clear hv
      obtain ⟨wo, rfl⟩ : ∃ wo : World, wo = wr := ⟨_, rfl⟩
      go_wp2
      go_loopw [5, 8, 20] (fun o _ i wr => ∃ (p : Nat) (A' : Option Addr) (q c' : Nat), p ≤ 8 ∧ i = .int .i64 p ∧ o = .slice A' q c' ∧ q ≤ 2048 ∧ Hid (q = k + p) ∧ wr.ownsRow w.heap.size 5 1 (.slice A' q c') q (byteC (bytesL (a.take j) ++ (le8 v).take p)) ∧ Below w.heap.size w wr) (fun _ _ i _ => 8 - (intOf i).toNat)
      case atStart => exact ⟨0, A', k, c', Nat.zero_le _, rfl, rfl, hk1, rfl, by simpa using hown, hb⟩
      case round =>
        obtain ⟨p, A2, q, c2, hp, rfl, rfl, hq1, hq, hown2, hb2⟩ := hrel
        by_cases hlt2 : p < 8
        · have hq8 : q < 2048 := by have := hq.out; have := hk.out; omega
          have HB : Hid (((byteAt v p).toNat : Int) = v / 2 ^ (8 * p) % 256) := byteAt_val v p
          have hown3 := hown2.alloc (.cells #[.int .u8 (v / 2 ^ (8 * p) % 256)] 5)
          have hb3 := hb2.alloc hb2.size (.cells #[.int .u8 (v / 2 ^ (8 * p) % 256)] 5)
          have hnew := reads_new wr [.int .u8 (v / 2 ^ (8 * p) % 256)] 5 1 1 rfl
          clear hown2 hb2 hown hb
          go_wp2_with (at_builtin; refine wpList_append_any _ rfl (.tmp 23) (.tmp 29) 75 rfl w.heap.size 5 i0 (.int .u8 0) 1 1 Try.underlying75 hi hz0 hz1 hz2 rfl (by decide) (.slice A2 q c2) q _ rfl hown3 (wr.heap.size + 1) (some ⟨wr.heap.size, 0, none⟩) 1 1 [.int .u8 (v / 2 ^ (8 * p) % 256)] rfl hnew (by simp [Value.oneCell']) (by simp [maxLen]; omega) (by omega) (by have := hb3.size; exact this) ?_; rintro v' w4 hown4 hgr hbl -; obtain ⟨A3, c3, rfl⟩ := own_slice hown4)
          have hb4 : Below w.heap.size w w4 := hb3.grown hgr hb3.size (fun g hg => (hown3.lt g hg).1)
          go_roundw
          case rel => exact ⟨p + 1, A3, q + 1, c3, by omega, by go_num, rfl, by omega, by show _ = _; rw [hq.out]; omega, by rw [le8_take_succ _ _ hlt2, ← List.append_assoc, byteC, List.map_append]; show w4.ownsRow _ _ _ _ _ (_ ++ [.int .u8 ((byteAt v p).toNat : Int)]); rw [HB.out]; exact hown4, hb4⟩
          case measure => simp [intOf]; omega
        · have hp8 : p = 8 := by omega
          subst hp8
          rw [show (le8 v).take 8 = le8 v from List.take_of_length_le (by rw [le8_length]; exact Nat.le_refl _), ← HQ.out] at hown2
          go_wp2
          go_roundw
          case rel => exact ⟨j + 1, A2, q, c2, by omega, by go_num, rfl, hq1, by show _ = _; rw [hq.out, hk.out]; omega, hown2, hb2⟩
          case measure => simp [intOf]; omega
    · have hjn : j = n := by omega
      subst hjn
      rw [List.take_of_length_le (by rw [HL.out]; exact Nat.le_refl _)] at hown
      have hcv := bytes_string wr _ A' k c' (bytesL a) (by rw [hk.out, bytesL_length, HL.out]) hown
      go_wp2
      go_ret2
      exact ⟨rfl, hb⟩
end Go.Proofs.Ytdanffkcgogalaa
