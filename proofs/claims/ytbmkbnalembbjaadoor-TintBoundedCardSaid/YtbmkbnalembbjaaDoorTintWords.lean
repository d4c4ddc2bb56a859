/-
  tint.Words; the closed fact 'tints'.
-/
import Derived.Test.YtbmkbnalembbjaaDoorTintReach
namespace Go.Proofs.YtbmkbnalembbjaaDoor
open Go.RowKit

def longW (S : List Spot) (x : Int) : Int := match spotAt S x with | some s => s.long | none => 0
def longsL (S : List Spot) : List Int → Int
  | [] => 0
  | x :: t => longW S x + longsL S t
theorem longsL_snoc (S : List Spot) (l : List Int) (x : Int) : longsL S (l ++ [x]) = longsL S l + longW S x := by
  induction l with
  | nil => simp [longsL]
  | cons y l ih => simp only [List.cons_append, longsL, ih]; omega

set_option maxHeartbeats 1000000 in
theorem long_any (gh b : Nat) (A Ao : Option Addr) (n c k co : Nat) (a : List Int) (S : List Spot) (s : Spot) (w : World) (hBh : Blk w gh 53 #[.slice A n c, .map (some b), .slice Ao k co]) (hM : MapIs w Tryd.prog 3 .i64 b 300 (headF S))
    (hs : spotAt S s.loc = some s) (hok : SpotOk a s) (hl : a.length ≤ 256) :
    Calls Tryd.prog 22 #[.pointer (some ⟨gh, 0, none⟩), .int .i64 s.loc] w fun e w' => e = .returned (.int .i64 s.long) ∧ Below w.heap.size w w' := by
  have l0 := hok.loc0
  have r0 := hok.r0
  have b0 := hok.b0
  have ft := hok.fits
  have e1 : headF S s.loc = some (headC s) := by unfold headF; rw [hs]; rfl
  have HL := hM.look (k := 3) (t := 51) Tryd.underlying3 Tryd.underlying51 (zero_head _) (x := s.loc) (by unfold Spot.long at ft; simp [Lit.wf, IntKind.min, IntKind.max, IntKind.signed, IntKind.bits]; omega)
  rw [e1] at HL
  have HH := Lib.hid (fun w => hlongc_ok s.r s.b s.t s.f w hok.head)
  have k1 := hBh.cell 1
  simp only [List.getElem?_toArray, List.getElem?_cons_zero, List.getElem?_cons_succ] at k1
  obtain ⟨loc, r, bb, t, fr⟩ := s
  have hlook2 : (Instr.lookup 51 (.map (some b)) (.int .i64 loc) false).run Tryd.prog w = .ok (.agg #[.int .i64 r, .int .i64 bb, .int .i64 t, .bool fr]) w := HL
  unfold Spot.long
  dsimp only at *
  clear HL e1 hM hs hok ft l0
  generalize 1 + r + bb = z at *
  go_enter Tryd.func22, Tryd.ntmps22
  go_wp2_with (go_at_call 34; refine (HH.out _).mono ?_; rintro e w1 ⟨rfl, hb1⟩)
  go_ret
  exact ⟨rfl, hb1⟩

set_option maxRecDepth 100000 in
set_option maxHeartbeats 1000000 in
theorem twords_ok (A : Option Addr) (n c : Nat) (a : List Int) (A2 : Option Addr) (n2 c2 : Nat) (f L : List Int) (w : World) (hr : Reads w w.heap.size 1 A n (a.map (.int .u64))) (hnc : n ≤ c) (ha : ∀ x ∈ a, (Lit.int .u64 x).wf = true)
    (hr2 : Reads w w.heap.size 1 A2 n2 (f.map (.int .i64))) (hn2 : n2 ≤ 1000000000000000000) (hx2 : ∀ x ∈ f, (Lit.int .i64 x).wf = true) (hE : checkE a = 0) (hL : Reached a (spotsL a) f L) :
    Calls Tryd.prog 7 #[.slice A n c, .slice A2 n2 c2] w fun e w' => Below w.heap.size w w' ∧ e = .returned (.tuple #[.int .i64 (longsL (spotsL a) L), .int .i64 0]) := by
  have h0 := (checkE_ok.1 hE).1
  have hlen := (parse_ok h0).1
  have H1 := Lib.hid (fun w hr hr2 => reach_ok A n c a A2 n2 c2 f w hr hnc ha hr2 hn2 hx2 hE)
  have H2 := Lib.hid (fun w hr => heap_ok A n c a none 0 0 [] w hr hnc ha (Reads.none_) (by decide) (by simp) hE)
  have hmem := Lib.hid (parse_mem (parse_ok h0).2)
  have hL256 : L.length ≤ 256 := nodup_bound 256 L hL.once (fun x hx => begsL_bounds h0 x (hL.begs x hx))
  have HU := Lib.hid (fun L' (h : Reached a (spotsL a) f L') => hL.unique h)
  have HB := Lib.hid hL.begs
  have hroots := hL.roots
  have hbegs := hL.begs
  have HA : Hid (∀ x ∈ f, x ∈ begsL (spotsL a)) := fun x hx => hbegs x (hroots x hx)
  generalize spotsL a = S at *
  obtain ⟨k, hk⟩ : ∃ k, k = L.length := ⟨_, rfl⟩
  rw [← hk] at hL256
  have HK := Lib.hid hk
  have HLen := Lib.hid hlen
  clear hL hroots hbegs hE h0 hk hlen ha hx2
  go_enter Tryd.func7, Tryd.ntmps7
  go_wp2_with fail
  refine (H1.out _ hr hr2).mono ?_
  rintro e w1 ⟨hb1, ⟨L', A3, c3, hL', rfl, hown⟩ | ⟨⟨x, hx, hx2⟩, -⟩⟩
  · obtain rfl := HU.out L' hL'
    rw [← HK.out] at hown ⊢
    have hrL := Reads.of_own hown
    clear hown hL'
    go_wp2_with fail
    refine (H2.out _ ((hr.below hb1).more hb1.size)).mono ?_
    rintro e w2 ⟨hb2, ⟨-, gh, rfl, hheap⟩ | ⟨⟨x, hx, -⟩, -⟩⟩
    · have hb02 := below_step hb1 hb2
      have HHp := Lib.hid hheap
      have hrL2 := (hrL.below hb2).more hb2.size
      clear hheap hrL hb2
      go_wp2
      go_loopw [10, 29] (fun s i wr => ∃ (j : Nat) (T : Int), j ≤ k ∧ i = .int .i64 j ∧ s = .int .i64 T ∧ 0 ≤ T ∧ T ≤ 256 * j ∧ Hid (T = longsL S (L.take j)) ∧ Below w2.heap.size w2 wr) (fun _ i _ => k - (intOf i).toNat)
      case atStart => exact ⟨0, 0, Nat.zero_le _, rfl, rfl, by omega, by omega, by rfl, Below.refl _ _⟩
      case round =>
        obtain ⟨j, T, hj, rfl, rfl, hT0, hT1, HT, hb⟩ := hrel
        by_cases hlt : j < k
        · obtain ⟨ad, x, rfl, had, hx, cx⟩ := (hrL2.below hb).num hlt
          obtain ⟨s, hs⟩ := begsL_iff.1 (HB.out x (List.mem_of_getElem? hx))
          obtain ⟨hsS, -, hsl⟩ := spotAt_some hs
          have hok := (hmem.out s hsS).1
          obtain ⟨b, Ah, kh, ch, g1, g2, g3, g4, g5⟩ := HHp.out.below hb
          have hLo := long_any gh b A Ah n c kh ch a S s wr g1 g4 (by rw [hsl]; exact hs) hok HLen.out
          rw [hsl] at hLo
          have HLo := Lib.hid hLo
          have HT2 : Hid (T + s.long = longsL S (L.take (j + 1))) := by
            show _ = _
            obtain ⟨q1, q2⟩ := List.getElem?_eq_some_iff.1 hx
            rw [List.take_succ_eq_append_getElem q1, longsL_snoc, q2, ← HT.out]
            unfold longW
            rw [hs]
          have hl0 : 0 ≤ s.long ∧ s.long ≤ 256 := ⟨by have := hok.r0; have := hok.b0; unfold Spot.long; omega, hok.fit256⟩
          generalize s.long = z at *
          have w3 : IntKind.i64.wrap (T + z) = T + z := IntWalk.i64_in _ (by omega)
          have hj1 : j + 1 ≤ k := hlt
          have q1 : 0 ≤ T + z := by omega
          have q2 : T + z ≤ 256 * ((j + 1 : Nat) : Int) := by omega
          clear hx hs hsS hok g1 g4 g5 hLo HT
          go_wp2_with fail
          refine HLo.out.mono ?_
          rintro e w5 ⟨rfl, hb5⟩
          have hbx := hb.trans (hb5.mono hb.size)
          go_wp2
          go_roundw
          case rel => exact ⟨j + 1, T + z, hj1, by go_num, rfl, q1, q2, HT2, hbx⟩
          case measure => simp [intOf]; omega
        · have hjk : j = k := by omega
          have HT2 : Hid (T = longsL S L) := by
            have := HT.out
            rw [hjk, List.take_of_length_le (by rw [HK.out]; exact Nat.le_refl _)] at this
            exact this
          have g0 : decide (j < k) = false := decide_eq_false hlt
          clear hjk HT
          go_wp2
          go_ret2
          exact ⟨below_step hb02 hb, by rw [← HT2.out]; rfl⟩
    · cases hx
  · exact absurd (HA.out x hx) hx2

theorem tints_facts : checkE [1, 1] = 0 ∧ spotsL [1, 1] = [⟨0, 1, 0, 0, false⟩] := by decide
theorem tints_reached : Reached [1, 1] (spotsL [1, 1]) [0] [0] := by
  rw [tints_facts.2]
  refine ⟨by decide, by decide, by decide, fun X hX _ x hx => hX x hx, by decide, by decide⟩

set_option maxHeartbeats 400000 in
theorem tints_true (w : World) : Calls Tryd.prog 4 #[] w fun e w' => e = .returned (.bool true) ∧ Below w.heap.size w w' := by
  have H := Lib.hid (fun A A2 w hr hr2 => twords_ok A 2 2 [1, 1] A2 1 1 [0] [0] w hr (by decide) (by decide) hr2 (by decide) (by decide) tints_facts.1 tints_reached)
  have hz : longsL (spotsL [1, 1]) [0] = 2 := by rw [tints_facts.2]; decide
  rw [hz] at H
  have hn1 := reads_new w [.int .u64 1, .int .u64 1] 41 2 1 rfl
  have hb1 := below_new w (.cells #[.int .u64 1, .int .u64 1] 41)
  have hn2 := reads_new (w.alloc (.cells #[.int .u64 1, .int .u64 1] 41)) [.int .i64 0] 3 1 1 rfl
  have hb2 := below_new (w.alloc (.cells #[.int .u64 1, .int .u64 1] 41)) (.cells #[.int .i64 0] 3)
  have hn3 := (hn1.below (hb2.mono (by simp))).more (show w.heap.size + 1 ≤ ((w.alloc (.cells #[.int .u64 1, .int .u64 1] 41)).alloc (.cells #[.int .i64 0] 3)).heap.size by simp)
  simp only [World.size_alloc] at hn2
  have HS := fun w : World => (show Calls Tryd.prog 14 #[] w fun e w' => e = .returned (.slice (some ⟨w.heap.size, 0, none⟩) 2 2) ∧ w' = w.alloc (.cells #[.int .u64 1, .int .u64 1] 41) by
    go_enter Tryd.func14, Tryd.ntmps14
    go_wp2
    go_ret
    exact ⟨rfl, rfl⟩)
  have HS := Lib.hid HS
  clear hz
  go_enter Tryd.func4, Tryd.ntmps4
  go_wp2_with fail
  refine (HS.out _).mono ?_
  rintro e w1 ⟨rfl, rfl⟩
  go_wp2_with fail
  refine (H.out _ _ _ (by simpa using hn3) (by simpa using hn2)).mono ?_
  rintro e w2 ⟨hb3, rfl⟩
  go_wp2
  go_ret
  exact ⟨by first | rfl | simp, below_step (below_step hb1 hb2) hb3⟩
end Go.Proofs.YtbmkbnalembbjaaDoor
