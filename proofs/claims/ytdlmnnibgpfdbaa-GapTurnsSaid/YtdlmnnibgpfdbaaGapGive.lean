/-
  package gap: Give, where nobody names the object.
-/
import Derived.Test.YtdlmnnibgpfdbaaGapTake
namespace Go.Proofs.Ytdlmnnibgpfdbaa
open Go.RowKit

set_option maxRecDepth 100000 in
set_option maxHeartbeats 2000000 in
theorem give_ok (A : Option Addr) (n c : Nat) (a : List Int) (x : Int) (i : Nat) (s : Spot) (w : World) (hr : Reads w w.heap.size 1 A n (a.map (.int .u64))) (hnc : n ≤ c) (ha : ∀ x ∈ a, (Lit.int .u64 x).wf = true)
    (hC : checkE a = 0) (hix : ixOf (pF x false) (spotsL a) = i) (hs : (spotsL a)[i]? = some s) (hxs : s.loc = x) (hfs : s.f = false) (hfree : ∀ t ∈ spotsL a, (x + 1) ∉ refsOf a t) :
    Calls Try.prog 39 #[.slice A n c, .int .i64 x] w fun e w' => Below w.heap.size w w' ∧ ∃ A' c', e = .returned (.tuple #[.slice A' n c', .int .i64 0]) ∧
      w'.ownsRow w.heap.size 29 1 (.slice A' n c') n ((layL a s.loc.toNat s.long.toNat).map (.int .u64)) := by
  have hE0 := (checkE_ok.1 hC).1
  have H1 := fun w hr => gspots_any A n c a w hr hnc ha
  have hgs : gspotsL a = spotsL a := by unfold gspotsL; rw [if_pos hC]
  rw [hC, hgs] at H1
  have hS := spotsL_length a
  have hlen := (parse_ok hE0).1
  have hal : a.length = n := by have := hr.1; simpa using this
  have hok := (parse_mem (parse_ok hE0).2 s (List.mem_of_getElem? hs)).1
  have HOK := Lib.hid (fun t (ht : t ∈ spotsL a) => (parse_mem (parse_ok hE0).2 t ht).1)
  have HFR := Lib.hid hfree
  generalize hSS : spotsL a = S at *
  obtain ⟨k0, hk0⟩ : ∃ k, k = S.length := ⟨_, rfl⟩
  rw [← hk0] at H1 hS
  have HF := Lib.hid (fun A c w hr => gfind_ok A k0 c S x false i s w hr hS hix hs)
  have HGs := fun w => glong_ok s.r s.b s.t s.f w hok.head
  have hl0 := hok.loc0
  have hlf := hok.fits
  have hr0 := hok.r0
  have hb0 := hok.b0
  obtain ⟨loc, r2, b2, t2, f2⟩ := s
  unfold Spot.long at *
  dsimp only at *
  subst hxs hfs
  obtain ⟨L, rfl⟩ : ∃ L : Nat, loc = L := ⟨loc.toNat, by omega⟩
  obtain ⟨m, hmm⟩ : ∃ m : Nat, 1 + r2 + b2 = m := ⟨(1 + r2 + b2).toNat, by omega⟩
  rw [hmm] at HGs hlf ⊢
  simp only [Int.toNat_natCast]
  have HGs := Lib.hid HGs
  have H1 := Lib.hid H1
  have hn : n ≤ 256 := by omega
  have hLm : L + m ≤ n := by omega
  have hm1 : 1 ≤ m := by omega
  have HCl := Lib.hid (fun w hr hB => clone_u64 A n c w.heap.size (a.map (.int .u64)) w hr hB (u64s_one a) (by omega))
  have HLay := Lib.hid (fun A' c' W hr => glay_ok A' n c' W.heap.size a L m W hr (Nat.le_refl _) hn hLm hm1)
  have HAL := Lib.hid hal
  have hu1 : IntKind.u64.wrap (L : Int) = L := by simp [IntKind.wrap, IntKind.bits, IntKind.signed]; omega
  have hu2 : IntKind.u64.wrap ((L : Int) + 1) = (L : Int) + 1 := by simp [IntKind.wrap, IntKind.bits, IntKind.signed]; omega
  have HK0 := Lib.hid hk0
  clear hix hs hC hE0 hgs hok hk0 hmm hal hlen hl0 hlf hr0 hb0 hfree hSS
  go_enter Try.func39, Try.ntmps39
  go_wp2_with fail
  refine (H1.out _ hr).mono ?_
  rintro e w1 ⟨hb1, A', c', rfl, hown⟩
  have hrl := Reads.of_own hown
  clear hown
  go_wp2_with fail
  refine (HF.out _ _ _ hrl).mono ?_
  rintro e w2 ⟨rfl, hb2⟩
  have hb02 := below_step hb1 hb2
  have hb03 := hb02.alloc hb02.size (.cells #[.int .i64 L, .int .i64 r2, .int .i64 b2, .int .i64 t2, .bool false] 49)
  have S3 := Blk.new w2 49 #[.int .i64 L, .int .i64 r2, .int .i64 b2, .int .i64 t2, .bool false]
  have hb23 := below_new w2 (.cells #[.int .i64 L, .int .i64 r2, .int .i64 b2, .int .i64 t2, .bool false] 49)
  have hrl3 := (((hrl.below hb2).more hb2.size).below hb23).more hb23.size
  have hra3 := (hr.below hb03).more hb03.size
  clear hrl hb1 hb2 hb02 hb23
  go_wp2
  go_loopw [11, 30] (fun _ i wr => ∃ (j : Nat), j ≤ k0 ∧ i = .int .i64 j ∧ Below (w2.alloc (.cells #[.int .i64 L, .int .i64 r2, .int .i64 b2, .int .i64 t2, .bool false] 49)).heap.size (w2.alloc (.cells #[.int .i64 L, .int .i64 r2, .int .i64 b2, .int .i64 t2, .bool false] 49)) wr) (fun _ i _ => k0 - (intOf i).toNat)
  case atStart => exact ⟨0, Nat.zero_le _, rfl, Below.refl _ _⟩
  case round =>
    obtain ⟨j, hj, rfl, hb⟩ := hrel
    by_cases hlt : j < k0
    · obtain ⟨ad, t, rfl, had, ht, c0, c1, c2, c3, c4⟩ := (hrl3.below hb).spot hlt
      have hok := HOK.out t (List.mem_of_getElem? ht)
      have hfr := HFR.out t (List.mem_of_getElem? ht)
      have hl0 := hok.loc0
      have hr0 := hok.r0
      have hft := hok.fits
      have hb0 := hok.b0
      have HREF : Hid (refsOf a t = (a.drop (t.loc.toNat + 1)).take t.r.toNat) := rfl
      obtain ⟨loc, r, b, tt, f⟩ := t
      unfold Spot.long at hft
      dsimp only at *
      rw [HAL.out] at hft
      obtain ⟨p, rfl⟩ : ∃ p : Nat, loc = p := ⟨loc.toNat, by omega⟩
      obtain ⟨q, rfl⟩ : ∃ q : Nat, r = q := ⟨r.toNat, by omega⟩
      have hpq : p + 1 + q ≤ n := by omega
      have hpos : 0 < n := by omega
      have hbx := hb.alloc hb.size (.cells #[.int .i64 p, .int .i64 q, .int .i64 b, .int .i64 tt, .bool f] 49)
      clear ht hok hft
      by_cases hpL : p = L
      · subst hpL
        go_wp2
        go_roundw
        case rel => exact ⟨j + 1, by omega, by go_num, hbx⟩
        case measure => simp [intOf]; omega
      · have hne : ((p : Int) == L) = false := by simp; omega
        have HS := (hra3.below hbx).sub (lo := p + 1) (hi := p + 1 + q) (by omega) hpq hnc
        rw [← List.map_drop, ← List.map_take, show (a.drop (p + 1)).take (p + 1 + q - (p + 1)) = refsOf a ⟨p, q, b, tt, f⟩ by rw [HREF.out]; simp] at HS
        obtain ⟨ada, hA, -⟩ := hra3.2 hpos
        subst hA
        rw [show p + 1 + q - (p + 1) = q by omega] at HS
        have HC : Hid (∀ A4 c4, (A4 = if c = p + 1 then some ada else (some ada).map (·.add (p + 1))) → Calls Try.prog 12 #[.slice A4 q c4, .int .u64 ((L : Int) + 1)] (wr.alloc (.cells #[.int .i64 p, .int .i64 q, .int .i64 b, .int .i64 tt, .bool f] 49)) fun e w' => e = .returned (.bool false) ∧ (wr.alloc (.cells #[.int .i64 p, .int .i64 q, .int .i64 b, .int .i64 tt, .bool f] 49)) = w') := fun A4 c4 h => by
          rw [h]
          exact contains_u64 _ q c4 _ _ ((L : Int) + 1) false _ HS (by omega) (decide_eq_false hfr)
        clear hfr HREF HS
        by_cases hci : c = p + 1
        · replace hci := hci.symm
          go_wp2_with fail
          refine (HC.out _ _ (by rw [if_pos hci.symm])).mono ?_
          rintro e w3 ⟨rfl, rfl⟩
          go_wp2
          go_roundw
          case rel => exact ⟨j + 1, by omega, by go_num, hbx⟩
          case measure => simp [intOf]; omega
        · go_wp2_with fail
          refine (HC.out _ _ (by rw [if_neg hci, Option.map_some, addr_add_pos _ _ (Nat.succ_pos _)])).mono ?_
          rintro e w3 ⟨rfl, rfl⟩
          go_wp2
          go_roundw
          case rel => exact ⟨j + 1, by omega, by go_num, hbx⟩
          case measure => simp [intOf]; omega
    · have S4 := (S3.below hb S3.lt).drew
      have hbr := hb03.trans (hb.mono hb03.size)
      have q0 := S4.cell 0
      have q1 := S4.cell 1
      have q2 := S4.cell 2
      have q3 := S4.cell 3
      have q4 := S4.cell 4
      simp only [List.getElem?_toArray, List.getElem?_cons_zero, List.getElem?_cons_succ] at q0 q1 q2 q3 q4
      have hb4 := hbr.drew
      have hra4 := (hr.below hb4).more hb4.size
      have CL0 : Hid True := trivial
      clear hra3 hrl3 hb hb03 S3 hbr
      go_wp2
      go_region_held3 (fun w' => w'.cell? ⟨w2.heap.size, 1, none⟩ = some (.int .i64 r2) ∧ w'.cell? ⟨w2.heap.size, 2, none⟩ = some (.int .i64 b2) ∧ w'.cell? ⟨w2.heap.size, 3, none⟩ = some (.int .i64 t2) ∧ w'.cell? ⟨w2.heap.size, 4, none⟩ = some (.bool false)) (go_keep)
        (first
          | (go_at_call 59; refine (HCl.out _ ((hr.below hb4).more hb4.size) (Nat.le_refl _)).mono ?_; rintro e w3 ⟨A3, c3, rfl, hown3, hb3⟩; have S4 := S4.below hb3 S4.lt; have q1 := S4.cell 1; have q2 := S4.cell 2; have q3 := S4.cell 3; have q4 := S4.cell 4; simp only [List.getElem?_toArray, List.getElem?_cons_zero, List.getElem?_cons_succ] at q1 q2 q3 q4; have hg3 := hb4.size; have hb4 := hb4.trans (hb3.mono hb4.size); have hownC := own_mono hown3 hg3)
          | (go_at_call 65; refine (HGs.out _).mono ?_; rintro e w4 ⟨rfl, hb5⟩; have S4 := S4.below hb5 S4.lt; have q1 := S4.cell 1; have q2 := S4.cell 2; have q3 := S4.cell 3; have q4 := S4.cell 4; simp only [List.getElem?_toArray, List.getElem?_cons_zero, List.getElem?_cons_succ] at q1 q2 q3 q4; have hb4 := hb4.trans (hb5.mono hb4.size); (try have hownC := own_below hownC hb5))
          | (go_at_call 60; refine (HLay.out _ _ _ (Reads.of_own hownC)).mono ?_; rintro e w5 ⟨hb5, A5, c5, rfl, hown5⟩; have S4 := S4.below hb5 S4.lt; have q1 := S4.cell 1; have q2 := S4.cell 2; have q3 := S4.cell 3; have q4 := S4.cell 4; simp only [List.getElem?_toArray, List.getElem?_cons_zero, List.getElem?_cons_succ] at q1 q2 q3 q4; have hg5 := hb4.size; have hb4 := hb4.trans (hb5.mono hb4.size); have hownZ := own_mono hown5 hg5))
      all_goals
        go_wp2
        go_ret2
        exact ⟨hb4, _, _, rfl, hownZ⟩
end Go.Proofs.Ytdlmnnibgpfdbaa
