/-
  TwinWhole answers true for all halves, and changes no argument: gaps and what is taken are all words, each once; no two gaps are the halves of one piece.
-/
import Derived.Test.YtdlmnnibgpfdbabTwinsTrue
import Derived.Test.YtdlmnnibgpfdbabLaw
import Derived.Test.YtdlmnnibgpfdbabLawHalves
import Derived.BigQuiet
namespace Go.Proofs.Ytdlmnnibgpfdbab
open Go.RowKit

set_option maxRecDepth 100000 in
set_option maxHeartbeats 2000000 in
theorem twinWhole_bad (o : Int) (A : Option Addr) (n c : Nat) (l : List Rm) (w : World) (hr : Reads w w.heap.size 3 A n (roomsC l)) (hn : n ≤ 9223372036854775807) (hE : twinE o l ≠ 0) :
    Calls Try.prog 3 #[.agg #[.int .i64 o, .slice A n c]] w fun e w' => e = .returned (.bool true) ∧ Below w.heap.size w w' := by
  have hb0 := below_new w (.cells #[.int .i64 o, .slice A n c] 24)
  have B0 := Blk.new w 24 #[.int .i64 o, .slice A n c]
  have H1 := fun w hr => twinGaps_bad o A n c l w hr hn hE
  have H2 := fun w hr => waste_bad o A n c l w hr hn hE
  have hE1 : (twinE o l != 0) = true := by simpa using hE
  generalize twinE o l = E at *
  have H1 := Lib.hid H1
  have H2 := Lib.hid H2
  clear hE
  go_enter Try.func3, Try.ntmps3
  go_wp2_with fail
  refine (twins_true _).mono ?_
  rintro e w1 ⟨rfl, hb1⟩
  have hb01 := below_step hb0 hb1
  have B1 := B0.below hb1 B0.lt
  have k0 := B1.cell 0
  have k1 := B1.cell 1
  simp only [List.getElem?_toArray, List.getElem?_cons_zero, List.getElem?_cons_succ] at k0 k1
  go_wp2_with fail
  refine (H1.out _ ((hr.below hb01).more hb01.size)).mono ?_
  rintro e w2 ⟨rfl, hb2⟩
  have hb02 := below_step hb01 hb2
  have B2 := B1.below hb2 B1.lt
  have k0 := B2.cell 0
  have k1 := B2.cell 1
  simp only [List.getElem?_toArray, List.getElem?_cons_zero, List.getElem?_cons_succ] at k0 k1
  go_wp2_with fail
  refine (H2.out _ ((hr.below hb02).more hb02.size)).mono ?_
  rintro e w3 ⟨rfl, hb3⟩
  go_wp2
  go_ret
  exact ⟨by first | rfl | simp, below_step hb02 hb3⟩

theorem waste_lt : ∀ {l : List Rm}, (∀ r ∈ l, 0 ≤ r.len - r.used ∧ 2 * (r.len - r.used) < r.len) → wasteL l = 0 ∧ roomSum l = 0 ∨ 0 ≤ wasteL l ∧ 2 * wasteL l < roomSum l
  | [], _ => .inl ⟨rfl, rfl⟩
  | r :: t, h => by
    have h1 := h r List.mem_cons_self
    have h2 := waste_lt (l := t) (fun r hr => h r (List.mem_cons_of_mem _ hr))
    simp only [wasteL, roomSum]
    omega
theorem lsum_nonneg : ∀ {G : List Rn}, (∀ g ∈ G, 0 ≤ g.len) → 0 ≤ lsum G
  | [], _ => by simp [lsum]
  | g :: t, h => by
    have h1 := h g List.mem_cons_self
    have h2 := lsum_nonneg (G := t) (fun g hg => h g (List.mem_cons_of_mem _ hg))
    simp only [lsum]
    omega

set_option maxRecDepth 100000 in
set_option maxHeartbeats 2000000 in
theorem twinWhole_ok (K : Nat) (A : Option Addr) (n c : Nat) (l : List Rm) (w : World) (hr : Reads w w.heap.size 3 A n (roomsC l)) (hK : K ≤ 8) (hC : Chain K 0 l) :
    Calls Try.prog 3 #[.agg #[.int .i64 K, .slice A n c]] w fun e w' => e = .returned (.bool true) ∧ Below w.heap.size w w' := by
  have hb0 := below_new w (.cells #[.int .i64 K, .slice A n c] 24)
  have B0 := Blk.new w 24 #[.int .i64 K, .slice A n c]
  have H1 := fun w hr => twinGaps_ok K A n c l w hr hK hC
  have H2 := Lib.hid (fun w hr => waste_ok K A n c l w hr hK hC)
  have hlen := hC.len (Nat.zero_le _)
  have hll : l.length = n := by have := hr.1; rw [roomsC_length] at this; omega
  have h256 : 2 ^ K ≤ 256 := Nat.pow_le_pow_right (by decide) hK
  have HL := Lib.hid hll
  have hn : n ≤ 256 := by omega
  have hgs := tgaps_gs l K 0 (Nat.zero_mod _)
  rw [Nat.zero_add] at hgs
  have hwst := hC.waste
  have hmem := hC.mem
  have HM := Lib.hid hmem
  have hap := fun i g g' => tgaps_apart (l := l) (fun r hr => (hwst r hr).1) (k := K) (i := i) (g := g) (g' := g')
  have hsum := tgaps_sum l K 0
  have hcs := hC.sum (Nat.zero_le _)
  rw [Nat.sub_zero] at hcs
  rw [← hsum] at hcs
  have hgl := tgapsL_length l K 0
  obtain ⟨all, ha, ha1⟩ : ∃ all : Nat, all = 2 ^ K ∧ 1 ≤ all := ⟨2 ^ K, rfl, pow_pos2 K⟩
  rw [← ha] at h256 hgs hcs hgl
  have hp2 : ((2 : Int) ^ K) = (all : Int) := by rw [ha]; simp
  have wa : IntKind.i64.wrap ((2 : Int) ^ K) = (all : Int) := by rw [hp2]; exact IntWalk.i64_in _ (by omega)
  generalize tgapsL l K 0 = G at *
  have HGM := Lib.hid hgs.mem
  have HGN := Lib.hid hgs.next
  have HAP := Lib.hid hap
  have HCS := Lib.hid hcs
  have H1 := Lib.hid H1
  have HA := Lib.hid ha
  have HW := Lib.hid hwst
  clear hp2 ha hlen hll hgs hwst hmem hap hsum hcs hC
  go_enter Try.func3, Try.ntmps3
  go_wp2_with fail
  refine (twins_true _).mono ?_
  rintro e w1 ⟨rfl, hb1⟩
  have hb01 := below_step hb0 hb1
  have B1 := B0.below hb1 B0.lt
  have k0 := B1.cell 0
  have k1 := B1.cell 1
  simp only [List.getElem?_toArray, List.getElem?_cons_zero, List.getElem?_cons_succ] at k0 k1
  clear hb0 B0 hb1
  go_wp2_with fail
  refine (H1.out _ ((hr.below hb01).more hb01.size)).mono ?_
  rintro e w2 ⟨A2, q, c2, rfl, hown, hb2⟩
  have hql : G.length = q := by have := hown.1; rw [runsC_length] at this; omega
  have HQL := Lib.hid hql
  have hq : q ≤ 256 := by omega
  have hrl := Reads.of_own hown
  have hb02 := below_step hb01 hb2
  have B2 := B1.below hb2 B1.lt
  have k0 := B2.cell 0
  have k1 := B2.cell 1
  simp only [List.getElem?_toArray, List.getElem?_cons_zero, List.getElem?_cons_succ] at k0 k1
  clear hown hql hgl hb01 hb2 B1
  go_wp2_with fail
  refine (H2.out _ ((hr.below hb02).more hb02.size)).mono ?_
  rintro e w3 ⟨rfl, hb3⟩
  have hrl := (hrl.below hb3).more hb3.size
  have hb03 := below_step hb02 hb3
  have B3 := B2.below hb3 B2.lt
  have k0 := B3.cell 0
  have k1 := B3.cell 1
  simp only [List.getElem?_toArray, List.getElem?_cons_zero, List.getElem?_cons_succ] at k0 k1
  obtain ⟨W, hW⟩ : ∃ W, W = wasteL l := ⟨_, rfl⟩
  rw [← hW]
  have HWW := Lib.hid hW
  clear hb02 hb3 B2 hW
  go_wp2
  go_loopw [7, 8, 46] (fun s ws i wr => ∃ (j : Nat) (S T : Int), j ≤ n ∧ i = .int .i64 j ∧ s = .int .i64 S ∧ ws = .int .i64 T ∧ 0 ≤ S ∧ S ≤ 256 * j ∧ 0 ≤ T ∧ T ≤ 256 * j ∧ Hid (S = roomSum (l.take j) ∧ T = wasteL (l.take j)) ∧ Below w3.heap.size w3 wr) (fun _ _ i _ => n - (intOf i).toNat)
  case atStart => exact ⟨0, 0, 0, Nat.zero_le _, rfl, rfl, rfl, by omega, by omega, by omega, by omega, ⟨rfl, rfl⟩, Below.refl _ _⟩
  case round =>
    obtain ⟨j, S, T, hj, rfl, rfl, rfl, hS0, hS1, hT0, hT1, HST, hb⟩ := hrel
    by_cases hlt : j < n
    · obtain ⟨ad, r, rfl, had, hx, cx0, cx1, cx2⟩ := ((hr.below hb03).below (hb.mono hb03.size)).room hlt
      obtain ⟨k, a, u, hk, rfl, h1, -, h2, h3, -⟩ := HM.out r (List.mem_of_getElem? hx)
      have HS2 := Lib.hid (wasteL_take hx)
      have HS3 := Lib.hid (roomSum_take hx)
      rw [← HA.out] at h1
      obtain ⟨d, hd⟩ : ∃ d, d = 2 ^ k := ⟨_, rfl⟩
      dsimp only at *
      rw [← hd] at cx1 h1 h2 HS2 HS3
      have hd2 : d ≤ 256 := by omega
      rw [← HST.out.2] at HS2
      rw [← HST.out.1] at HS3
      have C := Blk.new wr 33 #[.int .i64 a, .int .i64 d, .int .i64 u]
      have b0 := C.cell 0
      have b1 := C.cell 1
      have b2 := C.cell 2
      simp only [List.getElem?_toArray, List.getElem?_cons_zero, List.getElem?_cons_succ] at b0 b1 b2
      have w1 : IntKind.i64.wrap ((d : Int) - u) = (d : Int) - u := IntWalk.i64_in _ (by omega)
      have w2 : IntKind.i64.wrap (T + ((d : Int) - u)) = T + ((d : Int) - u) := IntWalk.i64_in _ (by omega)
      have w3' : IntKind.i64.wrap (S + (d : Int)) = S + (d : Int) := IntWalk.i64_in _ (by omega)
      have hS3 : T + ((d : Int) - u) ≤ 256 * ((j + 1 : Nat) : Int) := by omega
      have hS4 : 0 ≤ T + ((d : Int) - u) := by omega
      have hS5 : S + (d : Int) ≤ 256 * ((j + 1 : Nat) : Int) := by omega
      have hS6 : 0 ≤ S + (d : Int) := by omega
      have hbx := hb.alloc hb.size (.cells #[.int .i64 a, .int .i64 d, .int .i64 u] 33)
      clear hx hd hk h1 h3 C
      go_wp2
      go_roundw
      case rel => exact ⟨j + 1, S + d, T + ((d : Int) - u), by omega, by go_num, rfl, rfl, hS6, hS5, hS4, hS3, (show _ ∧ _ from ⟨HS3.out.symm, HS2.out.symm⟩), hbx⟩
      case measure => simp [intOf]; omega
    · obtain rfl : j = n := by omega
      obtain ⟨hSS, hTT⟩ := HST.out
      rw [List.take_of_length_le (by rw [HL.out]; exact Nat.le_refl _)] at hSS hTT
      obtain rfl : T = W := by rw [HWW.out]; exact hTT
      obtain ⟨wo, hwo⟩ : ∃ x, x = wr := ⟨wr, rfl⟩
      subst hwo
      have hbo := below_step hb03 hb
      have hrl := (hrl.below hb).more hb.size
      have B4 := B3.below hb B3.lt
      have HS0 := Lib.hid hSS
      have hT2 : 0 ≤ T ∧ T ≤ 65536 := ⟨hT0, by omega⟩
      have hS2 : 0 ≤ S ∧ S ≤ 65536 := ⟨hS0, by omega⟩
      have HG : Hid (G.length = q) := HQL
      have hWfin : T = 0 ∨ 2 * T < all := by
        have h1 := waste_lt (fun r hr => (HW.out r hr).2)
        have h2 := HCS.out
        have h3 := lsum_nonneg (G := G) (fun g hg => by obtain ⟨x, j, rfl, -⟩ := HGM.out g hg; have := pow_pos2 j; dsimp only; generalize 2 ^ j = y at *; omega)
        rw [← HWW.out] at h1
        omega
      clear hSS hTT hb hb03 B3 HST hS0 hS1 hT0 hT1 hlt hr hn hj
      go_wp2
      go_loopw [7, 11, 64] (fun s _ i wr => ∃ (j : Nat) (R : Int), j ≤ q ∧ i = .int .i64 j ∧ s = .int .i64 R ∧ 0 ≤ R ∧ R ≤ 65536 + 256 * j ∧ Hid (R = S + lsum (G.take j)) ∧ Below wo.heap.size wo wr) (fun _ _ i _ => q - (intOf i).toNat)
      case atStart => exact ⟨0, S, Nat.zero_le _, rfl, rfl, hS2.1, by omega, by show _ = _; simp [lsum], Below.refl _ _⟩
      case round =>
        obtain ⟨j', R, hj, rfl, rfl, hR0, hR1, HR, hb⟩ := hrel
        by_cases hlt : j' < q
        · obtain ⟨ad, g, rfl, had, hx, cx0, cx1⟩ := (hrl.below hb).run hlt
          obtain ⟨x, k, rfl, -, h1, h2⟩ := HGM.out g (List.mem_of_getElem? hx)
          have hp := pow_pos2 k
          have HTk : Hid (lsum (G.take (j' + 1)) = lsum (G.take j') + ((2 ^ k : Nat) : Int)) := by
            show _ = _
            obtain ⟨q1, q2⟩ := List.getElem?_eq_some_iff.1 hx
            rw [List.take_succ_eq_append_getElem q1, lsum_append, q2]
            simp [lsum]
          have hmod : (x : Int) % ((2 ^ k : Nat) : Int) = 0 := by exact_mod_cast h2
          obtain ⟨d, hd⟩ : ∃ d, d = 2 ^ k := ⟨_, rfl⟩
          dsimp only at cx0 cx1
          rw [← hd] at hp h1 hmod cx1 HTk hx
          clear h2 hd
          have w1 : IntKind.i64.wrap (R + (d : Int)) = R + d := IntWalk.i64_in _ (by omega)
          have hR2 : Hid (R + (d : Int) = S + lsum (G.take (j' + 1))) := by
            show _ = _
            rw [HTk.out, HR.out]
            omega
          have g1 : decide ((d : Int) < 1) = false := decide_eq_false (by omega)
          have hd1 : ¬ d = 0 := by omega
          have C := Blk.new wr 35 #[.int .i64 x, .int .i64 d]
          have b0 := C.cell 0
          have b1 := C.cell 1
          simp only [List.getElem?_toArray, List.getElem?_cons_zero, List.getElem?_cons_succ] at b0 b1
          have hbx := hb.alloc hb.size (.cells #[.int .i64 x, .int .i64 d] 35)
          have hR3 : R + (d : Int) ≤ 65536 + 256 * ((j' + 1 : Nat) : Int) := by omega
          have hR4 : 0 ≤ R + (d : Int) := by omega
          by_cases hj0 : j' = 0
          · subst hj0
            have cy0 : wr.cell? ad = some (.int .i64 x) := by simpa [Addr.add] using cx0
            have cy1 : wr.cell? ⟨ad.block, ad.off + 1, none⟩ = some (.int .i64 d) := by simpa [Addr.add] using cx1
            have hjj : 0 + 1 ≤ q := by omega
            clear hx C HTk cx0 cx1
            go_wp2
            go_quiet (fail)
            go_wp2
            go_quiet (fail)
            go_wp2
            go_roundw
            case rel => exact ⟨0 + 1, R + d, hjj, by go_num, rfl, hR4, hR3, hR2, below_drewN hbx _⟩
            case measure => simp [intOf]; omega
          · obtain ⟨p, rfl⟩ : ∃ p, j' = p + 1 := ⟨j' - 1, by omega⟩
            obtain ⟨ad', g', e', had', hx', cp0, cp1⟩ := (hrl.below hb).run (j := p) (by omega)
            obtain rfl : ad' = ad := by injection e' with e'; exact e'.symm
            obtain ⟨x', k', rfl, -, h1', h2'⟩ := HGM.out g' (List.mem_of_getElem? hx')
            have hnx := HGN.out p _ _ hx' hx
            have hab := HAP.out p _ _ hx' hx
            have hp' := pow_pos2 k'
            obtain ⟨d', hd'⟩ : ∃ d', d' = 2 ^ k' := ⟨_, rfl⟩
            dsimp only at cp0 cp1 hnx hab
            rw [← hd'] at cp1 h1' hnx hab hp'
            have hp1 : ((p + 1 : Nat) : Int) - 1 = p := by omega
            have g4 : decide (0 < p + 1) = true := decide_eq_true (by omega)
            obtain ⟨e2, he2⟩ : ∃ e2, e2 = x' + d' := ⟨_, rfl⟩
            obtain ⟨e3, he3⟩ : ∃ e3, e3 = x' + d := ⟨_, rfl⟩
            have w5 : IntKind.i64.wrap ((x' : Int) + d') = (e2 : Int) := by rw [IntWalk.i64_in _ (by omega)]; omega
            have w7 : IntKind.i64.wrap ((x' : Int) + d) = (e3 : Int) := by rw [IntWalk.i64_in _ (by omega)]; omega
            have w6 : IntKind.i64.wrap (p : Int) = p := IntWalk.i64_in _ (by omega)
            obtain ⟨dd, hdd⟩ : ∃ dd, dd = 2 * d := ⟨_, rfl⟩
            have w8 : IntKind.i64.wrap (2 * (d : Int)) = (dd : Int) := by rw [IntWalk.i64_in _ (by omega)]; omega
            have hdd0 : ¬ dd = 0 := by omega
            have g5 : decide (x < e2) = false := decide_eq_false (by omega)
            have cq0 := (World.cell?_alloc_lt wr (.cells #[.int .i64 x, .int .i64 d] 35) (ad'.add (p * 2)) (by rw [block_of_add]; have := hb.size; omega)).trans cp0
            have cq1 := (World.cell?_alloc_lt wr (.cells #[.int .i64 x, .int .i64 d] 35) ⟨(ad'.add (p * 2)).block, (ad'.add (p * 2)).off + 1, none⟩ (by dsimp only; rw [block_of_add]; have := hb.size; omega)).trans cp1
            have hpq : p < q := by omega
            have hpq2 : (p : Int) < q := by omega
            have hjj : p + 1 + 1 ≤ q := by omega
            have hb9 : d' = d → e3 = x → ((x' : Int) % (dd : Int) == 0) = false := fun q1 q2 => by
              rw [beq_eq_false_iff_ne, show (dd : Int) = 2 * (d : Int) by omega]
              exact fun q3 => hab (by omega) (by omega) q3
            clear hx hj0 C HTk hx' hd' cp0 cp1 hnx e' hab h2'
            have HB9 := Lib.hid hb9
            have HE3 := Lib.hid he3
            have HE2 := Lib.hid he2
            clear hb9 he3 he2 hdd
            go_wp2
            go_quiet (fail)
            go_wp2
            by_cases z1 : d = d'
            · subst z1
              have z2 : ((d : Int) == d) = true := by simp
              obtain rfl : e2 = e3 := by have := HE2.out; have := HE3.out; omega
              by_cases z3 : x = e2
              · subst z3
                have z4 := HB9.out rfl rfl
                have z6 : ((x : Int) == x) = true := by simp
                obtain ⟨M, hM⟩ : ∃ M, (x' : Int) % (dd : Int) = M := ⟨_, rfl⟩
                rw [hM] at z4
                go_quiet (fail)
                go_wp2
                go_roundw
                case rel => exact ⟨p + 1 + 1, R + d, hjj, by go_num, rfl, hR4, hR3, hR2, below_drewN hbx _⟩
                case measure => simp [intOf]; omega
              · have z4 : ((e2 : Int) == x) = false := by simp; omega
                have z5 : (e2 == x) = false := by simp; omega
                go_quiet (fail)
                go_wp2
                go_roundw
                case rel => exact ⟨p + 1 + 1, R + d, hjj, by go_num, rfl, hR4, hR3, hR2, below_drewN hbx _⟩
                case measure => simp [intOf]; omega
            · have z4 : ((d' : Int) == d) = false := by simp; omega
              have z5 : (d' == d) = false := by simp; omega
              go_quiet (fail)
              go_wp2
              go_roundw
              case rel => exact ⟨p + 1 + 1, R + d, hjj, by go_num, rfl, hR4, hR3, hR2, below_drewN hbx _⟩
              case measure => simp [intOf]; omega
        · obtain rfl : j' = q := by omega
          have hRR : R = (all : Int) := by
            rw [HR.out, List.take_of_length_le (by rw [HG.out]; exact Nat.le_refl _), HS0.out]
            exact HCS.out
          subst hRR
          have B5 := B4.below hb B4.lt
          have k0 := B5.cell 0
          have k1 := B5.cell 1
          simp only [List.getElem?_toArray, List.getElem?_cons_zero, List.getElem?_cons_succ] at k0 k1
          have w2 : IntKind.i64.wrap (2 * T) = 2 * T := IntWalk.i64_in _ (by omega)
          have z1 : ((all : Int) == all) = true := by simp
          have z2 : (T == T) = true := by simp
          have hlt2 : T = 0 ∨ 2 * T < all := hWfin
          have hbx := below_step hbo hb
          clear hR0 hR1 HR hb HCS HS0
          by_cases hT0 : T = 0
          · subst hT0
            go_wp2
            go_ret
            exact ⟨rfl, hbx⟩
          · have z3 : (T == 0) = false := by simpa using hT0
            have z4 : decide (2 * T < (all : Int)) = true := decide_eq_true (by rcases hlt2 with h | h; exact absurd h hT0; exact h)
            go_wp2
            go_ret
            exact ⟨rfl, hbx⟩

theorem twinWhole_any (o : Int) (A : Option Addr) (n c : Nat) (l : List Rm) (w : World) (hr : Reads w w.heap.size 3 A n (roomsC l)) (hnc : n ≤ c) (hc : c ≤ maxLen) :
    Calls Try.prog 3 #[.agg #[.int .i64 o, .slice A n c]] w fun e w' => e = .returned (.bool true) ∧ Below w.heap.size w w' := by
  by_cases hE : twinE o l = 0
  · obtain ⟨K, hK, rfl, hC⟩ := twinE_iff.1 hE
    exact twinWhole_ok K A n c l w hr hK hC
  · exact twinWhole_bad o A n c l w hr (by unfold maxLen at hc; omega) hE

namespace TwinWhole
open Go.ChangeShapes Go.WideShapes Go.ChangeAt Go.RowKit
theorem own : ownKnob Try.prog.godebug = none := by kernel_rfl
theorem laidOut : laidOutB Try.prog = true := by kernel_rfl

set_option maxRecDepth 100000 in
theorem lifted (os : Os) (started : os.Started) (H : Type) (enc : TypeId × Value → H) :
    ReturnsInHanded {} Try.checked os 3 .any (Rows.twinWholeSpec.pre6 enc Try.prog Try.f3 Rows.twinWholeRow.domain false) (Rows.twinWholeSpec.post enc Try.prog Try.f3 false true false false) := by
  refine returnsInHanded_of_change (C := Try.checked) own started (by as_aux_lemma => kernel_rfl) Try.func3
    (ChangeSpec.witness6 (enc := enc) (C := Try.checked) false ⟨#[], #[.agg #[.int .i64 0, .slice none 0 0]], []⟩ 8 (by as_aux_lemma => kernel_rfl) (by as_aux_lemma => kernel_rfl) (by as_aux_lemma => kernel_rfl) (by as_aux_lemma => kernel_rfl)) ?_
  intro W base args ds gs before hval0 hW hcnd _
  have hval : ∀ (j : Nat) t v, Try.f3.params[j]? = some t → args[j]? = some v → Value.okWide Try.prog W .any base t v := hval0
  have hW' := hW
  obtain ⟨p, q, hA0, hV, rfl, hfz, hnd⟩ := hW
  have hA : DataW.TrodAll enc Try.prog W 0 (fun _ => true) true Try.f3.params.toList args.toList ds p := hA0
  rw [Try.params3] at hA hval
  obtain ⟨v0, vs0, d0, ds0, p0, q0, hargs, rfl, rfl, h0, hA⟩ := trodAll_cons hA
  obtain ⟨rfl, rfl, rfl⟩ := trodAll_nil hA
  obtain rfl : args = #[v0] := by cases args; simp_all
  obtain ⟨o0, A0, n0, c0, l0, rfl, hnc0, hc0, hr0⟩ := open_halves (hval 0 _ v0 rfl rfl) (fun x hx => hW'.lt x (by simp [hx])) h0
  refine (twinWhole_any o0 A0 n0 c0 l0 W hr0 hnc0 hc0).mono fun e W' ⟨he, hb⟩ => ?_
  subst he
  exact ⟨_, rfl, law_post laidOut Try.underlying4 rfl (by as_aux_lemma => kernel_rfl) rfl rfl hW' hb⟩

set_option maxHeartbeats 10000000 in
theorem closed : joinedFacts Try.prog 3 Try.f3 Rows.twinWholeSpec Rows.twinWholeRow = true := by
  unfold joinedFacts
  simp only [Bool.and_eq_true]
  repeat' apply And.intro
  all_goals as_aux_lemma => kernel_rfl

set_option maxHeartbeats 1000000 in
theorem proved : Rows.TwinWholeSaid :=
  OpenClaim.holds_of_wide 3 Try.f3 rfl rfl rfl rfl rfl rfl rfl ⟨rfl, rfl, rfl, rfl, rfl⟩ rfl rfl rfl rfl rfl (by as_aux_lemma => kernel_rfl) Try.func3 closed
    (of_decide_eq_true (by as_aux_lemma => kernel_rfl)) (by unfold Func.isWrapper; first | (rw [if_pos (by decide +kernel)]; kernel_rfl) | (rw [if_neg (by decide +kernel)]; exact ⟨rfl, rfl⟩))
    (fun os started H enc _ => lifted os started H enc)
end TwinWhole
end Go.Proofs.Ytdlmnnibgpfdbab
