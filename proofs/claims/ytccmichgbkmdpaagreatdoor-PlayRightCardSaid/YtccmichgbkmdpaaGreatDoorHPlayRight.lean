/-
  PlayRight answers true for every store, list of deeds and number, and changes no argument: operations preserve the validity of a store, and an operation with an error changes nothing. The table of forms lies as its initialiser lays it (tied on the card).
-/
import Derived.Test.YtccmichgbkmdpaaGreatDoorG21
import Derived.Test.YtccmichgbkmdpaaGreatDoorG22
namespace Go.Proofs.YtccmichgbkmdpaaGreatDoor
open Go.RowKit

theorem erase_cut {α : Type} (l : List α) (k : Nat) : l.eraseIdx k = l.take k ++ l.drop (k + 1) := List.eraseIdx_eq_take_drop_succ l k
theorem opsC_erase (l : List OpV) (k : Nat) (h : k < l.length) : (opsC l).take (k * 5) ++ (opsC l).drop ((k + 1) * 5) = opsC (l.eraseIdx k) := by
  rw [opsC_take l k (by omega), opsC_drop l (k + 1) (by omega), erase_cut]
  unfold opsC
  rw [List.flatMap_append]
theorem toldsC_erase (l : List ToldV) (k : Nat) (h : k < l.length) : (toldsC l).take (k * 2) ++ (toldsC l).drop ((k + 1) * 2) = toldsC (l.eraseIdx k) := by
  have e : ∀ j, j ≤ l.length → (toldsC l).take (j * 2) = toldsC (l.take j) ∧ (toldsC l).drop (j * 2) = toldsC (l.drop j) := by
    intro j hj
    have e : toldsC l = toldsC (l.take j) ++ toldsC (l.drop j) := by rw [← toldsC_app, List.take_append_drop]
    have hl : (toldsC (l.take j)).length = j * 2 := by rw [toldsC_length, List.length_take, Nat.min_eq_left hj]
    constructor
    · rw [e, List.take_append_of_le_length (by omega), List.take_of_length_le (by omega)]
    · rw [e, List.drop_append_of_le_length (by omega), List.drop_of_length_le (by omega), List.nil_append]
  rw [(e k (by omega)).1, (e (k + 1) (by omega)).2, ← toldsC_app, erase_cut]
theorem opsC_one (l : List OpV) : ∀ u ∈ opsC l, u.oneCell' = true := by
  intro u hu
  obtain ⟨t, -, h⟩ := List.mem_flatMap.1 hu
  simp only [opC, List.mem_cons, List.not_mem_nil, or_false] at h
  rcases h with rfl | rfl | rfl | rfl | rfl <;> rfl

set_option maxRecDepth 100000 in
set_option maxHeartbeats 4000000 in
theorem playRight_bad (A : Option Addr) (n c : Nat) (RA : Option Addr) (rn rc : Nat) (PA : Option Addr) (pn pc : Nat) (HA : Option Addr) (hn hc : Nat) (S : St) (OA : Option Addr) (on oc : Nat) (l : List OpV) (k : Int) (w : World) (hR : StR w w.heap.size A n RA rn PA pn HA hn S) (hK : StK n c rn pn hn S) (hr : Reads w w.heap.size 5 OA on (opsC l)) (hnc : on ≤ oc) (hoc : oc ≤ maxLen) (hv : ∀ o ∈ l, (Lit.int .u64 o.v).wf = true) (hT : FTab w) (hE : playE S on ≠ 0) :
    Calls Tryz.prog 3 #[.agg #[.slice A n c, .slice RA rn rc, .slice PA pn pc, .slice HA hn hc], .slice OA on oc, .int .i64 k] w fun e w' => e = .returned (.bool true) ∧ Below w.heap.size w w' := by
  have HP := Lib.hid (fun w hR => play_bad A n c RA rn rc PA pn pc HA hn hc S OA on oc w hR hK hE)
  have g1 : (playE S on != 0) = true := by simpa using hE
  generalize playE S on = F at *
  have HH := Lib.hid (fun w hT => plays_true w hT)
  have HT := Lib.hid hT
  have hb1 := below_new w (.cells #[.slice A n c, .slice RA rn rc, .slice PA pn pc, .slice HA hn hc] 28)
  have DS := Blk.new w 28 #[.slice A n c, .slice RA rn rc, .slice PA pn pc, .slice HA hn hc]
  clear hE hT hK hv hoc hnc hr
  go_enter Tryz.func3, Tryz.ntmps3
  go_wp2_with fail
  refine (HH.out _ (HT.out.below hb1)).mono ?_
  rintro e w1 ⟨rfl, hb2⟩
  have hb02 := below_step hb1 hb2
  have DS2 := DS.below hb2 DS.lt
  obtain ⟨s0, s1, s2, s3⟩ := DS2.four
  go_wp2_with fail
  refine (HP.out _ ((hR.below hb02).more hb02.size)).mono ?_
  rintro e w2 ⟨hb3, rfl⟩
  have hb03 := (below_step hb02 hb3).alloc (below_step hb02 hb3).size (.cells #[.slice none 0 0, .slice none 0 0, .slice none 0 0, .slice none 0 0] 28)
  have DX := Blk.new w2 28 #[.slice none 0 0, .slice none 0 0, .slice none 0 0, .slice none 0 0]
  clear s0 s1 s2 s3
  obtain ⟨o0, o1, o2, o3⟩ := DX.four
  go_wp2_with fail
  go_ret
  exact ⟨by first | rfl | simp, hb03⟩

set_option maxRecDepth 100000 in
set_option maxHeartbeats 8000000 in
theorem playRight_skip (A : Option Addr) (n c : Nat) (RA : Option Addr) (rn rc : Nat) (PA : Option Addr) (pn pc : Nat) (HA : Option Addr) (hn hc : Nat) (S : St) (OA : Option Addr) (on oc : Nat) (l : List OpV) (k : Int) (w : World) (hR : StR w w.heap.size A n RA rn PA pn HA hn S) (hK : StK n c rn pn hn S) (hr : Reads w w.heap.size 5 OA on (opsC l)) (hnc : on ≤ oc) (hoc : oc ≤ maxLen) (hv : ∀ o ∈ l, (Lit.int .u64 o.v).wf = true) (hT : FTab w) (hE : playE S on = 0) (h0 : ∀ K : Nat, k = K → K < on → ∃ v, (playT S l)[K]? = some ⟨0, v⟩) :
    Calls Tryz.prog 3 #[.agg #[.slice A n c, .slice RA rn rc, .slice PA pn pc, .slice HA hn hc], .slice OA on oc, .int .i64 k] w fun e w' => e = .returned (.bool true) ∧ Below w.heap.size w w' := by
  obtain ⟨hOK, hn2⟩ := playE_zero hE
  have hll : l.length = on := by have := hr.1; rw [opsC_length] at this; omega
  have HP := Lib.hid (fun w hR hr hT => play_ok A n c RA rn rc PA pn pc HA hn hc S OA on oc l w hR hK hOK hn2 hr hv hT)
  have HRF := Lib.hid hr
  have hGx : StGood (playS S l) := playS_good l ⟨hOK, hK.wf⟩ hv
  have HGx := Lib.hid hGx
  have HN2 := Lib.hid hn2
  have HH := Lib.hid (fun w hT => plays_true w hT)
  have HT := Lib.hid hT
  have hb1 := below_new w (.cells #[.slice A n c, .slice RA rn rc, .slice PA pn pc, .slice HA hn hc] 28)
  have DS := Blk.new w 28 #[.slice A n c, .slice RA rn rc, .slice PA pn pc, .slice HA hn hc]
  have H0 := Lib.hid h0
  clear hE hT hK hv hoc hr hOK hll hn2 h0 hnc hGx
  go_enter Tryz.func3, Tryz.ntmps3
  go_wp2_with fail
  refine (HH.out _ (HT.out.below hb1)).mono ?_
  rintro e w1 ⟨rfl, hb2⟩
  have hb02 := below_step hb1 hb2
  have DS2 := DS.below hb2 DS.lt
  obtain ⟨s0, s1, s2, s3⟩ := DS2.four
  clear DS
  go_wp2_with fail
  refine (HP.out _ ((hR.below hb02).more hb02.size) ((HRF.out.below hb02).more hb02.size) (HT.out.below hb02)).mono ?_
  rintro e w2 ⟨hb3, B1, n1, d1, B2, n2, d2, B3, n3, d3, B4, n4, d4, T, tc, rfl, hOx, hTx⟩
  have hb03 := below_step hb02 hb3
  have hb04 := hb03.alloc hb03.size (.cells #[.slice B1 n1 d1, .slice B2 n2 d2, .slice B3 n3 d3, .slice B4 n4 d4] 28)
  have DX := Blk.new w2 28 #[.slice B1 n1 d1, .slice B2 n2 d2, .slice B3 n3 d3, .slice B4 n4 d4]
  have DS := (DS2.below hb3 DS2.lt).alloc (.cells #[.slice B1 n1 d1, .slice B2 n2 d2, .slice B3 n3 d3, .slice B4 n4 d4] 28)
  have hOx4 := hOx.alloc (.cells #[.slice B1 n1 d1, .slice B2 n2 d2, .slice B3 n3 d3, .slice B4 n4 d4] 28)
  have hRx := hOx4.reads
  have hKx := HGx.out.known hOx
  have HCk := Lib.hid (fun w hR => stcheck_any B1 n1 d1 B2 n2 d2 B3 n3 d3 B4 n4 d4 (playS S l) w hR hKx)
  rw [stE_ok.2 HGx.out.ok] at HCk
  have hrx := Reads.of_own (hTx.alloc (.cells #[.slice B1 n1 d1, .slice B2 n2 d2, .slice B3 n3 d3, .slice B4 n4 d4] 28))
  have hR1 := (hR.below hb04).more hb04.size
  have hrO := (HRF.out.below hb04).more hb04.size
  have HT := Lib.hid (HT.out.below hb04)
  clear s0 s1 s2 s3 DS2 hb02 hb03 hb2 hb3 hb1 hOx hTx HP HH hOx4 hKx
  obtain ⟨o0, o1, o2, o3⟩ := DX.four
  go_wp2_with fail
  refine (HCk.out _ hRx).mono ?_
  rintro e w3 ⟨rfl, hb5⟩
  have hb05 := below_step hb04 hb5
  have DX := DX.below hb5 DX.lt
  have DS := DS.below hb5 DS.lt
  have hRx := (hRx.below hb5).more hb5.size
  have hrx := (hrx.below hb5).more hb5.size
  have hR1 := (hR1.below hb5).more hb5.size
  have hrO := (hrO.below hb5).more hb5.size
  have HT := Lib.hid (HT.out.below hb5)
  clear o0 o1 o2 o3 HCk
  by_cases h1 : k < 0
  · have g1 : decide (k < 0) = true := decide_eq_true h1
    clear h1
    go_wp2_with fail
    go_ret
    exact ⟨by first | rfl | simp, hb05⟩
  · obtain ⟨K, rfl⟩ := Int.eq_ofNat_of_zero_le (show 0 ≤ k by omega)
    have g1 : decide ((K : Int) < 0) = false := decide_eq_false (by omega)
    by_cases h2 : on ≤ K
    · have g2 : decide (on ≤ K) = true := decide_eq_true h2
      have g2' : decide ((on : Int) ≤ (K : Int)) = true := decide_eq_true (by omega)
      clear h1 h2
      go_wp2_with fail
      go_ret
      exact ⟨by first | rfl | simp, hb05⟩
    · have g2 : decide (on ≤ K) = false := decide_eq_false h2
      have g2' : decide ((on : Int) ≤ (K : Int)) = false := decide_eq_false (by omega)
      obtain ⟨v, hv0⟩ := H0.out K rfl (by omega)
      have q1 : K < on := by omega
      have q2 : (K : Int) < (on : Int) := by omega
      obtain ⟨ad, t, rfl, had, ht, c0, c1⟩ := hrx.told q1
      obtain rfl : t = ⟨0, v⟩ := Option.some.inj (ht.symm.trans hv0)
      simp only at c0 c1
      clear h1 h2 ht hv0
      go_wp2_with fail
      go_ret
      exact ⟨by first | rfl | simp, hb05⟩

set_option maxRecDepth 100000 in
set_option maxHeartbeats 8000000 in
theorem playRight_err (A : Option Addr) (n c : Nat) (RA : Option Addr) (rn rc : Nat) (PA : Option Addr) (pn pc : Nat) (HA : Option Addr) (hn hc : Nat) (S : St) (OA : Option Addr) (on oc : Nat) (l : List OpV) (k : Nat) (t : ToldV) (w : World) (hR : StR w w.heap.size A n RA rn PA pn HA hn S) (hK : StK n c rn pn hn S) (hr : Reads w w.heap.size 5 OA on (opsC l)) (hnc : on ≤ oc) (hoc : oc ≤ maxLen) (hv : ∀ o ∈ l, (Lit.int .u64 o.v).wf = true) (hT : FTab w) (hE : playE S on = 0) (hk : k < on) (ht : (playT S l)[k]? = some t) (he : t.e ≠ 0) :
    Calls Tryz.prog 3 #[.agg #[.slice A n c, .slice RA rn rc, .slice PA pn pc, .slice HA hn hc], .slice OA on oc, .int .i64 k] w fun e w' => e = .returned (.bool true) ∧ Below w.heap.size w w' := by
  obtain ⟨hOK, hn2⟩ := playE_zero hE
  have hll : l.length = on := by have := hr.1; rw [opsC_length] at this; omega
  have HP := Lib.hid (fun w hR hr hT => play_ok A n c RA rn rc PA pn pc HA hn hc S OA on oc l w hR hK hOK hn2 hr hv hT)
  have HRF := Lib.hid hr
  have hGx : StGood (playS S l) := playS_good l ⟨hOK, hK.wf⟩ hv
  have HGx := Lib.hid hGx
  have HN2 := Lib.hid hn2
  obtain ⟨m1, m2, m3⟩ := play_without l k S t ht he
  obtain ⟨k1, hk1⟩ : ∃ k1, k1 = k + 1 := ⟨_, rfl⟩
  obtain ⟨n9, hn9⟩ : ∃ n9, n9 = on - 1 := ⟨_, rfl⟩
  have HCl := Lib.hid (fun w hr => clone_op OA on oc w.heap.size (opsC l) w hr (Nat.le_refl _) (opsC_one l) (by omega))
  have HDe := fun base CA cc w hown => delete_op base CA on cc k (opsC l) w hown hk (by omega) (opsC_one l)
  rw [← hn9, opsC_erase l k (by omega), ← hk1] at HDe
  have HDe := Lib.hid HDe
  have HP2 := fun DA dc w hR hr hT => play_ok A n c RA rn rc PA pn pc HA hn hc S DA n9 dc (l.eraseIdx k) w hR hK hOK (by omega) hr (fun o ho => hv o (List.mem_of_mem_eraseIdx ho)) hT
  rw [m1, m2] at HP2
  have HP2 := Lib.hid HP2
  have wk : IntKind.i64.wrap ((k : Int) + 1) = (k1 : Int) := by rw [IntWalk.i64_in _ (by omega)]; omega
  have g1 : decide ((k : Int) < 0) = false := decide_eq_false (by omega)
  have g2 : decide (on ≤ k) = false := decide_eq_false (by omega)
  have g2' : decide ((on : Int) ≤ (k : Int)) = false := decide_eq_false (by omega)
  have q2 : (k : Int) < (on : Int) := by omega
  have g3 : (t.e == 0) = false := by simpa using he
  have HH := Lib.hid (fun w hT => plays_true w hT)
  have HT := Lib.hid hT
  have hb1 := below_new w (.cells #[.slice A n c, .slice RA rn rc, .slice PA pn pc, .slice HA hn hc] 28)
  have DS := Blk.new w 28 #[.slice A n c, .slice RA rn rc, .slice PA pn pc, .slice HA hn hc]
  have HTT := Lib.hid ht
  have HTV := Lib.hid m3
  have HK1 := Lib.hid hk1
  have HN9 := Lib.hid hn9
  clear hE hT hK hv hoc hr hOK hll hn2 hnc hGx m1 m2 m3 ht he hk1 hn9
  go_enter Tryz.func3, Tryz.ntmps3
  go_wp2_with fail
  refine (HH.out _ (HT.out.below hb1)).mono ?_
  rintro e w1 ⟨rfl, hb2⟩
  have hb02 := below_step hb1 hb2
  have DS2 := DS.below hb2 DS.lt
  obtain ⟨s0, s1, s2, s3⟩ := DS2.four
  clear DS
  go_wp2_with fail
  refine (HP.out _ ((hR.below hb02).more hb02.size) ((HRF.out.below hb02).more hb02.size) (HT.out.below hb02)).mono ?_
  rintro e w2 ⟨hb3, B1, n1, d1, B2, n2, d2, B3, n3, d3, B4, n4, d4, T, tc, rfl, hOx, hTx⟩
  have hb03 := below_step hb02 hb3
  have hb04 := hb03.alloc hb03.size (.cells #[.slice B1 n1 d1, .slice B2 n2 d2, .slice B3 n3 d3, .slice B4 n4 d4] 28)
  have DX := Blk.new w2 28 #[.slice B1 n1 d1, .slice B2 n2 d2, .slice B3 n3 d3, .slice B4 n4 d4]
  have DS := (DS2.below hb3 DS2.lt).alloc (.cells #[.slice B1 n1 d1, .slice B2 n2 d2, .slice B3 n3 d3, .slice B4 n4 d4] 28)
  have hOx4 := hOx.alloc (.cells #[.slice B1 n1 d1, .slice B2 n2 d2, .slice B3 n3 d3, .slice B4 n4 d4] 28)
  have hRx := hOx4.reads
  have hKx := HGx.out.known hOx
  have HCk := Lib.hid (fun w hR => stcheck_any B1 n1 d1 B2 n2 d2 B3 n3 d3 B4 n4 d4 (playS S l) w hR hKx)
  rw [stE_ok.2 HGx.out.ok] at HCk
  have hrx := Reads.of_own (hTx.alloc (.cells #[.slice B1 n1 d1, .slice B2 n2 d2, .slice B3 n3 d3, .slice B4 n4 d4] 28))
  have hR1 := (hR.below hb04).more hb04.size
  have hrO := (HRF.out.below hb04).more hb04.size
  have HT := Lib.hid (HT.out.below hb04)
  clear s0 s1 s2 s3 DS2 hb02 hb03 hb2 hb3 hb1 hOx hTx HP HH hOx4 hKx
  obtain ⟨o0, o1, o2, o3⟩ := DX.four
  go_wp2_with fail
  refine (HCk.out _ hRx).mono ?_
  rintro e w3 ⟨rfl, hb5⟩
  have hb05 := below_step hb04 hb5
  have DX := DX.below hb5 DX.lt
  have DS := DS.below hb5 DS.lt
  have hRx := (hRx.below hb5).more hb5.size
  have hrx := (hrx.below hb5).more hb5.size
  have hR1 := (hR1.below hb5).more hb5.size
  have hrO := (hrO.below hb5).more hb5.size
  have HT := Lib.hid (HT.out.below hb5)
  clear o0 o1 o2 o3 HCk
  obtain ⟨ad, t', rfl, had, ht', c0, c1⟩ := hrx.told hk
  obtain rfl : t' = t := Option.some.inj (ht'.symm.trans HTT.out)
  clear ht'
  have lt3 : w.heap.size < w3.heap.size := DS.lt
  go_upto_region 10 with fail
  go_cut [10, 11, 12] from 13 to 94 (fun s10 s11 s12 wc => ∃ (g : Nat) (C1 : Option Addr) (m1 e1 : Nat) (C2 : Option Addr) (m2 e2 : Nat) (C3 : Option Addr) (m3 e3 : Nat) (C4 : Option Addr) (m4 e4 : Nat) (U : Option Addr) (uc : Nat), s10 = .pointer (some ⟨g, 0, none⟩) ∧ s11 = .slice U n9 uc ∧ s12 = .int .i64 0 ∧ w3.heap.size ≤ g ∧ Blk wc g 28 #[.slice C1 m1 e1, .slice C2 m2 e2, .slice C3 m3 e3, .slice C4 m4 e4] ∧
    StO wc w3.heap.size C1 m1 e1 C2 m2 e2 C3 m3 e3 C4 m4 e4 (playS S l) ∧ wc.ownsRow w3.heap.size 38 2 (.slice U n9 uc) n9 (toldsC ((playT S l).eraseIdx k)) ∧ Below w3.heap.size w3 wc)
  case first =>
    have hb := (Below.refl w3.heap.size w3).drew
    obtain ⟨h0, h1, h2, h3⟩ := DS.four
    have DS := DS.drew
    obtain ⟨s0, s1, s2, s3⟩ := DS.four
    have hbz := (below_new w3 (.cells #[.slice none 0 0, .slice none 0 0, .slice none 0 0, .slice none 0 0] 28)).drew
    have DSz := DS.alloc (.cells #[.slice none 0 0, .slice none 0 0, .slice none 0 0, .slice none 0 0] 28)
    have DOz := (Blk.new w3 28 #[.slice none 0 0, .slice none 0 0, .slice none 0 0, .slice none 0 0]).drew
    have ne1 : w3.heap.size ≠ w.heap.size := by omega
    have ne2 : ∀ {wx : World}, Below w3.heap.size w3 wx → wx.heap.size ≠ w.heap.size := fun h => by have := h.size; omega
    go_region_held3 (fun w' => w'.cell? ⟨w.heap.size, 0, none⟩ = some (.slice A n c) ∧ w'.cell? ⟨w.heap.size, 1, none⟩ = some (.slice RA rn rc) ∧ w'.cell? ⟨w.heap.size, 2, none⟩ = some (.slice PA pn pc) ∧ w'.cell? ⟨w.heap.size, 3, none⟩ = some (.slice HA hn hc)) (go_keep)
      (first
        | (go_at_call 9; (with_reducible refine (HCl.out _ ((hrO.below hb).more hb.size)).mono ?_); rintro e wA ⟨CA, cc, rfl, hoA, hbA⟩; have hbs := hb.size; have DS := DS.below hbA DS.lt; obtain ⟨s0, s1, s2, s3⟩ := DS.four; have hb := hb.trans (hbA.mono hbs); have ne3 := ne2 hb; have hoA := own_mono hoA hbs; have hbz := hb.alloc hb.size (.cells #[.slice none 0 0, .slice none 0 0, .slice none 0 0, .slice none 0 0] 28); have DSz := DS.alloc (.cells #[.slice none 0 0, .slice none 0 0, .slice none 0 0, .slice none 0 0] 28); have DOz := Blk.new wA 28 #[.slice none 0 0, .slice none 0 0, .slice none 0 0, .slice none 0 0]; have hoz := hoA.alloc (.cells #[.slice none 0 0, .slice none 0 0, .slice none 0 0, .slice none 0 0] 28))
        | (go_at_call 9; (with_reducible refine (HCl.out _ ((hrO.below hbz).more hbz.size)).mono ?_); rintro e wA ⟨CA, cc, rfl, hoA, hbA⟩; have hbs := hbz.size; have DS := DSz.below hbA DSz.lt; obtain ⟨s0, s1, s2, s3⟩ := DS.four; have hb := hbz.trans (hbA.mono hbs); have hoA := own_mono hoA hbs; have DO := DOz.below hbA DOz.lt; have hge := Nat.le_refl w3.heap.size)
        | (go_at_call 8; (with_reducible refine (HDe.out _ CA cc _ hoA).mono ?_); rintro e wB ⟨DA, dc, rfl, hoB, hbB, hgB⟩; have DS := DS.below hbB lt3; obtain ⟨s0, s1, s2, s3⟩ := DS.four; (try have DO := DO.drew.grown hgB (fun h => own_blk_ne hoA.drew DO.drew (by decide) h.symm)); have hb := hb.trans hbB; have ne3 := ne2 hb; have hbz := hb.alloc hb.size (.cells #[.slice none 0 0, .slice none 0 0, .slice none 0 0, .slice none 0 0] 28); have DSz := DS.alloc (.cells #[.slice none 0 0, .slice none 0 0, .slice none 0 0, .slice none 0 0] 28); have DOz := Blk.new wB 28 #[.slice none 0 0, .slice none 0 0, .slice none 0 0, .slice none 0 0]; have hoz := hoB.alloc (.cells #[.slice none 0 0, .slice none 0 0, .slice none 0 0, .slice none 0 0] 28))
        | (go_at_call 8; (with_reducible refine (HDe.out _ CA cc _ hoz).mono ?_); rintro e wB ⟨DA, dc, rfl, hoB, hbB, hgB⟩; have DS := DSz.below hbB lt3; obtain ⟨s0, s1, s2, s3⟩ := DS.four; have DO := DOz.drew.grown hgB (fun h => own_blk_ne hoz.drew DOz.drew (by decide) h.symm); have hge := hb.size; have hb := hbz.trans hbB)
        | (go_at_call 6; (with_reducible refine (HP2.out DA dc _ ((hR1.below hb).more hb.size) (Reads.of_own hoB) (HT.out.below hb)).mono ?_); rintro e wC ⟨hbC, C1, m1, e1, C2, m2, e2, C3, m3, e3, C4, m4, e4, U, uc, rfl, hoC, htC⟩; have hbs := hb.size; have DS := DS.below hbC DS.lt; obtain ⟨s0, s1, s2, s3⟩ := DS.four; (try (have DO := DO.below hbC DO.lt; obtain ⟨x0, x1, x2, x3⟩ := DO.four; obtain ⟨f0, f1, f2, f3⟩ := DO.four_frozen)); have hb := hb.trans (hbC.mono hbs); have ne3 := ne2 hb; have hoC := hoC.mono hbs; have htC := own_mono htC hbs)
        | (go_at_call 6; (with_reducible refine (HP2.out DA dc _ ((hR1.below hbz).more hbz.size) (Reads.of_own hoz) (HT.out.below hbz)).mono ?_); rintro e wC ⟨hbC, C1, m1, e1, C2, m2, e2, C3, m3, e3, C4, m4, e4, U, uc, rfl, hoC, htC⟩; have hbs := hbz.size; have hge := hb.size; have DS := DSz.below hbC DSz.lt; obtain ⟨s0, s1, s2, s3⟩ := DS.four; have DO := DOz.below hbC DOz.lt; obtain ⟨x0, x1, x2, x3⟩ := DO.four; obtain ⟨f0, f1, f2, f3⟩ := DO.four_frozen; have hb := hbz.trans (hbC.mono hbs); have hoC := hoC.mono hbs; have htC := own_mono htC hbs))
    all_goals
      go_wp2_with fail
      go_meet
      first
        | exact ⟨_, C1, m1, e1, C2, m2, e2, C3, m3, e3, C4, m4, e4, U, uc, rfl, rfl, rfl, hb.size, Blk.new wC _ _, hoC.alloc _, htC.alloc _, hb.alloc hb.size _⟩
        | exact ⟨_, C1, m1, e1, C2, m2, e2, C3, m3, e3, C4, m4, e4, U, uc, rfl, rfl, rfl, hge, (((DO.set_ 0 _).set_ 1 _).set_ 2 _).set_ 3 _, hoC.store DO _ _ _ _, own_block4 htC DO (by decide) _ _ _ _, below_block4 hb hge _ _ _ _⟩
  case rest =>
    obtain ⟨g, C1, m1, e1, C2, m2, e2, C3, m3, e3, C4, m4, e4, U, uc, rfl, rfl, rfl, hg, DC, hOy, hTy, hbc⟩ := hcut
    have hb06 := below_step hb05 hbc
    have DX6 := DX.below hbc DX.lt
    have hRx6 := (hRx.below hbc).more hbc.size
    have hrx6 := (hrx.below hbc).more hbc.size
    have hRy6 := hOy.reads
    have hry6 := Reads.of_own hTy
    obtain ⟨t1, t2, t3, t4⟩ := hRx6.lens
    obtain ⟨u1, u2, u3, u4⟩ := hRy6.lens
    obtain ⟨v1, v2, v3, v4, -⟩ := HGx.out.ok.lens
    obtain rfl : m1 = n1 := by omega
    obtain rfl : m2 = n2 := by omega
    obtain rfl : m3 = n3 := by omega
    obtain rfl : m4 = n4 := by omega
    have HSS := Lib.hid (fun w hR hR' => sameSt_true B1 m1 d1 B2 m2 d2 B3 m3 d3 B4 m4 d4 C1 e1 C2 e2 C3 e3 C4 e4 (playS S l) w hR hR' (by omega) (by omega) (by omega) (by omega))
    have h8 := HN2.out
    have HCT := Lib.hid (fun w hr => clone_told (some ad) on tc w.heap.size (toldsC (playT S l)) w hr (Nat.le_refl _) (toldsC_one _) (by omega))
    have hpl : k < (playT S l).length := (List.getElem?_eq_some_iff.1 HTT.out).1
    have HDT := fun base A' c' w hown => delete_told base A' on c' k (toldsC (playT S l)) w hown hk (by omega) (toldsC_one _)
    rw [← HN9.out, toldsC_erase _ k hpl, ← HK1.out] at HDT
    have HDT := Lib.hid HDT
    have h9 : n9 ≤ 1000000000000000000 := by have := HN9.out; omega
    have HEq := Lib.hid (fun A2 c2 B B2 w r r2 => equal_told U A2 n9 uc c2 B B2 ((playT S l).eraseIdx k) w r r2 h9)
    clear t1 t2 t3 t4 u1 u2 u3 u4 v1 v2 v3 v4 hRx hrx hR1 hrO HT HCl HDe HP2 hOy hTy DX DS hb05 hbc hg h8 h9 hpl c0 c1
    obtain ⟨a0, a1, a2, a3⟩ := DX6.four
    obtain ⟨z0, z1, z2, z3⟩ := DC.four
    go_wp2_with fail
    refine (HSS.out _ hRx6 hRy6).mono ?_
    rintro e w5 ⟨rfl, hb7⟩
    have hb07 := below_step hb06 hb7
    have hrx7 := (hrx6.below hb7).more hb7.size
    have hry7 := (hry6.below hb7).more hb7.size
    clear a0 a1 a2 a3 z0 z1 z2 z3 DX6 DC hRx6 hRy6 hrx6 hry6 HSS hb06 hb7
    go_wp2_with fail
    refine (HCT.out _ hrx7).mono ?_
    rintro e w6 ⟨A', c', rfl, hoT, hb8⟩
    go_wp2_with fail
    refine (HDT.out _ A' c' _ hoT).mono ?_
    rintro e w7 ⟨A'', c'', rfl, hoD, hb9, -⟩
    have hb59 := hb8.trans hb9
    have hb09 := below_step hb07 hb59
    have hrx9 := hrx7.below hb59
    have hry9 := hry7.below hb59
    go_wp2_with fail
    refine Calls.mono (HEq.out _ _ _ _ _ hry9 (Reads.of_own hoD)) ?_
    rintro e w8 ⟨rfl, q, rfl⟩
    obtain ⟨ad2, t2, e2, -, ht2, c0, c1⟩ := (hrx9.drewN q).told hk
    obtain rfl : ad2 = ad := by injection e2 with e2; exact e2.symm
    obtain rfl : t2 = t' := Option.some.inj (ht2.symm.trans HTT.out)
    rw [HTV.out] at c1
    clear ht2
    go_wp2_with fail
    go_ret
    exact ⟨by first | rfl | simp, below_drewN hb09 q⟩


theorem playRight_any (A : Option Addr) (n c : Nat) (RA : Option Addr) (rn rc : Nat) (PA : Option Addr) (pn pc : Nat) (HA : Option Addr) (hn hc : Nat) (S : St) (OA : Option Addr) (on oc : Nat) (l : List OpV) (k : Int) (w : World) (hR : StR w w.heap.size A n RA rn PA pn HA hn S) (hK : StK n c rn pn hn S) (hr : Reads w w.heap.size 5 OA on (opsC l)) (hnc : on ≤ oc) (hoc : oc ≤ maxLen) (hv : ∀ o ∈ l, (Lit.int .u64 o.v).wf = true) (hz : OA = none → oc = 0) (_ : (Lit.int .i64 k).wf = true) (hT : FTab w) :
    Calls Tryz.prog 3 #[.agg #[.slice A n c, .slice RA rn rc, .slice PA pn pc, .slice HA hn hc], .slice OA on oc, .int .i64 k] w fun e w' => e = .returned (.bool true) ∧ Below w.heap.size w w' := by
  by_cases hE : playE S on = 0
  · by_cases h0 : ∃ (K : Nat) (t : ToldV), k = K ∧ K < on ∧ (playT S l)[K]? = some t ∧ t.e ≠ 0
    · obtain ⟨K, t, rfl, h1, h2, h3⟩ := h0
      exact playRight_err A n c RA rn rc PA pn pc HA hn hc S OA on oc l K t w hR hK hr hnc hoc hv hT hE h1 h2 h3
    · refine playRight_skip A n c RA rn rc PA pn pc HA hn hc S OA on oc l k w hR hK hr hnc hoc hv hT hE (fun K hK' hlt => ?_)
      have hll : l.length = on := by have := hr.1; rw [opsC_length] at this; omega
      have hl : K < (playT S l).length := by rw [playT_length]; omega
      have ht : (playT S l)[K]? = some (playT S l)[K] := List.getElem?_eq_getElem hl
      by_cases h9 : (playT S l)[K].e = 0
      · refine ⟨(playT S l)[K].v, ?_⟩
        rw [ht]
        congr 1
        rw [← h9]
      · exact absurd ⟨K, _, hK', hlt, ht, h9⟩ h0
  · exact playRight_bad A n c RA rn rc PA pn pc HA hn hc S OA on oc l k w hR hK hr hnc hoc hv hT hE

namespace PlayRight
open Go.ChangeShapes Go.WideShapes Go.ChangeAt Go.RowKit
theorem own : ownKnob Tryz.prog.godebug = none := by kernel_rfl
theorem laidOut : laidOutB Tryz.prog = true := by kernel_rfl

set_option maxRecDepth 100000 in
theorem contract (H : Type) (enc : TypeId × Value → H) (W : World) (base : Nat) (args : Array Value) (ds gs : List (DataW H)) (before : List MemPlace)
    (hval0 : ∀ (j : Nat) t v, Tryz.f3.params[j]? = some t → args[j]? = some v → Value.okWide Tryz.prog W .any base t v)
    (hW : DataW.Whole enc Tryz.prog Tryz.f3.params.toList Rows.playRightSpec.vars false W args.toList ds gs before) (hL : laidMetH Tryz.prog Rows.playRightRow.laid W) :
    Calls Tryz.prog 3 args W fun e W' => ∃ v, e = .returned v ∧ Rows.playRightSpec.post enc Tryz.prog Tryz.f3 false true false false W args v W' := by
  have hval : ∀ (j : Nat) t v, Tryz.f3.params[j]? = some t → args[j]? = some v → Value.okWide Tryz.prog W .any base t v := hval0
  have hT : FTab W := ftab_of hL
  have hW' := hW
  obtain ⟨p, q, hA0, hV, rfl, hfz, hnd⟩ := hW
  have hA : DataW.TrodAll enc Tryz.prog W 0 (fun _ => true) true Tryz.f3.params.toList args.toList ds p := hA0
  rw [Tryz.params3] at hA hval
  obtain ⟨v0, vs0, d0, ds0, p0, q0, hargs, rfl, rfl, h0, hA⟩ := trodAll_cons hA
  obtain ⟨v1, vs1, d1, ds1, p1, q1, rfl, rfl, rfl, h1, hA⟩ := trodAll_cons hA
  obtain ⟨v2, vs2, d2, ds2, p2, q2, rfl, rfl, rfl, h2, hA⟩ := trodAll_cons hA
  obtain ⟨rfl, rfl, rfl⟩ := trodAll_nil hA
  obtain rfl : args = #[v0, v1, v2] := by cases args; simp_all
  obtain ⟨A0, n0, c0, RA0, rn0, rc0, PA0, pn0, pc0, HA0, hn0, hc0, S0, rfl, hR0, hK0⟩ := open_store (hval 0 _ v0 rfl rfl) (fun x hx => hW'.lt x (by simp [hx])) h0
  obtain ⟨A1, n1, c1, l1, rfl, hnc1, hc1, hr1, hv1, hz1⟩ := open_ops (hval 1 _ v1 rfl rfl) (fun x hx => hW'.lt x (by simp [hx])) h1
  obtain ⟨i2, rfl, rfl, rfl, w2⟩ := open_int Tryz.underlying3 (hval 2 _ v2 rfl rfl) h2
  refine (playRight_any A0 n0 c0 RA0 rn0 rc0 PA0 pn0 pc0 HA0 hn0 hc0 S0 A1 n1 c1 l1 i2 W hR0 hK0 hr1 hnc1 hc1 hv1 hz1 w2 hT).mono fun e W' ⟨he, hb⟩ => ?_
  subst he
  exact ⟨_, rfl, law_post laidOut Tryz.underlying4 rfl (by as_aux_lemma => kernel_rfl) rfl rfl hW' hb⟩

theorem laid_met (os : Os) : laidMet Tryz.prog Rows.playRightRow.laid ((fLaidWorld os).forCall (fun _ _ => 0) ⟨#[], #[.agg #[.slice none 0 0, .slice none 0 0, .slice none 0 0, .slice none 0 0], .slice none 0 0, .int .i64 0], []⟩).memory :=
  laidMet_of_run' 8 (by as_aux_lemma => kernel_rfl) (by as_aux_lemma => kernel_rfl)
theorem reads (os : Os) {H : Type} (enc : TypeId × Value → H) : ∃ places, DataW.whole enc Tryz.prog ((fLaidWorld os).forCall (fun _ _ => 0) ⟨#[], #[.agg #[.slice none 0 0, .slice none 0 0, .slice none 0 0, .slice none 0 0], .slice none 0 0, .int .i64 0], []⟩).memory Tryz.f3.params.toList Rows.playRightSpec.vars false #[Value.agg #[Value.slice none 0 0, Value.slice none 0 0, Value.slice none 0 0, Value.slice none 0 0], Value.slice none 0 0, Value.int .i64 0].toList 8 = some ([.agg [.nil, .nil, .nil, .nil], .nil, .lit (.int .i64 0)], [], places) :=
  ⟨[], by as_aux_lemma => kernel_rfl⟩

set_option maxRecDepth 100000 in
theorem lifted (os : Os) (started : os.Started) (H : Type) (enc : TypeId × Value → H) (F : Stop.Interp) :
    ReturnsInHanded {} Tryz.checked os 3 .any ((OpenSpec.ofChange Rows.playRightSpec).preRow enc Tryz.prog Tryz.f3 Rows.playRightRow.domain false Rows.playRightRow.laid) (((OpenSpec.ofChange Rows.playRightSpec).at F).post enc Tryz.prog Tryz.f3 false true false false) := by
  obtain ⟨places, hx⟩ := reads os enc
  refine returnsInHanded_of_row (C := Tryz.checked) (s := OpenSpec.ofChange Rows.playRightSpec) own started (by as_aux_lemma => kernel_rfl) Tryz.func3
    (witness_row_at (enc := enc) (C := Tryz.checked) false (fLaidWorld os) #[.agg #[.slice none 0 0, .slice none 0 0, .slice none 0 0, .slice none 0 0], .slice none 0 0, .int .i64 0] rfl (by as_aux_lemma => kernel_rfl) (by as_aux_lemma => kernel_rfl) (by as_aux_lemma => kernel_rfl)
      (OpenSpec.preRow_of_cond 8 hx (by as_aux_lemma => kernel_rfl) (fun k hk => by cases hk) (by as_aux_lemma => kernel_rfl) (laid_met os))) ?_
  intro W base args ds gs before hval hW _ _ _ hL _ _
  exact contract H enc W base args ds gs before hval hW hL

set_option maxHeartbeats 10000000 in
theorem closed : joinedFacts Tryz.prog 3 Tryz.f3 Rows.playRightSpec Rows.playRightRow = true := by
  unfold joinedFacts
  simp only [Bool.and_eq_true]
  repeat' apply And.intro
  all_goals as_aux_lemma => kernel_rfl

set_option maxRecDepth 100000 in
set_option maxHeartbeats 1000000 in
theorem said : Rows.PlayRightSaid :=
  OpenClaim.holds_of_cond 3 Tryz.f3 rfl rfl rfl rfl rfl rfl rfl ⟨rfl, rfl, rfl, rfl, rfl⟩ rfl rfl rfl rfl rfl (by as_aux_lemma => kernel_rfl) Tryz.func3 closed
    (of_decide_eq_true (by as_aux_lemma => kernel_rfl)) (by unfold Func.isWrapper; first | (rw [if_pos (by decide +kernel)]; kernel_rfl) | (rw [if_neg (by decide +kernel)]; exact ⟨rfl, rfl⟩))
    (fun os started H enc _ F => by rw [OpenClaim.pre_eq_preRow]; exact lifted os started H enc F)

set_option maxRecDepth 100000 in
theorem plain (f : FuncId) (fn : Func) (hf : Tryz.pinned.checked.prog.funcNamed "cairnfield/cairnfieldkeep.PlayRight" = some f) (hfn : Tryz.pinned.checked.prog.funcs[f]? = some fn) :
    false = Tryz.pinned.checked.prog.looks [] ∧ ∀ (j : Nat) t, fn.params[j]? = some t → Tryz.pinned.checked.prog.wantsStandIn t = false := by
  obtain rfl : f = 3 := Option.some.inj ((show Tryz.prog.funcNamed "cairnfield/cairnfieldkeep.PlayRight" = some 3 by kernel_rfl).symm.trans hf) |>.symm
  obtain rfl : fn = Tryz.f3 := (Option.some.inj (Tryz.func3.symm.trans hfn)).symm
  refine ⟨by kernel_rfl, fun j t ht => ?_⟩
  rw [Tryz.params3] at ht
  have hm := Array.mem_of_getElem? ht
  simp only [List.mem_toArray, List.mem_cons, List.not_mem_nil, or_false] at hm
  repeat' (first | (rcases hm with rfl | hm) | (subst hm))
  all_goals first | exact (show Tryz.prog.wantsStandIn 28 = false by kernel_rfl) | exact (show Tryz.prog.wantsStandIn 29 = false by kernel_rfl) | exact (show Tryz.prog.wantsStandIn 3 = false by kernel_rfl)

set_option maxRecDepth 100000 in
theorem proved : Rows.PlayRightCardSaid :=
  Claim7.holds_tied_plain_at .later [] _ _ _ _ said (fun _ h => by cases h) (by kernel_rfl) (fun _ h => by cases h) playRight_row_tie rfl ⟨rfl, rfl⟩ (by kernel_rfl) rfl plain (by kernel_rfl)
end PlayRight
end Go.Proofs.YtccmichgbkmdpaaGreatDoor
