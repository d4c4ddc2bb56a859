/-
  PlayCollects answers true for every store, list of deeds and number, and changes no argument: additional collections change no result except positions and whether the store was collected, as long as there is space. The table of forms lies as its initialiser lays it (tied on the card).
-/
import Derived.Test.YtccmichgbkmdpaaGreatDoorG17
import Derived.Test.YtccmichgbkmdpaaGreatDoorG21
import Derived.Test.YtccmichgbkmdpaaGreatDoorG22
import Derived.Test.YtccmichgbkmdpaaGreatDoorG23
import Derived.Test.YtccmichgbkmdpaaGreatDoorG24
namespace Go.Proofs.YtccmichgbkmdpaaGreatDoor
open Go.RowKit

theorem opsC_ins (l : List OpV) (k : Nat) (h : k ≤ l.length) : (opsC l).take (k * 5) ++ (opC collOp ++ (opsC l).drop (k * 5)) = opsC (insL l k) := by
  rw [opsC_take l k h, opsC_drop l k h]
  unfold insL opsC
  rw [List.flatMap_append, List.flatMap_cons]
theorem opsC_oneC (l : List OpV) : ∀ u ∈ opsC l, u.oneCell' = true := by
  intro u hu
  obtain ⟨t, -, h⟩ := List.mem_flatMap.1 hu
  simp only [opC, List.mem_cons, List.not_mem_nil, or_false] at h
  rcases h with rfl | rfl | rfl | rfl | rfl <;> rfl
theorem toldsC_eraseC (l : List ToldV) (k : Nat) (h : k < l.length) : (toldsC l).take (k * 2) ++ (toldsC l).drop ((k + 1) * 2) = toldsC (l.eraseIdx k) := by
  have e : ∀ j, j ≤ l.length → (toldsC l).take (j * 2) = toldsC (l.take j) ∧ (toldsC l).drop (j * 2) = toldsC (l.drop j) := by
    intro j hj
    have e : toldsC l = toldsC (l.take j) ++ toldsC (l.drop j) := by rw [← toldsC_app, List.take_append_drop]
    have hl : (toldsC (l.take j)).length = j * 2 := by rw [toldsC_length, List.length_take, Nat.min_eq_left hj]
    constructor
    · rw [e, List.take_append_of_le_length (by omega), List.take_of_length_le (by omega)]
    · rw [e, List.drop_append_of_le_length (by omega), List.drop_of_length_le (by omega), List.nil_append]
  rw [(e k (by omega)).1, (e (k + 1) (by omega)).2, ← toldsC_app, List.eraseIdx_eq_take_drop_succ]
theorem own_low {w : World} {base size n g : Nat} {e : TypeId} {v : Value} {xs : List Value} (h : w.ownsRow base e size v n xs) (hlt : g < base) : v.ownBlock ≠ some g := fun e => absurd (own_ge h e) (Nat.not_le.2 hlt)
theorem own_high {w : World} {base size n g : Nat} {e : TypeId} {v : Value} {xs : List Value} (h : w.ownsRow base e size v n xs) (hge : w.heap.size ≤ g) : v.ownBlock ≠ some g := fun e => absurd (h.lt g e).2 (Nat.not_lt.2 hge)
theorem Blk.rest {w w' : World} {g : Nat} {t : TypeId} {cs : Array Value} (h : Blk w g t cs) {row : Option Nat} (hk : ∀ b, b < w.heap.size → row ≠ some b → w'.heap[b]? = w.heap[b]?) (hne : row ≠ some g) : Blk w' g t cs := (hk g h.lt hne).trans h

set_option maxRecDepth 100000 in
set_option maxHeartbeats 4000000 in
theorem playCollects_bad (A : Option Addr) (n c : Nat) (RA : Option Addr) (rn rc : Nat) (PA : Option Addr) (pn pc : Nat) (HA : Option Addr) (hn hc : Nat) (S : St) (OA : Option Addr) (on oc : Nat) (l : List OpV) (k : Int) (w : World) (hR : StR w w.heap.size A n RA rn PA pn HA hn S) (hK : StK n c rn pn hn S) (hr : Reads w w.heap.size 5 OA on (opsC l)) (hnc : on ≤ oc) (hoc : oc ≤ maxLen) (hv : ∀ o ∈ l, (Lit.int .u64 o.v).wf = true) (hT : FTab w) (hE : playE S on ≠ 0) :
    Calls Tryz.prog 4 #[.agg #[.slice A n c, .slice RA rn rc, .slice PA pn pc, .slice HA hn hc], .slice OA on oc, .int .i64 k] w fun e w' => e = .returned (.bool true) ∧ Below w.heap.size w w' := by
  have HP := Lib.hid (fun w hR => play_bad A n c RA rn rc PA pn pc HA hn hc S OA on oc w hR hK hE)
  have g1 : (playE S on != 0) = true := by simpa using hE
  generalize playE S on = F at *
  have HH := Lib.hid (fun w hT => plays_true w hT)
  have HT := Lib.hid hT
  have hb1 := below_new w (.cells #[.slice A n c, .slice RA rn rc, .slice PA pn pc, .slice HA hn hc] 28)
  have DS := Blk.new w 28 #[.slice A n c, .slice RA rn rc, .slice PA pn pc, .slice HA hn hc]
  clear hE hT hK hv hoc hnc hr
  go_enter Tryz.func4, Tryz.ntmps4
  go_wp2_with fail
  refine (HH.out _ (HT.out.below hb1)).mono ?_
  rintro e w1 ⟨rfl, hb2⟩
  have hb02 := below_step hb1 hb2
  have DS2 := DS.below hb2 DS.lt
  obtain ⟨s0, s1, s2, s3⟩ := DS2.four
  go_wp2_with fail
  refine (HP.out _ ((hR.below hb02).more hb02.size)).mono ?_
  rintro e w2 ⟨hb3, rfl⟩
  have hb03 := (below_step hb02 hb3).alloc (below_step hb02 hb3).size (.cells #[.slice none 0 0, .slice none 0 0, .slice none 0 0, .slice none 0 0] 28)
  clear s0 s1 s2 s3
  go_wp2_with fail
  go_ret
  exact ⟨by first | rfl | simp, hb03⟩

set_option maxRecDepth 100000 in
set_option maxHeartbeats 4000000 in
theorem playCollects_out (A : Option Addr) (n c : Nat) (RA : Option Addr) (rn rc : Nat) (PA : Option Addr) (pn pc : Nat) (HA : Option Addr) (hn hc : Nat) (S : St) (OA : Option Addr) (on oc : Nat) (l : List OpV) (k : Int) (w : World) (hR : StR w w.heap.size A n RA rn PA pn HA hn S) (hK : StK n c rn pn hn S) (hr : Reads w w.heap.size 5 OA on (opsC l)) (hnc : on ≤ oc) (hoc : oc ≤ maxLen) (hv : ∀ o ∈ l, (Lit.int .u64 o.v).wf = true) (hT : FTab w) (hE : playE S on = 0) (h0 : ¬ (0 ≤ k ∧ k ≤ on ∧ on < 200)) :
    Calls Tryz.prog 4 #[.agg #[.slice A n c, .slice RA rn rc, .slice PA pn pc, .slice HA hn hc], .slice OA on oc, .int .i64 k] w fun e w' => e = .returned (.bool true) ∧ Below w.heap.size w w' := by
  obtain ⟨hOK, hn2⟩ := playE_zero hE
  have HP := Lib.hid (fun w hR hr hT => play_ok A n c RA rn rc PA pn pc HA hn hc S OA on oc l w hR hK hOK hn2 hr hv hT)
  have HRF := Lib.hid hr
  have h1 : k < 0 ∨ (¬ k < 0 ∧ (on : Int) < k) ∨ (¬ k < 0 ∧ ¬ (on : Int) < k ∧ on = 200) := by omega
  have HH := Lib.hid (fun w hT => plays_true w hT)
  have HT := Lib.hid hT
  have hb1 := below_new w (.cells #[.slice A n c, .slice RA rn rc, .slice PA pn pc, .slice HA hn hc] 28)
  have DS := Blk.new w 28 #[.slice A n c, .slice RA rn rc, .slice PA pn pc, .slice HA hn hc]
  clear hE hT hK hv hoc hr hOK hn2 hnc h0
  go_enter Tryz.func4, Tryz.ntmps4
  go_wp2_with fail
  refine (HH.out _ (HT.out.below hb1)).mono ?_
  rintro e w1 ⟨rfl, hb2⟩
  have hb02 := below_step hb1 hb2
  have DS2 := DS.below hb2 DS.lt
  obtain ⟨s0, s1, s2, s3⟩ := DS2.four
  go_wp2_with fail
  refine (HP.out _ ((hR.below hb02).more hb02.size) ((HRF.out.below hb02).more hb02.size) (HT.out.below hb02)).mono ?_
  rintro e w2 ⟨hb3, B1, n1, d1, B2, n2, d2, B3, n3, d3, B4, n4, d4, T, tc, rfl, -, -⟩
  have hb03 := (below_step hb02 hb3).alloc (below_step hb02 hb3).size (.cells #[.slice B1 n1 d1, .slice B2 n2 d2, .slice B3 n3 d3, .slice B4 n4 d4] 28)
  clear s0 s1 s2 s3
  rcases h1 with h1 | ⟨h1, h2⟩ | ⟨h1, h2, h3⟩
  · have g1 : decide (k < 0) = true := decide_eq_true h1
    clear h1
    go_wp2_with fail
    go_ret
    exact ⟨by first | rfl | simp, hb03⟩
  · obtain ⟨K, rfl⟩ := Int.eq_ofNat_of_zero_le (show 0 ≤ k by omega)
    have g1 : decide ((K : Int) < 0) = false := decide_eq_false (by omega)
    have g2 : decide (on < K) = true := decide_eq_true (by omega)
    have g2' : decide ((on : Int) < (K : Int)) = true := decide_eq_true (by omega)
    clear h1 h2
    go_wp2_with fail
    go_ret
    exact ⟨by first | rfl | simp, hb03⟩
  · obtain ⟨K, rfl⟩ := Int.eq_ofNat_of_zero_le (show 0 ≤ k by omega)
    have g1 : decide ((K : Int) < 0) = false := decide_eq_false (by omega)
    have g2 : decide (on < K) = false := decide_eq_false (by omega)
    have g2' : decide ((on : Int) < (K : Int)) = false := decide_eq_false (by omega)
    subst h3
    clear h1 h2
    go_wp2_with fail
    all_goals
      go_ret
      exact ⟨by first | rfl | simp, hb03⟩

set_option maxRecDepth 100000 in
set_option maxHeartbeats 20000000 in
theorem playCollects_ok (A : Option Addr) (n c : Nat) (RA : Option Addr) (rn rc : Nat) (PA : Option Addr) (pn pc : Nat) (HA : Option Addr) (hn hc : Nat) (S : St) (OA : Option Addr) (on oc : Nat) (l : List OpV) (k : Nat) (w : World) (hR : StR w w.heap.size A n RA rn PA pn HA hn S) (hK : StK n c rn pn hn S) (hr : Reads w w.heap.size 5 OA on (opsC l)) (hnc : on ≤ oc) (hoc : oc ≤ maxLen) (hv : ∀ o ∈ l, (Lit.int .u64 o.v).wf = true) (hT : FTab w) (hE : playE S on = 0) (hk : k ≤ on) (h200 : on < 200) :
    Calls Tryz.prog 4 #[.agg #[.slice A n c, .slice RA rn rc, .slice PA pn pc, .slice HA hn hc], .slice OA on oc, .int .i64 k] w fun e w' => e = .returned (.bool true) ∧ Below w.heap.size w w' := by
  obtain ⟨hOK, hn2⟩ := playE_zero hE
  have hll : l.length = on := by have := hr.1; rw [opsC_length] at this; omega
  have HP := Lib.hid (fun w hR hr hT => play_ok A n c RA rn rc PA pn pc HA hn hc S OA on oc l w hR hK hOK hn2 hr hv hT)
  have HRF := Lib.hid hr
  have hG : StGood S := ⟨hOK, hK.wf⟩
  have HGx := Lib.hid (playS_good l hG hv)
  have HGy := Lib.hid (playS_good (insL l k) hG (insL_wf hv))
  obtain ⟨Inv, hI0, hIs, hIe⟩ := collects_law (k := k) hG hv (by omega)
  have HI0 := Lib.hid hI0
  have HIs := Lib.hid hIs
  rw [hll] at hIe
  have HIe := Lib.hid hIe
  obtain ⟨n1x, hn1⟩ : ∃ n1x, n1x = on + 1 := ⟨_, rfl⟩
  obtain ⟨k1, hk1⟩ : ∃ k1, k1 = k + 1 := ⟨_, rfl⟩
  have HCl := Lib.hid (fun w hr => clone_op OA on oc w.heap.size (opsC l) w hr (Nat.le_refl _) (opsC_oneC l) (by omega))
  have HIn := fun (base gv : Nat) CA cc w hown hbs (hv : Blk w gv 41 #[.int .i64 2, .int .i64 0, .int .i64 0, .int .i64 0, .int .u64 0]) hne => insert_op base CA on cc k (opsC l) gv (opC collOp) w hown hbs hk (by omega) (show Blk w gv 41 (opC collOp).toArray from hv) hne (opsC_oneC l) (by intro u hu; simp only [opC, List.mem_cons, List.not_mem_nil, or_false] at hu; rcases hu with rfl | rfl | rfl | rfl | rfl <;> rfl) rfl
  rw [opsC_ins l k (by omega), ← hn1] at HIn
  have HP2 := Lib.hid (fun DA dc w hR hr hT => play_ok A n c RA rn rc PA pn pc HA hn hc S DA n1x dc (insL l k) w hR hK hOK (by omega) hr (insL_wf hv) hT)
  have wk : IntKind.i64.wrap ((k : Int) + 1) = (k1 : Int) := by rw [IntWalk.i64_in _ (by omega)]; omega
  have wn : IntKind.i64.wrap ((on : Int) + 1) = (n1x : Int) := by rw [IntWalk.i64_in _ (by omega)]; omega
  have g1 : decide ((k : Int) < 0) = false := decide_eq_false (by omega)
  have g2 : decide (on < k) = false := decide_eq_false (by omega)
  have g2' : decide ((on : Int) < (k : Int)) = false := decide_eq_false (by omega)
  have g3 : ((on : Int) == 200) = false := by simp; omega
  have g3' : (on == 200) = false := by simp; omega
  have HK1 := Lib.hid hk1
  have HN1 := Lib.hid hn1
  have HKN := Lib.hid (And.intro hk h200)
  have HH := Lib.hid (fun w hT => plays_true w hT)
  have HT := Lib.hid hT
  have hb1 := below_new w (.cells #[.slice A n c, .slice RA rn rc, .slice PA pn pc, .slice HA hn hc] 28)
  have DS := Blk.new w 28 #[.slice A n c, .slice RA rn rc, .slice PA pn pc, .slice HA hn hc]
  have hpl : (playT S (insL l k)).length = n1x := by rw [playT_length, insL_length (by omega)]; omega
  have HPL := Lib.hid hpl
  have HLL := Lib.hid hll
  clear hE hT hK hv hoc hr hOK hll hn2 hnc hG hI0 hIs hIe hk1 hn1 hk h200 hpl
  go_enter Tryz.func4, Tryz.ntmps4
  go_wp2_with fail
  refine (HH.out _ (HT.out.below hb1)).mono ?_
  rintro e w1 ⟨rfl, hb2⟩
  have hb02 := below_step hb1 hb2
  have DS2 := DS.below hb2 DS.lt
  obtain ⟨s0, s1, s2, s3⟩ := DS2.four
  clear DS
  go_wp2_with fail
  refine (HP.out _ ((hR.below hb02).more hb02.size) ((HRF.out.below hb02).more hb02.size) (HT.out.below hb02)).mono ?_
  rintro e w2 ⟨hb3, B1, n1, d1, B2, n2, d2, B3, n3, d3, B4, n4, d4, T, tc, rfl, hOx, hTx⟩
  have hb03 := below_step hb02 hb3
  have hb05 := hb03.alloc hb03.size (.cells #[.slice B1 n1 d1, .slice B2 n2 d2, .slice B3 n3 d3, .slice B4 n4 d4] 28)
  have DX := Blk.new w2 28 #[.slice B1 n1 d1, .slice B2 n2 d2, .slice B3 n3 d3, .slice B4 n4 d4]
  have DS := (DS2.below hb3 DS2.lt).alloc (.cells #[.slice B1 n1 d1, .slice B2 n2 d2, .slice B3 n3 d3, .slice B4 n4 d4] 28)
  have hRx := (hOx.alloc (.cells #[.slice B1 n1 d1, .slice B2 n2 d2, .slice B3 n3 d3, .slice B4 n4 d4] 28)).reads
  have HKx := Lib.hid (HGx.out.known hOx)
  have hrx := Reads.of_own (hTx.alloc (.cells #[.slice B1 n1 d1, .slice B2 n2 d2, .slice B3 n3 d3, .slice B4 n4 d4] 28))
  have hR1 := (hR.below hb05).more hb05.size
  have hrO := (HRF.out.below hb05).more hb05.size
  have HT := Lib.hid (HT.out.below hb05)
  obtain ⟨w3, hW⟩ : ∃ W, W = w2.alloc (.cells #[.slice B1 n1 d1, .slice B2 n2 d2, .slice B3 n3 d3, .slice B4 n4 d4] 28) := ⟨_, rfl⟩
  rw [← hW] at DX DS hRx hrx hR1 hrO HT hb05
  have HW := Lib.hid hW
  obtain ⟨x0, hx0⟩ : ∃ q, q = w2.heap.size := ⟨_, rfl⟩
  rw [← hx0] at DX
  have HX0 := Lib.hid hx0
  have HIn := Lib.hid (HIn w3.heap.size)
  have lt3 : w.heap.size < w3.heap.size := DS.lt
  have HX9 : Hid (x0 < w3.heap.size) := DX.lt
  clear s0 s1 s2 s3 DS2 hb02 hb03 hb2 hb3 hb1 hW hx0 hOx hTx HP HH
  go_upto_region 6 with fail
  rw [← HW.out, ← HX0.out]
  go_cut [10, 11, 12] from 17 to 174 (fun s10 s11 s12 wc => ∃ (g : Nat) (C1 : Option Addr) (m1 e1 : Nat) (C2 : Option Addr) (m2 e2 : Nat) (C3 : Option Addr) (m3 e3 : Nat) (C4 : Option Addr) (m4 e4 : Nat) (U : Option Addr) (uc : Nat), s10 = .pointer (some ⟨g, 0, none⟩) ∧ s11 = .slice U n1x uc ∧ s12 = .int .i64 0 ∧ w3.heap.size ≤ g ∧ Blk wc g 28 #[.slice C1 m1 e1, .slice C2 m2 e2, .slice C3 m3 e3, .slice C4 m4 e4] ∧
    StO wc w3.heap.size C1 m1 e1 C2 m2 e2 C3 m3 e3 C4 m4 e4 (playS S (insL l k)) ∧ wc.ownsRow w3.heap.size 38 2 (.slice U n1x uc) n1x (toldsC (playT S (insL l k))) ∧ Below w3.heap.size w3 wc)
  case first =>
    have hb := (Below.refl w3.heap.size w3).drew
    obtain ⟨h0, h1, h2, h3⟩ := DS.four
    have hbA1 := (below_new w3 (.cells #[.slice none 0 0, .slice none 0 0, .slice none 0 0, .slice none 0 0] 28)).drew
    have DSA1 := (DS.alloc (.cells #[.slice none 0 0, .slice none 0 0, .slice none 0 0, .slice none 0 0] 28)).drew
    have DOA1 := (Blk.new w3 28 #[.slice none 0 0, .slice none 0 0, .slice none 0 0, .slice none 0 0]).drew
    have hgeA1 := Nat.le_refl w3.heap.size
    have hbB1 := (below_new w3 (.cells #[.int .i64 2, .int .i64 0, .int .i64 0, .int .i64 0, .int .u64 0] 41)).drew
    have DSB1 := (DS.alloc (.cells #[.int .i64 2, .int .i64 0, .int .i64 0, .int .i64 0, .int .u64 0] 41)).drew
    have DBB1 := (Blk.new w3 41 #[.int .i64 2, .int .i64 0, .int .i64 0, .int .i64 0, .int .u64 0]).drew
    have hbAB := ((below_new w3 (.cells #[.slice none 0 0, .slice none 0 0, .slice none 0 0, .slice none 0 0] 28)).alloc (by simp) (.cells #[.int .i64 2, .int .i64 0, .int .i64 0, .int .i64 0, .int .u64 0] 41)).drew
    have DSAB := ((DS.alloc (.cells #[.slice none 0 0, .slice none 0 0, .slice none 0 0, .slice none 0 0] 28)).alloc (.cells #[.int .i64 2, .int .i64 0, .int .i64 0, .int .i64 0, .int .u64 0] 41)).drew
    have DOAB := ((Blk.new w3 28 #[.slice none 0 0, .slice none 0 0, .slice none 0 0, .slice none 0 0]).alloc (.cells #[.int .i64 2, .int .i64 0, .int .i64 0, .int .i64 0, .int .u64 0] 41)).drew
    have DBAB := (Blk.new (w3.alloc (.cells #[.slice none 0 0, .slice none 0 0, .slice none 0 0, .slice none 0 0] 28)) 41 #[.int .i64 2, .int .i64 0, .int .i64 0, .int .i64 0, .int .u64 0]).drew
    rw [World.size_alloc] at DBAB
    have hbBA := ((below_new w3 (.cells #[.int .i64 2, .int .i64 0, .int .i64 0, .int .i64 0, .int .u64 0] 41)).alloc (by simp) (.cells #[.slice none 0 0, .slice none 0 0, .slice none 0 0, .slice none 0 0] 28)).drew
    have DSBA := ((DS.alloc (.cells #[.int .i64 2, .int .i64 0, .int .i64 0, .int .i64 0, .int .u64 0] 41)).alloc (.cells #[.slice none 0 0, .slice none 0 0, .slice none 0 0, .slice none 0 0] 28)).drew
    have DBBA := ((Blk.new w3 41 #[.int .i64 2, .int .i64 0, .int .i64 0, .int .i64 0, .int .u64 0]).alloc (.cells #[.slice none 0 0, .slice none 0 0, .slice none 0 0, .slice none 0 0] 28)).drew
    have DOBA := (Blk.new (w3.alloc (.cells #[.int .i64 2, .int .i64 0, .int .i64 0, .int .i64 0, .int .u64 0] 41)) 28 #[.slice none 0 0, .slice none 0 0, .slice none 0 0, .slice none 0 0]).drew
    rw [World.size_alloc] at DOBA
    have hgeBA : w3.heap.size ≤ w3.heap.size + 1 := Nat.le_succ _
    have DS := DS.drew
    obtain ⟨s0, s1, s2, s3⟩ := DS.four
    have ne1 : w3.heap.size ≠ w.heap.size := by omega
    have ne2 : ∀ {wx : World}, Below w3.heap.size w3 wx → wx.heap.size ≠ w.heap.size := fun h => by have := h.size; omega
    have ne4 : w3.heap.size + 1 ≠ w.heap.size := by omega
    have ne2b : ∀ {wx : World}, Below w3.heap.size w3 wx → wx.heap.size + 1 ≠ w.heap.size := fun h => by have := h.size; omega
    go_region_held3 (fun w' => w'.cell? ⟨w.heap.size, 0, none⟩ = some (.slice A n c) ∧ w'.cell? ⟨w.heap.size, 1, none⟩ = some (.slice RA rn rc) ∧ w'.cell? ⟨w.heap.size, 2, none⟩ = some (.slice PA pn pc) ∧ w'.cell? ⟨w.heap.size, 3, none⟩ = some (.slice HA hn hc)) (go_keep)
      (first
        | (go_at_call 9; (with_reducible refine (HCl.out _ ((hrO.below hb).more hb.size)).mono ?_); rintro e wA ⟨CA, cc, rfl, hoA, hbA⟩; have hbs := hb.size; have DS := DS.below hbA DS.lt; obtain ⟨s0, s1, s2, s3⟩ := DS.four; have hb := hb.trans (hbA.mono hbs); have ne3 := ne2 hb; have ne6 := ne2b hb; have hoA := own_mono hoA hbs)
        | (go_at_call 9; (with_reducible refine (HCl.out _ ((hrO.below hbA1).more hbA1.size)).mono ?_); rintro e wA ⟨CA, cc, rfl, hoA, hbA⟩; have hbs := hbA1.size; have DS := DSA1.below hbA DSA1.lt; obtain ⟨s0, s1, s2, s3⟩ := DS.four; have DO := DOA1.below hbA DOA1.lt; have hge := hgeA1; have hb := hbA1.trans (hbA.mono hbs); have ne3 := ne2 hb; have ne6 := ne2b hb; have hoA := own_mono hoA hbs)
        | (go_at_call 9; (with_reducible refine (HCl.out _ ((hrO.below hbB1).more hbB1.size)).mono ?_); rintro e wA ⟨CA, cc, rfl, hoA, hbA⟩; have hbs := hbB1.size; have DS := DSB1.below hbA DSB1.lt; obtain ⟨s0, s1, s2, s3⟩ := DS.four; have DB := DBB1.below hbA DBB1.lt; have hneB := own_low hoA (g := w3.heap.size) (by simp only [World.size_drew, World.size_alloc]; omega); have hb := hbB1.trans (hbA.mono hbs); have ne3 := ne2 hb; have ne6 := ne2b hb; have hoA := own_mono hoA hbs)
        | (go_at_call 9; (with_reducible refine (HCl.out _ ((hrO.below hbAB).more hbAB.size)).mono ?_); rintro e wA ⟨CA, cc, rfl, hoA, hbA⟩; have hbs := hbAB.size; have DS := DSAB.below hbA DSAB.lt; obtain ⟨s0, s1, s2, s3⟩ := DS.four; have DO := DOAB.below hbA DOAB.lt; have hge := hgeA1; have DB := DBAB.below hbA DBAB.lt; have hneB := own_low hoA (g := w3.heap.size + 1) (by simp only [World.size_drew, World.size_alloc]; omega); have hb := hbAB.trans (hbA.mono hbs); have ne3 := ne2 hb; have ne6 := ne2b hb; have hoA := own_mono hoA hbs)
        | (go_at_call 9; (with_reducible refine (HCl.out _ ((hrO.below hbBA).more hbBA.size)).mono ?_); rintro e wA ⟨CA, cc, rfl, hoA, hbA⟩; have hbs := hbBA.size; have DS := DSBA.below hbA DSBA.lt; obtain ⟨s0, s1, s2, s3⟩ := DS.four; have DO := DOBA.below hbA DOBA.lt; have hge := hgeBA; have DB := DBBA.below hbA DBBA.lt; have hneB := own_low hoA (g := w3.heap.size) (by simp only [World.size_drew, World.size_alloc]; omega); have hb := hbBA.trans (hbA.mono hbs); have ne3 := ne2 hb; have ne6 := ne2b hb; have hoA := own_mono hoA hbs)
        | (go_at_call 14; (with_reducible refine (HIn.out _ CA cc _ hoA hb.size DB hneB).mono ?_); rintro e wB ⟨DA, dc, rfl, hoB, hbB, hkB⟩; have DS := DS.below hbB lt3; obtain ⟨s0, s1, s2, s3⟩ := DS.four; (try have DO := DO.rest hkB (own_blk_ne hoA DO (by decide))); have hb := hb.trans hbB; have ne3 := ne2 hb; have ne6 := ne2b hb)
        | (go_at_call 14; have hbI := hb.alloc hb.size (.cells #[.slice none 0 0, .slice none 0 0, .slice none 0 0, .slice none 0 0] 28); have DSI := DS.alloc (.cells #[.slice none 0 0, .slice none 0 0, .slice none 0 0, .slice none 0 0] 28); have hoI := hoA.alloc (.cells #[.slice none 0 0, .slice none 0 0, .slice none 0 0, .slice none 0 0] 28); have DBI := DB.alloc (.cells #[.slice none 0 0, .slice none 0 0, .slice none 0 0, .slice none 0 0] 28); have DOI := Blk.new wA 28 #[.slice none 0 0, .slice none 0 0, .slice none 0 0, .slice none 0 0]; have hgI := hb.size; (with_reducible refine (HIn.out _ CA cc _ hoI hbI.size DBI hneB).mono ?_); rintro e wB ⟨DA, dc, rfl, hoB, hbB, hkB⟩; have DS := DSI.below hbB lt3; obtain ⟨s0, s1, s2, s3⟩ := DS.four; have DO := DOI.rest hkB (own_blk_ne hoI DOI (by decide)); have hge := hgI; have hb := hbI.trans hbB; have ne3 := ne2 hb; have ne6 := ne2b hb)
        | (go_at_call 14; have hbI := hb.alloc hb.size (.cells #[.int .i64 2, .int .i64 0, .int .i64 0, .int .i64 0, .int .u64 0] 41); have DSI := DS.alloc (.cells #[.int .i64 2, .int .i64 0, .int .i64 0, .int .i64 0, .int .u64 0] 41); have hoI := hoA.alloc (.cells #[.int .i64 2, .int .i64 0, .int .i64 0, .int .i64 0, .int .u64 0] 41); have DBI := Blk.new wA 41 #[.int .i64 2, .int .i64 0, .int .i64 0, .int .i64 0, .int .u64 0]; (with_reducible refine (HIn.out _ CA cc _ hoI hbI.size DBI (own_high hoA (Nat.le_refl _))).mono ?_); rintro e wB ⟨DA, dc, rfl, hoB, hbB, hkB⟩; have DS := DSI.below hbB lt3; obtain ⟨s0, s1, s2, s3⟩ := DS.four; (try (have DOI := DO.alloc (.cells #[.int .i64 2, .int .i64 0, .int .i64 0, .int .i64 0, .int .u64 0] 41); have DO := DOI.rest hkB (own_blk_ne hoI DOI (by decide)))); have hb := hbI.trans hbB; have ne3 := ne2 hb; have ne6 := ne2b hb)
        | (go_at_call 14; have hbI := (hb.alloc hb.size (.cells #[.slice none 0 0, .slice none 0 0, .slice none 0 0, .slice none 0 0] 28)).alloc (hb.alloc hb.size (.cells #[.slice none 0 0, .slice none 0 0, .slice none 0 0, .slice none 0 0] 28)).size (.cells #[.int .i64 2, .int .i64 0, .int .i64 0, .int .i64 0, .int .u64 0] 41); have DSI := (DS.alloc (.cells #[.slice none 0 0, .slice none 0 0, .slice none 0 0, .slice none 0 0] 28)).alloc (.cells #[.int .i64 2, .int .i64 0, .int .i64 0, .int .i64 0, .int .u64 0] 41); have hoI := (hoA.alloc (.cells #[.slice none 0 0, .slice none 0 0, .slice none 0 0, .slice none 0 0] 28)).alloc (.cells #[.int .i64 2, .int .i64 0, .int .i64 0, .int .i64 0, .int .u64 0] 41); have DBI := Blk.new (wA.alloc (.cells #[.slice none 0 0, .slice none 0 0, .slice none 0 0, .slice none 0 0] 28)) 41 #[.int .i64 2, .int .i64 0, .int .i64 0, .int .i64 0, .int .u64 0]; rw [World.size_alloc] at DBI; have DOI := (Blk.new wA 28 #[.slice none 0 0, .slice none 0 0, .slice none 0 0, .slice none 0 0]).alloc (.cells #[.int .i64 2, .int .i64 0, .int .i64 0, .int .i64 0, .int .u64 0] 41); have hgI := hb.size; (with_reducible refine (HIn.out _ CA cc _ hoI hbI.size DBI (own_high hoA (Nat.le_succ _))).mono ?_); rintro e wB ⟨DA, dc, rfl, hoB, hbB, hkB⟩; have DS := DSI.below hbB lt3; obtain ⟨s0, s1, s2, s3⟩ := DS.four; have DO := DOI.rest hkB (own_blk_ne hoI DOI (by decide)); have hge := hgI; have hb := hbI.trans hbB; have ne3 := ne2 hb; have ne6 := ne2b hb)
        | (go_at_call 14; have hbI := (hb.alloc hb.size (.cells #[.int .i64 2, .int .i64 0, .int .i64 0, .int .i64 0, .int .u64 0] 41)).alloc (hb.alloc hb.size (.cells #[.int .i64 2, .int .i64 0, .int .i64 0, .int .i64 0, .int .u64 0] 41)).size (.cells #[.slice none 0 0, .slice none 0 0, .slice none 0 0, .slice none 0 0] 28); have DSI := (DS.alloc (.cells #[.int .i64 2, .int .i64 0, .int .i64 0, .int .i64 0, .int .u64 0] 41)).alloc (.cells #[.slice none 0 0, .slice none 0 0, .slice none 0 0, .slice none 0 0] 28); have hoI := (hoA.alloc (.cells #[.int .i64 2, .int .i64 0, .int .i64 0, .int .i64 0, .int .u64 0] 41)).alloc (.cells #[.slice none 0 0, .slice none 0 0, .slice none 0 0, .slice none 0 0] 28); have DBI := (Blk.new wA 41 #[.int .i64 2, .int .i64 0, .int .i64 0, .int .i64 0, .int .u64 0]).alloc (.cells #[.slice none 0 0, .slice none 0 0, .slice none 0 0, .slice none 0 0] 28); have DOI := Blk.new (wA.alloc (.cells #[.int .i64 2, .int .i64 0, .int .i64 0, .int .i64 0, .int .u64 0] 41)) 28 #[.slice none 0 0, .slice none 0 0, .slice none 0 0, .slice none 0 0]; rw [World.size_alloc] at DOI; have hgI : w3.heap.size ≤ wA.heap.size + 1 := Nat.le_succ_of_le hb.size; (with_reducible refine (HIn.out _ CA cc _ hoI hbI.size DBI (own_high hoA (Nat.le_refl _))).mono ?_); rintro e wB ⟨DA, dc, rfl, hoB, hbB, hkB⟩; have DS := DSI.below hbB lt3; obtain ⟨s0, s1, s2, s3⟩ := DS.four; have DO := DOI.rest hkB (own_blk_ne hoI DOI (by decide)); have hge := hgI; have hb := hbI.trans hbB; have ne3 := ne2 hb; have ne6 := ne2b hb)
        | (go_at_call 6; (with_reducible refine (HP2.out DA dc _ ((hR1.below hb).more hb.size) (Reads.of_own hoB) (HT.out.below hb)).mono ?_); rintro e wC ⟨hbC, C1, m1, e1, C2, m2, e2, C3, m3, e3, C4, m4, e4, U, uc, rfl, hoC, htC⟩; have hbs := hb.size; have DS := DS.below hbC DS.lt; obtain ⟨s0, s1, s2, s3⟩ := DS.four; (try (have DO := DO.below hbC DO.lt; obtain ⟨x0, x1, x2, x3⟩ := DO.four; obtain ⟨f0, f1, f2, f3⟩ := DO.four_frozen)); have hb := hb.trans (hbC.mono hbs); have ne3 := ne2 hb; have ne6 := ne2b hb; have hoC := hoC.mono hbs; have htC := own_mono htC hbs)
        | (go_at_call 6; have hbI := hb.alloc hb.size (.cells #[.slice none 0 0, .slice none 0 0, .slice none 0 0, .slice none 0 0] 28); have DSI := DS.alloc (.cells #[.slice none 0 0, .slice none 0 0, .slice none 0 0, .slice none 0 0] 28); have hoI := hoB.alloc (.cells #[.slice none 0 0, .slice none 0 0, .slice none 0 0, .slice none 0 0] 28); have DOI := Blk.new wB 28 #[.slice none 0 0, .slice none 0 0, .slice none 0 0, .slice none 0 0]; have hgI := hb.size; (with_reducible refine (HP2.out DA dc _ ((hR1.below hbI).more hbI.size) (Reads.of_own hoI) (HT.out.below hbI)).mono ?_); rintro e wC ⟨hbC, C1, m1, e1, C2, m2, e2, C3, m3, e3, C4, m4, e4, U, uc, rfl, hoC, htC⟩; have hbs := hbI.size; have DS := DSI.below hbC DSI.lt; obtain ⟨s0, s1, s2, s3⟩ := DS.four; have DO := DOI.below hbC DOI.lt; have hge := hgI; obtain ⟨x0, x1, x2, x3⟩ := DO.four; obtain ⟨f0, f1, f2, f3⟩ := DO.four_frozen; have hb := hbI.trans (hbC.mono hbs); have ne3 := ne2 hb; have ne6 := ne2b hb; have hoC := hoC.mono hbs; have htC := own_mono htC hbs))
    all_goals
      go_wp2_with fail
      go_meet
      first
        | exact ⟨_, C1, m1, e1, C2, m2, e2, C3, m3, e3, C4, m4, e4, U, uc, rfl, rfl, rfl, hb.size, Blk.new wC _ _, hoC.alloc _, htC.alloc _, hb.alloc hb.size _⟩
        | exact ⟨_, C1, m1, e1, C2, m2, e2, C3, m3, e3, C4, m4, e4, U, uc, rfl, rfl, rfl, hge, (((DO.set_ 0 _).set_ 1 _).set_ 2 _).set_ 3 _, hoC.store DO _ _ _ _, own_block4 htC DO (by decide) _ _ _ _, below_block4 hb hge _ _ _ _⟩
  case rest =>
    obtain ⟨g, C1, m1, e1, C2, m2, e2, C3, m3, e3, C4, m4, e4, U, uc, rfl, rfl, rfl, hg, DC, hOu, hTu, hbc⟩ := hcut
    have HKy := Lib.hid (HGy.out.known hOu)
    have hDT := fun w hown => delete_told w3.heap.size U n1x uc k (toldsC (playT S (insL l k))) w hown (by have := HN1.out; have := HKN.out; omega) (by have := HN1.out; have := HKN.out; omega) (toldsC_one _)
    rw [show n1x - 1 = on by have := HN1.out; omega, toldsC_eraseC _ k (by have := HPL.out; have := HN1.out; have := HKN.out; omega), ← HK1.out] at hDT
    have HDT := Lib.hid hDT
    have DXc := DX.below hbc DX.lt
    have hRxc := hRx.below hbc
    have hrxc := hrx.below hbc
    have hrOc := hrO.below hbc
    clear hDT DX hRx hrx hrO hR1 DS HT HCl HIn HP2 HRF lt3
    go_wp2_with fail
    refine (HDT.out _ hTu).mono ?_
    rintro e wD ⟨U2, uc2, rfl, hTd, hbD, hgD⟩
    have hbcD := hbc.trans hbD
    have HD3 : Hid (w3.heap.size ≤ wD.heap.size) := hbcD.size
    have hbL := hb05.trans (hbcD.mono hb05.size)
    have DXL := DXc.below hbD HX9.out
    have DYL := DC.drew.grown hgD (fun h => own_blk_ne hTu.drew DC.drew (by decide) h.symm)
    have hOyL := hOu.drew.grown hTu.drew hgD (by decide) (by decide) (by decide) (by decide)
    have hRxL := (hRxc.below hbD).more hbcD.size
    have hrxL := (hrxc.below hbD).more hbcD.size
    have hrOL := (hrOc.below hbD).more hbcD.size
    have hRyL := hOyL.reads
    have hruL := Reads.of_own hTd
    clear DXc DC hOu hTu hRxc hrxc hrOc hOyL hTd hgD hbD hbc hbcD hb05 HDT hg
    go_wp2_with fail
    go_loopw [79] (fun i wr => ∃ j : Nat, j ≤ on ∧ i = .int .i64 j ∧ Below wD.heap.size wD wr ∧ Hid (Inv j)) (fun i _ => on - (intOf i).toNat)
    case atStart => exact ⟨0, Nat.zero_le _, rfl, Below.refl _ _, HI0.out⟩
    case round =>
      obtain ⟨j, hj, rfl, hbr, HIj⟩ := hrel
      by_cases hlt : j < on
      · obtain ⟨ad, o, rfl, had, ho, c0, c1, c2, c3, c4⟩ := (hrOL.below hbr).op hlt
        obtain ⟨kd, oa, ob, oe, ov⟩ := o
        simp only at c0 c1 c2 c3 c4
        have hba := hbr.alloc hbr.size (.cells #[.int .i64 kd, .int .i64 oa, .int .i64 ob, .int .i64 oe, .int .u64 ov] 41)
        have DO := Blk.new wr 41 #[.int .i64 kd, .int .i64 oa, .int .i64 ob, .int .i64 oe, .int .u64 ov]
        obtain ⟨k0, k1', k2, k3, k4⟩ := DO.five
        obtain ⟨ax, t, rfl, hax, ht, d0, d1⟩ := (hrxL.below hba).told hlt
        obtain ⟨au, u, rfl, hau, hu, e0, e1'⟩ := (hruL.below hba).told hlt
        have HLw := Lib.hid (HIs.out j _ t u HIj.out ho ht hu)
        obtain ⟨te, tv⟩ := t
        obtain ⟨ue, uv⟩ := u
        simp only at d0 d1 e0 e1' HLw
        have hlt' : (j : Int) < (on : Int) := by omega
        have hj2 : j < 200 := by have := HKN.out; omega
        have hbF := hbL.trans (hba.mono hbL.size)
        clear DO ho ht hu hba
        by_cases h8 : kd = 8
        · subst h8
          go_wp2_with fail
          go_ret
          exact ⟨by first | rfl | simp, hbF⟩
        · have q8 : (kd == 8) = false := by simpa using h8
          by_cases h9 : kd = 9
          · subst h9
            go_wp2_with fail
            go_ret
            exact ⟨by first | rfl | simp, hbF⟩
          · have q9 : (kd == 9) = false := by simpa using h9
            by_cases h7 : te = 7
            · subst h7
              clear h8 h9
              go_wp2_with fail
              go_ret
              exact ⟨by first | rfl | simp, hbF⟩
            · have qt : (te == 7) = false := by simpa using h7
              by_cases h7' : ue = 7
              · subst h7'
                clear h8 h9 h7
                go_wp2_with fail
                go_ret
                exact ⟨by first | rfl | simp, hbF⟩
              · have qu : (ue == 7) = false := by simpa using h7'
                obtain ⟨l1, l2, l3⟩ := HLw.out h8 h9 h7 h7'
                subst l1
                have HL3 := Lib.hid l3
                clear l3 HLw h8 h9 h7 h7'
                by_cases p1 : kd = 1
                · subst p1
                  clear l2
                  go_wp2_with fail
                  go_quiet (fail)
                  go_wp2_with fail
                  go_quiet (fail)
                  go_wp2_with fail
                  go_roundw
                  case rel => exact ⟨j + 1, by omega, by go_num, below_drewN (hbr.alloc hbr.size (.cells #[.int .i64 1, .int .i64 oa, .int .i64 ob, .int .i64 oe, .int .u64 ov] 41)) _, HL3.out (fun h => absurd h.1 (by decide))⟩
                  case measure => simp [intOf]; omega
                · have qk1 : (kd != 1) = true := by simpa using p1
                  by_cases p2 : kd = 2
                  · subst p2
                    clear l2 p1
                    go_wp2_with fail
                    go_quiet (fail)
                    go_wp2_with fail
                    go_quiet (fail)
                    go_wp2_with fail
                    go_roundw
                    case rel => exact ⟨j + 1, by omega, by go_num, below_drewN (hbr.alloc hbr.size (.cells #[.int .i64 2, .int .i64 oa, .int .i64 ob, .int .i64 oe, .int .u64 ov] 41)) _, HL3.out (fun h => absurd h.1 (by decide))⟩
                    case measure => simp [intOf]; omega
                  · have qk2 : (kd != 2) = true := by simpa using p2
                    by_cases p7 : kd = 7
                    · subst p7
                      clear l2 p1 p2
                      by_cases hz : te = 0
                      · subst hz
                        go_wp2_with fail
                        go_quiet (fail)
                        go_wp2_with fail
                        go_quiet (fail)
                        go_wp2_with fail
                        go_ret
                        exact ⟨by first | rfl | simp, below_drewN hbF _⟩
                      · have qz : (te == 0) = false := by simpa using hz
                        have HZ := Lib.hid hz
                        clear hz
                        go_wp2_with fail
                        go_quiet (fail)
                        go_wp2_with fail
                        go_quiet (fail)
                        go_wp2_with fail
                        go_roundw
                        case rel => exact ⟨j + 1, by omega, by go_num, below_drewN (hbr.alloc hbr.size (.cells #[.int .i64 7, .int .i64 oa, .int .i64 ob, .int .i64 oe, .int .u64 ov] 41)) _, HL3.out (fun h => HZ.out h.2)⟩
                        case measure => simp [intOf]; omega
                    · have qk7 : (kd != 7) = true := by simpa using p7
                      have qk7' : (kd == 7) = false := by simpa using p7
                      have l2' := l2 p1 p2 p7
                      subst l2'
                      have HP7 := Lib.hid p7
                      clear l2 p1 p2 p7
                      go_wp2_with fail
                      go_quiet (fail)
                      go_wp2_with fail
                      go_quiet (fail)
                      go_wp2_with fail
                      go_roundw
                      case rel => exact ⟨j + 1, by omega, by go_num, below_drewN (hbr.alloc hbr.size (.cells #[.int .i64 kd, .int .i64 oa, .int .i64 ob, .int .i64 oe, .int .u64 ov] 41)) _, HL3.out (fun h => HP7.out h.1)⟩
                      case measure => simp [intOf]; omega
      · obtain rfl : j = on := by omega
        have hA := HIe.out HIj.out
        have hb10 := hbL.trans (hbr.mono hbL.size)
        have DX9 := DXL.below hbr (Nat.lt_of_lt_of_le HX9.out HD3.out)
        have DU9 := DYL.below hbr DYL.lt
        have hR39 := (hRxL.below hbr).more hbr.size
        have hR49 := (hRyL.below hbr).more hbr.size
        have hSd := HGx.out.ok
        have hTd := HGy.out.ok
        obtain ⟨y1, y2, y3, y4, y5⟩ := hSd.lens
        obtain ⟨u1, u2, u3, u4, u5⟩ := hTd.lens
        obtain ⟨v1, v2, v3, v4⟩ := hR39.lens
        obtain ⟨z1, z2, z3, z4⟩ := hR49.lens
        have HRs := Lib.hid (fun w hR => rooted_any B1 n1 d1 B2 n2 d2 B3 n3 d3 B4 n4 d4 (playS S l) w hR (by omega) (by omega) (by omega))
        have HRx := Lib.hid (fun w hR => rooted_any C1 m1 e1 C2 m2 e2 C3 m3 e3 C4 m4 e4 (playS S (insL l k)) w hR (by omega) (by omega) (by omega))
        have hfin := fun (os os' : List Ob) (fo fo' : List Int) (h1 : FormIs (playS S l).a (rootedL (playS S l)) os fo) (h2 : FormIs (playS S (insL l k)).a (rootedL (playS S (insL l k))) os' fo') => hA.forms h1 h2
        have hal1 := hSd.alive
        have hal2 := hTd.alive
        have hwr1 := hSd.wfr
        have hwr2 := hTd.wfr
        generalize rootedL (playS S l) = f1 at *
        generalize rootedL (playS S (insL l k)) = f2 at *
        obtain ⟨k1', hk1⟩ : ∃ k, k = f1.length := ⟨_, rfl⟩
        obtain ⟨k2', hk2⟩ : ∃ k, k = f2.length := ⟨_, rfl⟩
        rw [← hk1] at HRs y5
        rw [← hk2] at HRx u5
        have hAl := fun (As : Option Addr) (cs : Nat) (Ax : Option Addr) (cx : Nat) (w : World) (hr hr2 hr3 hr4) => alike_any B1 n1 d1 (playS S l).a As k1' cs f1 C1 m1 e1 (playS S (insL l k)).a Ax k2' cx f2 w hr HKx.out.cap HKx.out.wf hr2 (by omega) hwr1 hr3 HKy.out.cap HKy.out.wf hr4 (by omega) hwr2
        have HAl := Lib.hid (fun (As : Option Addr) (cs : Nat) (Ax : Option Addr) (cx : Nat) (w : World) (hr hr2 hr3 hr4) => (show Calls Tryz.prog 15 #[.slice B1 n1 d1, .slice As k1' cs, .slice C1 m1 e1, .slice Ax k2' cx] w fun e w' => Below w.heap.size w w' ∧ e = .returned (.tuple #[.bool true, .int .i64 0]) by
          refine (hAl As cs Ax cx w hr hr2 hr3 hr4).mono ?_
          rintro e w' ⟨hb, ⟨-, -, os, fo, os', fo', h1, h2, rfl⟩ | ⟨hno, -⟩⟩
          · obtain ⟨rfl, rfl⟩ := hfin _ _ _ _ h1 h2
            exact ⟨hb, by simp⟩
          · exact absurd ⟨hal1, hal2⟩ hno))
        clear hAl hfin hal1 hal2 hwr1 hwr2 y1 y2 y3 y4 y5 u1 u2 u3 u4 u5 v1 v2 v3 v4 z1 z2 z3 z4 hSd hTd hk1 hk2 hA hrxL hruL hrOL hbL hRxL hRyL
        go_upto_region 22 with fail
        go_cut [15, 16] from 17 to 174 (fun s20 s21 wd => s20 = .bool true ∧ s21 = .int .i64 0 ∧ Below wr.heap.size wr wd)
        case first =>
          have hb := Below.refl wr.heap.size wr |>.drew
          have DS := DX9.drew
          have DG := DU9.drew
          obtain ⟨s0, s1, s2, s3⟩ := DS.four
          obtain ⟨o0, o1, o2, o3⟩ := DG.four
          go_region_held3 (fun w' => (w'.cell? ⟨x0, 0, none⟩ = some (.slice B1 n1 d1) ∧ w'.cell? ⟨x0, 1, none⟩ = some (.slice B2 n2 d2) ∧ w'.cell? ⟨x0, 2, none⟩ = some (.slice B3 n3 d3) ∧ w'.cell? ⟨x0, 3, none⟩ = some (.slice B4 n4 d4)) ∧ w'.cell? ⟨g, 0, none⟩ = some (.slice C1 m1 e1) ∧ w'.cell? ⟨g, 1, none⟩ = some (.slice C2 m2 e2) ∧ w'.cell? ⟨g, 2, none⟩ = some (.slice C3 m3 e3) ∧ w'.cell? ⟨g, 3, none⟩ = some (.slice C4 m4 e4)) (go_keep)
            (first
              | (go_at_call 16; (with_reducible refine (HRs.out _ ((hR39.below hb).more hb.size)).mono ?_); rintro e wA ⟨As, cs, rfl, hoS, hbA⟩; have DS := DS.below hbA DS.lt; have DG := DG.below hbA DG.lt; obtain ⟨s0, s1, s2, s3⟩ := DS.four; obtain ⟨o0, o1, o2, o3⟩ := DG.four; (try have hoX := own_below hoX hbA); have hb := hb.trans (hbA.mono hb.size))
              | (go_at_call 16; (with_reducible refine (HRx.out _ ((hR49.below hb).more hb.size)).mono ?_); rintro e wB ⟨Ax, cx, rfl, hoX, hbB⟩; have DS := DS.below hbB DS.lt; have DG := DG.below hbB DG.lt; obtain ⟨s0, s1, s2, s3⟩ := DS.four; obtain ⟨o0, o1, o2, o3⟩ := DG.four; (try have hoS := own_below hoS hbB); have hb := hb.trans (hbB.mono hb.size))
              | (go_at_call 15; (with_reducible refine (HAl.out As cs Ax cx _ ((hR39.a.below hb).more hb.size) (Reads.of_own hoS) ((hR49.a.below hb).more hb.size) (Reads.of_own hoX)).mono ?_); rintro e wC ⟨hbC, rfl⟩; have DS := DS.below hbC DS.lt; have DG := DG.below hbC DG.lt; obtain ⟨s0, s1, s2, s3⟩ := DS.four; obtain ⟨o0, o1, o2, o3⟩ := DG.four; have hb := hb.trans (hbC.mono hb.size)))
          all_goals
            go_wp2_with fail
            go_meet
            exact ⟨rfl, rfl, hb⟩
        case rest =>
          obtain ⟨rfl, rfl, hbd⟩ := hcut
          have hb11 := below_step hb10 hbd
          go_wp2_with fail
          go_ret
          exact ⟨by first | rfl | simp, hb11⟩


theorem playCollects_any (A : Option Addr) (n c : Nat) (RA : Option Addr) (rn rc : Nat) (PA : Option Addr) (pn pc : Nat) (HA : Option Addr) (hn hc : Nat) (S : St) (OA : Option Addr) (on oc : Nat) (l : List OpV) (k : Int) (w : World) (hR : StR w w.heap.size A n RA rn PA pn HA hn S) (hK : StK n c rn pn hn S) (hr : Reads w w.heap.size 5 OA on (opsC l)) (hnc : on ≤ oc) (hoc : oc ≤ maxLen) (hv : ∀ o ∈ l, (Lit.int .u64 o.v).wf = true) (_ : OA = none → oc = 0) (_ : (Lit.int .i64 k).wf = true) (hT : FTab w) :
    Calls Tryz.prog 4 #[.agg #[.slice A n c, .slice RA rn rc, .slice PA pn pc, .slice HA hn hc], .slice OA on oc, .int .i64 k] w fun e w' => e = .returned (.bool true) ∧ Below w.heap.size w w' := by
  by_cases hE : playE S on = 0
  · by_cases h0 : 0 ≤ k ∧ k ≤ on ∧ on < 200
    · obtain ⟨K, rfl⟩ := Int.eq_ofNat_of_zero_le h0.1
      exact playCollects_ok A n c RA rn rc PA pn pc HA hn hc S OA on oc l K w hR hK hr hnc hoc hv hT hE (by omega) h0.2.2
    · exact playCollects_out A n c RA rn rc PA pn pc HA hn hc S OA on oc l k w hR hK hr hnc hoc hv hT hE h0
  · exact playCollects_bad A n c RA rn rc PA pn pc HA hn hc S OA on oc l k w hR hK hr hnc hoc hv hT hE

namespace PlayCollects
open Go.ChangeShapes Go.WideShapes Go.ChangeAt Go.RowKit
theorem own : ownKnob Tryz.prog.godebug = none := by kernel_rfl
theorem laidOut : laidOutB Tryz.prog = true := by kernel_rfl

set_option maxRecDepth 100000 in
theorem contract (H : Type) (enc : TypeId × Value → H) (W : World) (base : Nat) (args : Array Value) (ds gs : List (DataW H)) (before : List MemPlace)
    (hval0 : ∀ (j : Nat) t v, Tryz.f4.params[j]? = some t → args[j]? = some v → Value.okWide Tryz.prog W .any base t v)
    (hW : DataW.Whole enc Tryz.prog Tryz.f4.params.toList Rows.playCollectsSpec.vars false W args.toList ds gs before) (hL : laidMetH Tryz.prog Rows.playCollectsRow.laid W) :
    Calls Tryz.prog 4 args W fun e W' => ∃ v, e = .returned v ∧ Rows.playCollectsSpec.post enc Tryz.prog Tryz.f4 false true false false W args v W' := by
  have hval : ∀ (j : Nat) t v, Tryz.f4.params[j]? = some t → args[j]? = some v → Value.okWide Tryz.prog W .any base t v := hval0
  have hT : FTab W := ftab_of hL
  have hW' := hW
  obtain ⟨p, q, hA0, hV, rfl, hfz, hnd⟩ := hW
  have hA : DataW.TrodAll enc Tryz.prog W 0 (fun _ => true) true Tryz.f4.params.toList args.toList ds p := hA0
  rw [Tryz.params4] at hA hval
  obtain ⟨v0, vs0, d0, ds0, p0, q0, hargs, rfl, rfl, h0, hA⟩ := trodAll_cons hA
  obtain ⟨v1, vs1, d1, ds1, p1, q1, rfl, rfl, rfl, h1, hA⟩ := trodAll_cons hA
  obtain ⟨v2, vs2, d2, ds2, p2, q2, rfl, rfl, rfl, h2, hA⟩ := trodAll_cons hA
  obtain ⟨rfl, rfl, rfl⟩ := trodAll_nil hA
  obtain rfl : args = #[v0, v1, v2] := by cases args; simp_all
  obtain ⟨A0, n0, c0, RA0, rn0, rc0, PA0, pn0, pc0, HA0, hn0, hc0, S0, rfl, hR0, hK0⟩ := open_store (hval 0 _ v0 rfl rfl) (fun x hx => hW'.lt x (by simp [hx])) h0
  obtain ⟨A1, n1, c1, l1, rfl, hnc1, hc1, hr1, hv1, hz1⟩ := open_ops (hval 1 _ v1 rfl rfl) (fun x hx => hW'.lt x (by simp [hx])) h1
  obtain ⟨i2, rfl, rfl, rfl, w2⟩ := open_int Tryz.underlying3 (hval 2 _ v2 rfl rfl) h2
  refine (playCollects_any A0 n0 c0 RA0 rn0 rc0 PA0 pn0 pc0 HA0 hn0 hc0 S0 A1 n1 c1 l1 i2 W hR0 hK0 hr1 hnc1 hc1 hv1 hz1 w2 hT).mono fun e W' ⟨he, hb⟩ => ?_
  subst he
  exact ⟨_, rfl, law_post laidOut Tryz.underlying4 rfl (by as_aux_lemma => kernel_rfl) rfl rfl hW' hb⟩

theorem laid_met (os : Os) : laidMet Tryz.prog Rows.playCollectsRow.laid ((fLaidWorld os).forCall (fun _ _ => 0) ⟨#[], #[.agg #[.slice none 0 0, .slice none 0 0, .slice none 0 0, .slice none 0 0], .slice none 0 0, .int .i64 0], []⟩).memory :=
  laidMet_of_run' 8 (by as_aux_lemma => kernel_rfl) (by as_aux_lemma => kernel_rfl)
theorem reads (os : Os) {H : Type} (enc : TypeId × Value → H) : ∃ places, DataW.whole enc Tryz.prog ((fLaidWorld os).forCall (fun _ _ => 0) ⟨#[], #[.agg #[.slice none 0 0, .slice none 0 0, .slice none 0 0, .slice none 0 0], .slice none 0 0, .int .i64 0], []⟩).memory Tryz.f4.params.toList Rows.playCollectsSpec.vars false #[Value.agg #[Value.slice none 0 0, Value.slice none 0 0, Value.slice none 0 0, Value.slice none 0 0], Value.slice none 0 0, Value.int .i64 0].toList 8 = some ([.agg [.nil, .nil, .nil, .nil], .nil, .lit (.int .i64 0)], [], places) :=
  ⟨[], by as_aux_lemma => kernel_rfl⟩

set_option maxRecDepth 100000 in
theorem lifted (os : Os) (started : os.Started) (H : Type) (enc : TypeId × Value → H) (F : Stop.Interp) :
    ReturnsInHanded {} Tryz.checked os 4 .any ((OpenSpec.ofChange Rows.playCollectsSpec).preRow enc Tryz.prog Tryz.f4 Rows.playCollectsRow.domain false Rows.playCollectsRow.laid) (((OpenSpec.ofChange Rows.playCollectsSpec).at F).post enc Tryz.prog Tryz.f4 false true false false) := by
  obtain ⟨places, hx⟩ := reads os enc
  refine returnsInHanded_of_row (C := Tryz.checked) (s := OpenSpec.ofChange Rows.playCollectsSpec) own started (by as_aux_lemma => kernel_rfl) Tryz.func4
    (witness_row_at (enc := enc) (C := Tryz.checked) false (fLaidWorld os) #[.agg #[.slice none 0 0, .slice none 0 0, .slice none 0 0, .slice none 0 0], .slice none 0 0, .int .i64 0] rfl (by as_aux_lemma => kernel_rfl) (by as_aux_lemma => kernel_rfl) (by as_aux_lemma => kernel_rfl)
      (OpenSpec.preRow_of_cond 8 hx (by as_aux_lemma => kernel_rfl) (fun k hk => by cases hk) (by as_aux_lemma => kernel_rfl) (laid_met os))) ?_
  intro W base args ds gs before hval hW _ _ _ hL _ _
  exact contract H enc W base args ds gs before hval hW hL

set_option maxHeartbeats 10000000 in
theorem closed : joinedFacts Tryz.prog 4 Tryz.f4 Rows.playCollectsSpec Rows.playCollectsRow = true := by
  unfold joinedFacts
  simp only [Bool.and_eq_true]
  repeat' apply And.intro
  all_goals as_aux_lemma => kernel_rfl

set_option maxRecDepth 100000 in
set_option maxHeartbeats 1000000 in
theorem said : Rows.PlayCollectsSaid :=
  OpenClaim.holds_of_cond 4 Tryz.f4 rfl rfl rfl rfl rfl rfl rfl ⟨rfl, rfl, rfl, rfl, rfl⟩ rfl rfl rfl rfl rfl (by as_aux_lemma => kernel_rfl) Tryz.func4 closed
    (of_decide_eq_true (by as_aux_lemma => kernel_rfl)) (by unfold Func.isWrapper; first | (rw [if_pos (by decide +kernel)]; kernel_rfl) | (rw [if_neg (by decide +kernel)]; exact ⟨rfl, rfl⟩))
    (fun os started H enc _ F => by rw [OpenClaim.pre_eq_preRow]; exact lifted os started H enc F)

set_option maxRecDepth 100000 in
theorem plain (f : FuncId) (fn : Func) (hf : Tryz.pinned.checked.prog.funcNamed "cairnfield/cairnfieldkeep.PlayCollects" = some f) (hfn : Tryz.pinned.checked.prog.funcs[f]? = some fn) :
    false = Tryz.pinned.checked.prog.looks [] ∧ ∀ (j : Nat) t, fn.params[j]? = some t → Tryz.pinned.checked.prog.wantsStandIn t = false := by
  obtain rfl : f = 4 := Option.some.inj ((show Tryz.prog.funcNamed "cairnfield/cairnfieldkeep.PlayCollects" = some 4 by kernel_rfl).symm.trans hf) |>.symm
  obtain rfl : fn = Tryz.f4 := (Option.some.inj (Tryz.func4.symm.trans hfn)).symm
  refine ⟨by kernel_rfl, fun j t ht => ?_⟩
  rw [Tryz.params4] at ht
  have hm := Array.mem_of_getElem? ht
  simp only [List.mem_toArray, List.mem_cons, List.not_mem_nil, or_false] at hm
  repeat' (first | (rcases hm with rfl | hm) | (subst hm))
  all_goals first | exact (show Tryz.prog.wantsStandIn 28 = false by kernel_rfl) | exact (show Tryz.prog.wantsStandIn 29 = false by kernel_rfl) | exact (show Tryz.prog.wantsStandIn 3 = false by kernel_rfl)

set_option maxRecDepth 100000 in
theorem proved : Rows.PlayCollectsCardSaid :=
  Claim7.holds_tied_plain_at .later [] _ _ _ _ said (fun _ h => by cases h) (by kernel_rfl) (fun _ h => by cases h) playCollects_row_tie rfl ⟨rfl, rfl⟩ (by kernel_rfl) rfl plain (by kernel_rfl)
end PlayCollects
end Go.Proofs.YtccmichgbkmdpaaGreatDoor
