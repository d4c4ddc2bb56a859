/-
  Texts joined: DeskAsks Bulk LawStrs DeskRow.
-/
import Derived.Test.YtfikonmhbhcejaaGreatDoorRows
import Derived.SliceStrings
import Derived.Test.YtfikonmhbhcejaaGreatDoorCards
import Derived.Test.YtfikonmhbhcejaaGreatDoorTie
import Derived.Deep.DeepHandedRow
import Derived.Lib.LaidTab
import Derived.Stop.LaidErr
import Derived.Shelf.LaysM
import Derived.Ground.NamesProg
import Derived.Shelf.Lay
import Derived.Test.YtfikonmhbhcejaaGreatDoorP1
import Derived.Test.YtfikonmhbhcejaaGreatDoorP12
import Derived.Test.YtfikonmhbhcejaaGreatDoorP22
import Derived.Test.YtfikonmhbhcejaaGreatDoorP23
namespace Go.Proofs.YtfikonmhbhcejaaGreatDoor
open Go.RowKit
theorem getO_st (S : St) (a b : Int) : (getO S a b).st = S := by unfold getO; split <;> rfl
theorem peekO_st (S : St) (a b : Int) : (peekO S a b).st = S := by
  unfold peekO
  split
  · rfl
  · split
    · rfl
    · split <;> rfl
theorem ask_deed (S : St) (k : Nat) (n : List Int) (hk : k = 5 ∨ k = 9) : (doO S (deedV k (-1) n)).st = S := by
  have hkd : (deedV (k : Nat) (-1) n).kind = k := by
    unfold deedV
    have : ∀ j, (fillV (k : Nat) (-1) n j).kind = k := by
      intro j
      induction j with
      | zero => rfl
      | succ j ih =>
        show (if (j : Int) = -1 then ({ fillV (k : Nat) (-1) n j with v := n.getD j 0 } : OpV) else (fillV (k : Nat) (-1) n j).put (cntV (-1) j) (n.getD j 0)).kind = k
        rw [if_neg (by omega)]
        unfold OpV.put
        split
        · exact ih
        · split <;> exact ih
    exact this _
  unfold doO
  by_cases hrt : rightB (deedV (k : Nat) (-1) n) = false
  · rw [if_pos hrt]
  · rw [if_neg hrt, hkd]
    rcases hk with rfl | rfl
    · rw [if_neg (by decide), if_neg (by decide), if_neg (by decide), if_neg (by decide), if_pos (by decide)]
      exact getO_st _ _ _
    · rw [if_neg (by decide), if_neg (by decide), if_neg (by decide), if_neg (by decide), if_neg (by decide), if_neg (by decide), if_neg (by decide), if_neg (by decide), if_pos (by decide)]
      exact peekO_st _ _ _
theorem cmd_ask (os : Option St) (c : Cmd) (n : List Int) (hc : c = .gaps ∨ c = .live ∨ c = .roots ∨ c = .deed 5 2 (-1) true ∨ c = .deed 9 2 (-1) true) : (cmdO os c n).st = os := by
  rcases hc with rfl | rfl | rfl | rfl | rfl
  · cases os <;> rfl
  · cases os <;> rfl
  · cases os <;> rfl
  · cases os with
    | none => rfl
    | some S =>
      have h := ask_deed S 5 n (.inl rfl)
      unfold cmdO
      dsimp only
      split
      · rfl
      · split
        · rfl
        · exact congrArg some h
  · cases os with
    | none => rfl
    | some S =>
      have h := ask_deed S 9 n (.inr rfl)
      unfold cmdO
      dsimp only
      split
      · rfl
      · split
        · rfl
        · exact congrArg some h
theorem line_ask (os : Option St) (s : ByteArray) (h : ∀ c, findC ((wordsB s).headD ByteArray.empty) = some c → c = .gaps ∨ c = .live ∨ c = .roots ∨ c = .deed 5 2 (-1) true ∨ c = .deed 9 2 (-1) true) : (lineO os s).st = os := by
  unfold lineO
  cases hf : findC ((wordsB s).headD ByteArray.empty) with
  | none => rfl
  | some c =>
    show (if (wordsB s).length ≠ c.many + 1 then (⟨os, [], 3⟩ : DOut) else match ((wordsB s).drop 1).mapM numB with | none => ⟨os, [], 3⟩ | some n => cmdO os c n).st = os
    split
    · rfl
    · split
      · rfl
      · exact cmd_ask os c _ (h c hf)
theorem beq_bytes_l {s : ByteArray} {l : List UInt8} : (s.toList == l) = decide (s = ⟨l.toArray⟩) := by
  have h := beq_bytes s ⟨l.toArray⟩
  rwa [ByteArray.toList_eq ⟨l.toArray⟩] at h
def asksQ : List ByteArray := [⟨#[103, 97, 112, 115]⟩, ⟨#[108, 105, 118, 101]⟩, ⟨#[114, 111, 111, 116, 115]⟩, ⟨#[103, 101, 116, 32, 48, 32, 48]⟩, ⟨#[112, 101, 101, 107, 32, 48, 32, 48]⟩, ⟨#[119, 104, 97, 116]⟩]
theorem asks_line {s : ByteArray} (h : s ∈ asksQ) (os : Option St) : (lineO os s).st = os := by
  refine line_ask os s (fun c hc => ?_)
  simp only [asksQ, List.mem_cons, List.not_mem_nil, or_false] at h
  rcases h with rfl | rfl | rfl | rfl | rfl | rfl
  · rw [show findC ((wordsB ⟨#[103, 97, 112, 115]⟩).headD ByteArray.empty) = some .gaps by kernel_rfl] at hc
    exact .inl (Option.some.inj hc).symm
  · rw [show findC ((wordsB ⟨#[108, 105, 118, 101]⟩).headD ByteArray.empty) = some .live by kernel_rfl] at hc
    exact .inr (.inl (Option.some.inj hc).symm)
  · rw [show findC ((wordsB ⟨#[114, 111, 111, 116, 115]⟩).headD ByteArray.empty) = some .roots by kernel_rfl] at hc
    exact .inr (.inr (.inl (Option.some.inj hc).symm))
  · rw [show findC ((wordsB ⟨#[103, 101, 116, 32, 48, 32, 48]⟩).headD ByteArray.empty) = some (.deed 5 2 (-1) true) by kernel_rfl] at hc
    exact .inr (.inr (.inr (.inl (Option.some.inj hc).symm)))
  · rw [show findC ((wordsB ⟨#[112, 101, 101, 107, 32, 48, 32, 48]⟩).headD ByteArray.empty) = some (.deed 9 2 (-1) true) by kernel_rfl] at hc
    exact .inr (.inr (.inr (.inr (Option.some.inj hc).symm)))
  · rw [show findC ((wordsB ⟨#[119, 104, 97, 116]⟩).headD ByteArray.empty) = none by kernel_rfl] at hc
    cases hc
theorem asks_law {s : ByteArray} (h : s ∈ asksQ) (ls : List ByteArray) (k : Nat) (hk : k ≤ ls.length) : (deskR none (ls.take k ++ s :: ls.drop k)).take k ++ (deskR none (ls.take k ++ s :: ls.drop k)).drop (k + 1) = deskR none ls := by
  have e1 : deskR none (ls.take k ++ s :: ls.drop k) = deskR none (ls.take k) ++ replyB (lineO (deskS none (ls.take k)) s) :: deskR (deskS none (ls.take k)) (ls.drop k) := by
    rw [deskR_app]
    show _ ++ replyB _ :: deskR (lineO (deskS none (ls.take k)) s).st (ls.drop k) = _
    rw [asks_line h]
  have hl : (deskR none (ls.take k)).length = k := by rw [deskR_length, List.length_take]; omega
  rw [e1, List.take_left' hl, show k + 1 = (deskR none (ls.take k)).length + 1 by rw [hl], ← List.drop_drop, List.drop_left' rfl]
  show _ ++ deskR _ (ls.drop k) = _
  rw [← deskR_app, List.take_append_drop]
set_option maxRecDepth 100000 in
set_option maxHeartbeats 2000000 in
theorem deskAsks_num (A : Option Addr) (n c : Nat) (ls : List ByteArray) (s : ByteArray) (k : Int) (w : World) (hr : Reads w w.heap.size 1 A n (ls.map .string)) (hs : ∀ s ∈ ls, s.size < 4294967281) (hn9 : n ≤ 1000000000) (hT : DTab w.heap.size w) (hk : 60 < n ∨ k < 0 ∨ (n : Int) < k) :
    Calls Tryz.prog 4 #[.slice A n c, .string s, .int .i64 k] w fun e w' => e = .returned (.bool true) ∧ Below w.heap.size w w' := by
  have HDt := Lib.hid (desks_true w hT)
  by_cases h1 : 60 < n
  · have g1 : decide (60 < n) = true := decide_eq_true h1
    have g1' : decide ((60 : Int) < (n : Int)) = true := decide_eq_true (by omega)
    clear hr hs hT hk
    go_enter Tryz.func4, Tryz.ntmps4
    go_wp2_with fail
    refine HDt.out.mono ?_
    rintro e w1 ⟨rfl, hb1⟩
    go_wp2_with fail
    go_ret
    exact ⟨rfl, hb1⟩
  · have g1 : decide (60 < n) = false := decide_eq_false h1
    have g1' : decide ((60 : Int) < (n : Int)) = false := decide_eq_false (by omega)
    by_cases h2 : k < 0
    · have g2 : decide (k < 0) = true := decide_eq_true h2
      clear hr hs hT hk
      go_enter Tryz.func4, Tryz.ntmps4
      go_wp2_with fail
      refine HDt.out.mono ?_
      rintro e w1 ⟨rfl, hb1⟩
      go_wp2_with fail
      go_ret
      exact ⟨rfl, hb1⟩
    · have g2 : decide (k < 0) = false := decide_eq_false h2
      have g3 : decide ((n : Int) < k) = true := decide_eq_true (by omega)
      clear hr hs hT hk
      go_enter Tryz.func4, Tryz.ntmps4
      go_wp2_with fail
      refine HDt.out.mono ?_
      rintro e w1 ⟨rfl, hb1⟩
      go_wp2_with fail
      go_ret
      exact ⟨rfl, hb1⟩
set_option maxRecDepth 100000 in
set_option maxHeartbeats 2000000 in
theorem deskAsks_none (A : Option Addr) (n c : Nat) (ls : List ByteArray) (s : ByteArray) (k : Int) (w : World) (hr : Reads w w.heap.size 1 A n (ls.map .string)) (hs : ∀ s ∈ ls, s.size < 4294967281) (hn9 : n ≤ 1000000000) (hT : DTab w.heap.size w) (hn : n ≤ 60) (K : Nat) (hkK : k = K) (hK : K ≤ n) (hq : s ∉ asksQ) :
    Calls Tryz.prog 4 #[.slice A n c, .string s, .int .i64 k] w fun e w' => e = .returned (.bool true) ∧ Below w.heap.size w w' := by
  have HDt := Lib.hid (desks_true w hT)
  subst hkK
  have b0 : (s.toList == [103, 97, 112, 115]) = false := by rw [beq_bytes_l]; exact decide_eq_false (fun e => hq (by rw [e]; simp [asksQ]))
  have d0 : (s.toList != [103, 97, 112, 115]) = true := by rw [bne, b0]; rfl
  have b1 : (s.toList == [108, 105, 118, 101]) = false := by rw [beq_bytes_l]; exact decide_eq_false (fun e => hq (by rw [e]; simp [asksQ]))
  have d1 : (s.toList != [108, 105, 118, 101]) = true := by rw [bne, b1]; rfl
  have b2 : (s.toList == [114, 111, 111, 116, 115]) = false := by rw [beq_bytes_l]; exact decide_eq_false (fun e => hq (by rw [e]; simp [asksQ]))
  have d2 : (s.toList != [114, 111, 111, 116, 115]) = true := by rw [bne, b2]; rfl
  have b3 : (s.toList == [103, 101, 116, 32, 48, 32, 48]) = false := by rw [beq_bytes_l]; exact decide_eq_false (fun e => hq (by rw [e]; simp [asksQ]))
  have d3 : (s.toList != [103, 101, 116, 32, 48, 32, 48]) = true := by rw [bne, b3]; rfl
  have b4 : (s.toList == [112, 101, 101, 107, 32, 48, 32, 48]) = false := by rw [beq_bytes_l]; exact decide_eq_false (fun e => hq (by rw [e]; simp [asksQ]))
  have d4 : (s.toList != [112, 101, 101, 107, 32, 48, 32, 48]) = true := by rw [bne, b4]; rfl
  have b5 : (s.toList == [119, 104, 97, 116]) = false := by rw [beq_bytes_l]; exact decide_eq_false (fun e => hq (by rw [e]; simp [asksQ]))
  have d5 : (s.toList != [119, 104, 97, 116]) = true := by rw [bne, b5]; rfl
  have g1 : decide (60 < n) = false := decide_eq_false (by omega)
  have g1' : decide ((60 : Int) < (n : Int)) = false := decide_eq_false (by omega)
  have g2 : decide ((K : Int) < 0) = false := decide_eq_false (by omega)
  have g3 : decide ((n : Int) < (K : Int)) = false := decide_eq_false (by omega)
  have g3' : decide (n < K) = false := decide_eq_false (by omega)
  clear hr hs hT hq
  go_enter Tryz.func4, Tryz.ntmps4
  go_wp2_with fail
  refine HDt.out.mono ?_
  rintro e w1 ⟨rfl, hb1⟩
  go_wp2_with fail
  go_ret
  exact ⟨rfl, hb1⟩
set_option maxRecDepth 100000 in
set_option maxHeartbeats 4000000 in
theorem deskAsks_yes0 (A : Option Addr) (n c : Nat) (ls : List ByteArray) (s : ByteArray) (k : Int) (w : World) (hr : Reads w w.heap.size 1 A n (ls.map .string)) (hs : ∀ s ∈ ls, s.size < 4294967281) (hn9 : n ≤ 1000000000) (hT : DTab w.heap.size w) (hn : n ≤ 60) (K : Nat) (hkK : k = K) (hK : K ≤ n) (hs0 : s = ⟨#[103, 97, 112, 115]⟩) :
    Calls Tryz.prog 4 #[.slice A n c, .string s, .int .i64 k] w fun e w' => e = .returned (.bool true) ∧ Below w.heap.size w w' := by
  have HDt := Lib.hid (desks_true w hT)
  subst hkK
  have hll : ls.length = n := by have := hr.1; simpa using this
  have HQ : Hid (s ∈ asksQ) := by
    show s ∈ asksQ
    rw [hs0]
    simp [asksQ]
  have b0 : (s.toList == [103, 97, 112, 115]) = true := by rw [hs0]; decide +kernel
  have d0 : (s.toList != [103, 97, 112, 115]) = false := by rw [bne, b0]; rfl
  have b1 : (s.toList == [108, 105, 118, 101]) = false := by rw [hs0]; decide +kernel
  have d1 : (s.toList != [108, 105, 118, 101]) = true := by rw [bne, b1]; rfl
  have b2 : (s.toList == [114, 111, 111, 116, 115]) = false := by rw [hs0]; decide +kernel
  have d2 : (s.toList != [114, 111, 111, 116, 115]) = true := by rw [bne, b2]; rfl
  have b3 : (s.toList == [103, 101, 116, 32, 48, 32, 48]) = false := by rw [hs0]; decide +kernel
  have d3 : (s.toList != [103, 101, 116, 32, 48, 32, 48]) = true := by rw [bne, b3]; rfl
  have b4 : (s.toList == [112, 101, 101, 107, 32, 48, 32, 48]) = false := by rw [hs0]; decide +kernel
  have d4 : (s.toList != [112, 101, 101, 107, 32, 48, 32, 48]) = true := by rw [bne, b4]; rfl
  have b5 : (s.toList == [119, 104, 97, 116]) = false := by rw [hs0]; decide +kernel
  have d5 : (s.toList != [119, 104, 97, 116]) = true := by rw [bne, b5]; rfl
  have hsz : s.size < 4294967281 := by rw [hs0]; decide
  have g1 : decide (60 < n) = false := decide_eq_false (by omega)
  have g1' : decide ((60 : Int) < (n : Int)) = false := decide_eq_false (by omega)
  have g2 : decide ((K : Int) < 0) = false := decide_eq_false (by omega)
  have g3 : decide ((n : Int) < (K : Int)) = false := decide_eq_false (by omega)
  have g3' : decide (n < K) = false := decide_eq_false (by omega)
  have HT := Lib.hid hT
  have HR := Lib.hid hr
  have HS := Lib.hid hs
  have HLw := Lib.hid (asks_law HQ.out ls K (by omega))
  have HP := Lib.hid (fun w1 (hb : Below w.heap.size w w1) => dplay_ok A n c ls w1 ((HR.out.below hb).more hb.size) HS.out (HT.out.up hb) (by omega))
  have HCl := Lib.hid (fun w1 (hb : Below w.heap.size w w1) => clone_str A n c w.heap.size (ls.map .string) w1 (HR.out.below hb) hb.size (strs_one ls) (by omega))
  have HSs := Lib.hid hs0
  clear hs0 hr hs hT
  go_enter Tryz.func4, Tryz.ntmps4
  go_wp2_with fail
  refine HDt.out.mono ?_
  rintro e w1 ⟨rfl, hb1⟩
  go_wp2_with fail
  refine (HP.out _ hb1).mono ?_
  rintro e w2 ⟨A1, c1, rfl, ho1, hb2⟩
  have hb02 := hb1.trans (hb2.mono hb1.size)
  go_wp2_with fail
  refine (HCl.out _ hb02).mono ?_
  rintro e w3 ⟨A2, c2, rfl, ho2, hb3⟩
  have hb03 := hb02.trans (hb3.mono hb02.size)
  have hlt2 : ∀ g, (Value.slice A2 n c2).ownBlock = some g → g < w3.heap.size := fun g h => (ho2.lt g h).2
  have hb4 := below_new w3 (.cells #[.string s] 9)
  have HIn := Lib.hid (insertStr_any w2.heap.size A2 n c2 K ls w3.heap.size s (w3.alloc (.cells #[.string s] 9)) ⟨ho2.alloc _, fun _ _ _ _ _ _ _ => trivial⟩ (Nat.le_trans hb3.size hb4.size) hK (by omega) (Blk.new w3 9 #[.string s]) (fun e => absurd (hlt2 _ e) (Nat.lt_irrefl _)))
  have hb04 := hb03.trans (hb4.mono hb03.size)
  have hr1 := ((Reads.of_own ho1).below (hb3.trans (hb4.mono hb3.size)))
  clear ho2 hlt2 HCl HP
  go_wp2_with fail
  refine HIn.out.mono ?_
  rintro e w5 ⟨A5, c5, rfl, ho5, hb5, -, -⟩
  have hb25 : Below w2.heap.size w2 w5 := (hb3.trans (hb4.mono hb3.size)).trans hb5
  have hb05 := hb02.trans (hb25.mono hb02.size)
  have hr1 := hr1.below hb5
  have HP2 := Lib.hid (dplay_ok A5 (n + 1) c5 (ls.take K ++ s :: ls.drop K) w5 (Reads.of_own ho5.1) (fun x hx => by
    rcases List.mem_append.1 hx with h | h
    · exact HS.out x (List.mem_of_mem_take h)
    · rcases List.mem_cons.1 h with rfl | h
      · exact hsz
      · exact HS.out x (List.mem_of_mem_drop h)) (HT.out.up hb05) (by omega))
  clear ho5 hb5 HIn hb04 hb4 hb3
  go_wp2_with fail
  refine HP2.out.mono ?_
  rintro e w6 ⟨A6, c6, rfl, ho6, hb6⟩
  have hb26 := hb25.trans (hb6.mono hb25.size)
  have hr1 := hr1.below (hb6.mono hb25.size)
  have hb7 := below_new w6 (.cells #[.int .i64 0, .int .i64 0] 24)
  have hx0 := reads_new w6 [.int .i64 0, .int .i64 0] 24 2 1 rfl
  have HG := Lib.hid (good_of (some ⟨w6.heap.size, 0, none⟩) 2 2 _ [0, 0] true _ (by decide) (by simpa using hx0) (by decide))
  have ho7 := ho6.alloc (.cells #[.int .i64 0, .int .i64 0] 24)
  have hb27 := hb26.trans (hb7.mono hb26.size)
  have hr1 := hr1.below (hb7.mono hb26.size)
  obtain ⟨L2, hL2⟩ : ∃ L2, L2 = deskR none (ls.take K ++ s :: ls.drop K) := ⟨_, rfl⟩
  rw [← hL2] at ho7 HLw
  have hs56 := hb6.size
  have hs25 := hb25.size
  clear HP2 ho6 hx0 hb6 hL2 hb25 hb26
  have wk : IntKind.i64.wrap ((K : Int) + 1) = (K : Int) + 1 := IntWalk.i64_in _ (by omega)
  have wk2 : wrap64 ((K : Int) + 1) = (K : Int) + 1 := IntWalk.wrap64_in _ (by omega)
  have wn : wrap64 ((n : Int) + 1) = (n : Int) + 1 := IntWalk.wrap64_in _ (by omega)
  go_wp2_with fail
  refine HG.out.mono ?_
  rintro e w8 ⟨rfl, hw8⟩
  subst hw8
  have HDl := Lib.hid (delete_str w5.heap.size A6 (n + 1) c6 K L2 _ ho7 (by omega))
  rw [HLw.out, Nat.add_sub_cancel] at HDl
  have hlt7 : ∀ g, (Value.slice A6 (n + 1) c6).ownBlock = some g → w5.heap.size ≤ g := fun g h => (ho7.lt g h).1
  have hsz7 := hb27.size
  clear ho7 HG HLw
  go_wp2_with fail
  refine HDl.out.mono ?_
  rintro e w9 ⟨rfl, ho9, hg9⟩
  have hr9 := hr1.grown hg9 hsz7 (fun g h => Nat.le_trans hs25 (hlt7 g h))
  have hb29 := hb27.grown hg9 hsz7 (fun g h => Nat.le_trans hs25 (hlt7 g h))
  have hb09 := hb02.trans (hb29.mono hb02.size)
  have hE := equal_str A1 A6 n c1 n c6 _ _ _ _ w9 hr9 (Reads.of_own ho9) (by omega) (by omega)
  rw [decide_eq_true rfl] at hE
  have HE := Lib.hid hE
  clear hE hr9 ho9 hr1 hb29 hb27 hg9 HDl
  go_wp2_with fail
  refine HE.out.mono ?_
  rintro e w10 ⟨rfl, q, rfl⟩
  go_wp2_with fail
  go_ret
  exact ⟨by first | rfl | simp, below_drewN hb09 _⟩
set_option maxRecDepth 100000 in
set_option maxHeartbeats 4000000 in
theorem deskAsks_yes1 (A : Option Addr) (n c : Nat) (ls : List ByteArray) (s : ByteArray) (k : Int) (w : World) (hr : Reads w w.heap.size 1 A n (ls.map .string)) (hs : ∀ s ∈ ls, s.size < 4294967281) (hn9 : n ≤ 1000000000) (hT : DTab w.heap.size w) (hn : n ≤ 60) (K : Nat) (hkK : k = K) (hK : K ≤ n) (hs0 : s = ⟨#[108, 105, 118, 101]⟩) :
    Calls Tryz.prog 4 #[.slice A n c, .string s, .int .i64 k] w fun e w' => e = .returned (.bool true) ∧ Below w.heap.size w w' := by
  have HDt := Lib.hid (desks_true w hT)
  subst hkK
  have hll : ls.length = n := by have := hr.1; simpa using this
  have HQ : Hid (s ∈ asksQ) := by
    show s ∈ asksQ
    rw [hs0]
    simp [asksQ]
  have b0 : (s.toList == [103, 97, 112, 115]) = false := by rw [hs0]; decide +kernel
  have d0 : (s.toList != [103, 97, 112, 115]) = true := by rw [bne, b0]; rfl
  have b1 : (s.toList == [108, 105, 118, 101]) = true := by rw [hs0]; decide +kernel
  have d1 : (s.toList != [108, 105, 118, 101]) = false := by rw [bne, b1]; rfl
  have b2 : (s.toList == [114, 111, 111, 116, 115]) = false := by rw [hs0]; decide +kernel
  have d2 : (s.toList != [114, 111, 111, 116, 115]) = true := by rw [bne, b2]; rfl
  have b3 : (s.toList == [103, 101, 116, 32, 48, 32, 48]) = false := by rw [hs0]; decide +kernel
  have d3 : (s.toList != [103, 101, 116, 32, 48, 32, 48]) = true := by rw [bne, b3]; rfl
  have b4 : (s.toList == [112, 101, 101, 107, 32, 48, 32, 48]) = false := by rw [hs0]; decide +kernel
  have d4 : (s.toList != [112, 101, 101, 107, 32, 48, 32, 48]) = true := by rw [bne, b4]; rfl
  have b5 : (s.toList == [119, 104, 97, 116]) = false := by rw [hs0]; decide +kernel
  have d5 : (s.toList != [119, 104, 97, 116]) = true := by rw [bne, b5]; rfl
  have hsz : s.size < 4294967281 := by rw [hs0]; decide
  have g1 : decide (60 < n) = false := decide_eq_false (by omega)
  have g1' : decide ((60 : Int) < (n : Int)) = false := decide_eq_false (by omega)
  have g2 : decide ((K : Int) < 0) = false := decide_eq_false (by omega)
  have g3 : decide ((n : Int) < (K : Int)) = false := decide_eq_false (by omega)
  have g3' : decide (n < K) = false := decide_eq_false (by omega)
  have HT := Lib.hid hT
  have HR := Lib.hid hr
  have HS := Lib.hid hs
  have HLw := Lib.hid (asks_law HQ.out ls K (by omega))
  have HP := Lib.hid (fun w1 (hb : Below w.heap.size w w1) => dplay_ok A n c ls w1 ((HR.out.below hb).more hb.size) HS.out (HT.out.up hb) (by omega))
  have HCl := Lib.hid (fun w1 (hb : Below w.heap.size w w1) => clone_str A n c w.heap.size (ls.map .string) w1 (HR.out.below hb) hb.size (strs_one ls) (by omega))
  have HSs := Lib.hid hs0
  clear hs0 hr hs hT
  go_enter Tryz.func4, Tryz.ntmps4
  go_wp2_with fail
  refine HDt.out.mono ?_
  rintro e w1 ⟨rfl, hb1⟩
  go_wp2_with fail
  refine (HP.out _ hb1).mono ?_
  rintro e w2 ⟨A1, c1, rfl, ho1, hb2⟩
  have hb02 := hb1.trans (hb2.mono hb1.size)
  go_wp2_with fail
  refine (HCl.out _ hb02).mono ?_
  rintro e w3 ⟨A2, c2, rfl, ho2, hb3⟩
  have hb03 := hb02.trans (hb3.mono hb02.size)
  have hlt2 : ∀ g, (Value.slice A2 n c2).ownBlock = some g → g < w3.heap.size := fun g h => (ho2.lt g h).2
  have hb4 := below_new w3 (.cells #[.string s] 9)
  have HIn := Lib.hid (insertStr_any w2.heap.size A2 n c2 K ls w3.heap.size s (w3.alloc (.cells #[.string s] 9)) ⟨ho2.alloc _, fun _ _ _ _ _ _ _ => trivial⟩ (Nat.le_trans hb3.size hb4.size) hK (by omega) (Blk.new w3 9 #[.string s]) (fun e => absurd (hlt2 _ e) (Nat.lt_irrefl _)))
  have hb04 := hb03.trans (hb4.mono hb03.size)
  have hr1 := ((Reads.of_own ho1).below (hb3.trans (hb4.mono hb3.size)))
  clear ho2 hlt2 HCl HP
  go_wp2_with fail
  refine HIn.out.mono ?_
  rintro e w5 ⟨A5, c5, rfl, ho5, hb5, -, -⟩
  have hb25 : Below w2.heap.size w2 w5 := (hb3.trans (hb4.mono hb3.size)).trans hb5
  have hb05 := hb02.trans (hb25.mono hb02.size)
  have hr1 := hr1.below hb5
  have HP2 := Lib.hid (dplay_ok A5 (n + 1) c5 (ls.take K ++ s :: ls.drop K) w5 (Reads.of_own ho5.1) (fun x hx => by
    rcases List.mem_append.1 hx with h | h
    · exact HS.out x (List.mem_of_mem_take h)
    · rcases List.mem_cons.1 h with rfl | h
      · exact hsz
      · exact HS.out x (List.mem_of_mem_drop h)) (HT.out.up hb05) (by omega))
  clear ho5 hb5 HIn hb04 hb4 hb3
  go_wp2_with fail
  refine HP2.out.mono ?_
  rintro e w6 ⟨A6, c6, rfl, ho6, hb6⟩
  have hb26 := hb25.trans (hb6.mono hb25.size)
  have hr1 := hr1.below (hb6.mono hb25.size)
  have hb7 := below_new w6 (.cells #[.int .i64 0, .int .i64 0] 24)
  have hx0 := reads_new w6 [.int .i64 0, .int .i64 0] 24 2 1 rfl
  have HG := Lib.hid (good_of (some ⟨w6.heap.size, 0, none⟩) 2 2 _ [0, 0] true _ (by decide) (by simpa using hx0) (by decide))
  have ho7 := ho6.alloc (.cells #[.int .i64 0, .int .i64 0] 24)
  have hb27 := hb26.trans (hb7.mono hb26.size)
  have hr1 := hr1.below (hb7.mono hb26.size)
  obtain ⟨L2, hL2⟩ : ∃ L2, L2 = deskR none (ls.take K ++ s :: ls.drop K) := ⟨_, rfl⟩
  rw [← hL2] at ho7 HLw
  have hs56 := hb6.size
  have hs25 := hb25.size
  clear HP2 ho6 hx0 hb6 hL2 hb25 hb26
  have wk : IntKind.i64.wrap ((K : Int) + 1) = (K : Int) + 1 := IntWalk.i64_in _ (by omega)
  have wk2 : wrap64 ((K : Int) + 1) = (K : Int) + 1 := IntWalk.wrap64_in _ (by omega)
  have wn : wrap64 ((n : Int) + 1) = (n : Int) + 1 := IntWalk.wrap64_in _ (by omega)
  go_wp2_with fail
  refine HG.out.mono ?_
  rintro e w8 ⟨rfl, hw8⟩
  subst hw8
  have HDl := Lib.hid (delete_str w5.heap.size A6 (n + 1) c6 K L2 _ ho7 (by omega))
  rw [HLw.out, Nat.add_sub_cancel] at HDl
  have hlt7 : ∀ g, (Value.slice A6 (n + 1) c6).ownBlock = some g → w5.heap.size ≤ g := fun g h => (ho7.lt g h).1
  have hsz7 := hb27.size
  clear ho7 HG HLw
  go_wp2_with fail
  refine HDl.out.mono ?_
  rintro e w9 ⟨rfl, ho9, hg9⟩
  have hr9 := hr1.grown hg9 hsz7 (fun g h => Nat.le_trans hs25 (hlt7 g h))
  have hb29 := hb27.grown hg9 hsz7 (fun g h => Nat.le_trans hs25 (hlt7 g h))
  have hb09 := hb02.trans (hb29.mono hb02.size)
  have hE := equal_str A1 A6 n c1 n c6 _ _ _ _ w9 hr9 (Reads.of_own ho9) (by omega) (by omega)
  rw [decide_eq_true rfl] at hE
  have HE := Lib.hid hE
  clear hE hr9 ho9 hr1 hb29 hb27 hg9 HDl
  go_wp2_with fail
  refine HE.out.mono ?_
  rintro e w10 ⟨rfl, q, rfl⟩
  go_wp2_with fail
  go_ret
  exact ⟨by first | rfl | simp, below_drewN hb09 _⟩
set_option maxRecDepth 100000 in
set_option maxHeartbeats 4000000 in
theorem deskAsks_yes2 (A : Option Addr) (n c : Nat) (ls : List ByteArray) (s : ByteArray) (k : Int) (w : World) (hr : Reads w w.heap.size 1 A n (ls.map .string)) (hs : ∀ s ∈ ls, s.size < 4294967281) (hn9 : n ≤ 1000000000) (hT : DTab w.heap.size w) (hn : n ≤ 60) (K : Nat) (hkK : k = K) (hK : K ≤ n) (hs0 : s = ⟨#[114, 111, 111, 116, 115]⟩) :
    Calls Tryz.prog 4 #[.slice A n c, .string s, .int .i64 k] w fun e w' => e = .returned (.bool true) ∧ Below w.heap.size w w' := by
  have HDt := Lib.hid (desks_true w hT)
  subst hkK
  have hll : ls.length = n := by have := hr.1; simpa using this
  have HQ : Hid (s ∈ asksQ) := by
    show s ∈ asksQ
    rw [hs0]
    simp [asksQ]
  have b0 : (s.toList == [103, 97, 112, 115]) = false := by rw [hs0]; decide +kernel
  have d0 : (s.toList != [103, 97, 112, 115]) = true := by rw [bne, b0]; rfl
  have b1 : (s.toList == [108, 105, 118, 101]) = false := by rw [hs0]; decide +kernel
  have d1 : (s.toList != [108, 105, 118, 101]) = true := by rw [bne, b1]; rfl
  have b2 : (s.toList == [114, 111, 111, 116, 115]) = true := by rw [hs0]; decide +kernel
  have d2 : (s.toList != [114, 111, 111, 116, 115]) = false := by rw [bne, b2]; rfl
  have b3 : (s.toList == [103, 101, 116, 32, 48, 32, 48]) = false := by rw [hs0]; decide +kernel
  have d3 : (s.toList != [103, 101, 116, 32, 48, 32, 48]) = true := by rw [bne, b3]; rfl
  have b4 : (s.toList == [112, 101, 101, 107, 32, 48, 32, 48]) = false := by rw [hs0]; decide +kernel
  have d4 : (s.toList != [112, 101, 101, 107, 32, 48, 32, 48]) = true := by rw [bne, b4]; rfl
  have b5 : (s.toList == [119, 104, 97, 116]) = false := by rw [hs0]; decide +kernel
  have d5 : (s.toList != [119, 104, 97, 116]) = true := by rw [bne, b5]; rfl
  have hsz : s.size < 4294967281 := by rw [hs0]; decide
  have g1 : decide (60 < n) = false := decide_eq_false (by omega)
  have g1' : decide ((60 : Int) < (n : Int)) = false := decide_eq_false (by omega)
  have g2 : decide ((K : Int) < 0) = false := decide_eq_false (by omega)
  have g3 : decide ((n : Int) < (K : Int)) = false := decide_eq_false (by omega)
  have g3' : decide (n < K) = false := decide_eq_false (by omega)
  have HT := Lib.hid hT
  have HR := Lib.hid hr
  have HS := Lib.hid hs
  have HLw := Lib.hid (asks_law HQ.out ls K (by omega))
  have HP := Lib.hid (fun w1 (hb : Below w.heap.size w w1) => dplay_ok A n c ls w1 ((HR.out.below hb).more hb.size) HS.out (HT.out.up hb) (by omega))
  have HCl := Lib.hid (fun w1 (hb : Below w.heap.size w w1) => clone_str A n c w.heap.size (ls.map .string) w1 (HR.out.below hb) hb.size (strs_one ls) (by omega))
  have HSs := Lib.hid hs0
  clear hs0 hr hs hT
  go_enter Tryz.func4, Tryz.ntmps4
  go_wp2_with fail
  refine HDt.out.mono ?_
  rintro e w1 ⟨rfl, hb1⟩
  go_wp2_with fail
  refine (HP.out _ hb1).mono ?_
  rintro e w2 ⟨A1, c1, rfl, ho1, hb2⟩
  have hb02 := hb1.trans (hb2.mono hb1.size)
  go_wp2_with fail
  refine (HCl.out _ hb02).mono ?_
  rintro e w3 ⟨A2, c2, rfl, ho2, hb3⟩
  have hb03 := hb02.trans (hb3.mono hb02.size)
  have hlt2 : ∀ g, (Value.slice A2 n c2).ownBlock = some g → g < w3.heap.size := fun g h => (ho2.lt g h).2
  have hb4 := below_new w3 (.cells #[.string s] 9)
  have HIn := Lib.hid (insertStr_any w2.heap.size A2 n c2 K ls w3.heap.size s (w3.alloc (.cells #[.string s] 9)) ⟨ho2.alloc _, fun _ _ _ _ _ _ _ => trivial⟩ (Nat.le_trans hb3.size hb4.size) hK (by omega) (Blk.new w3 9 #[.string s]) (fun e => absurd (hlt2 _ e) (Nat.lt_irrefl _)))
  have hb04 := hb03.trans (hb4.mono hb03.size)
  have hr1 := ((Reads.of_own ho1).below (hb3.trans (hb4.mono hb3.size)))
  clear ho2 hlt2 HCl HP
  go_wp2_with fail
  refine HIn.out.mono ?_
  rintro e w5 ⟨A5, c5, rfl, ho5, hb5, -, -⟩
  have hb25 : Below w2.heap.size w2 w5 := (hb3.trans (hb4.mono hb3.size)).trans hb5
  have hb05 := hb02.trans (hb25.mono hb02.size)
  have hr1 := hr1.below hb5
  have HP2 := Lib.hid (dplay_ok A5 (n + 1) c5 (ls.take K ++ s :: ls.drop K) w5 (Reads.of_own ho5.1) (fun x hx => by
    rcases List.mem_append.1 hx with h | h
    · exact HS.out x (List.mem_of_mem_take h)
    · rcases List.mem_cons.1 h with rfl | h
      · exact hsz
      · exact HS.out x (List.mem_of_mem_drop h)) (HT.out.up hb05) (by omega))
  clear ho5 hb5 HIn hb04 hb4 hb3
  go_wp2_with fail
  refine HP2.out.mono ?_
  rintro e w6 ⟨A6, c6, rfl, ho6, hb6⟩
  have hb26 := hb25.trans (hb6.mono hb25.size)
  have hr1 := hr1.below (hb6.mono hb25.size)
  have hb7 := below_new w6 (.cells #[.int .i64 0, .int .i64 0] 24)
  have hx0 := reads_new w6 [.int .i64 0, .int .i64 0] 24 2 1 rfl
  have HG := Lib.hid (good_of (some ⟨w6.heap.size, 0, none⟩) 2 2 _ [0, 0] true _ (by decide) (by simpa using hx0) (by decide))
  have ho7 := ho6.alloc (.cells #[.int .i64 0, .int .i64 0] 24)
  have hb27 := hb26.trans (hb7.mono hb26.size)
  have hr1 := hr1.below (hb7.mono hb26.size)
  obtain ⟨L2, hL2⟩ : ∃ L2, L2 = deskR none (ls.take K ++ s :: ls.drop K) := ⟨_, rfl⟩
  rw [← hL2] at ho7 HLw
  have hs56 := hb6.size
  have hs25 := hb25.size
  clear HP2 ho6 hx0 hb6 hL2 hb25 hb26
  have wk : IntKind.i64.wrap ((K : Int) + 1) = (K : Int) + 1 := IntWalk.i64_in _ (by omega)
  have wk2 : wrap64 ((K : Int) + 1) = (K : Int) + 1 := IntWalk.wrap64_in _ (by omega)
  have wn : wrap64 ((n : Int) + 1) = (n : Int) + 1 := IntWalk.wrap64_in _ (by omega)
  go_wp2_with fail
  refine HG.out.mono ?_
  rintro e w8 ⟨rfl, hw8⟩
  subst hw8
  have HDl := Lib.hid (delete_str w5.heap.size A6 (n + 1) c6 K L2 _ ho7 (by omega))
  rw [HLw.out, Nat.add_sub_cancel] at HDl
  have hlt7 : ∀ g, (Value.slice A6 (n + 1) c6).ownBlock = some g → w5.heap.size ≤ g := fun g h => (ho7.lt g h).1
  have hsz7 := hb27.size
  clear ho7 HG HLw
  go_wp2_with fail
  refine HDl.out.mono ?_
  rintro e w9 ⟨rfl, ho9, hg9⟩
  have hr9 := hr1.grown hg9 hsz7 (fun g h => Nat.le_trans hs25 (hlt7 g h))
  have hb29 := hb27.grown hg9 hsz7 (fun g h => Nat.le_trans hs25 (hlt7 g h))
  have hb09 := hb02.trans (hb29.mono hb02.size)
  have hE := equal_str A1 A6 n c1 n c6 _ _ _ _ w9 hr9 (Reads.of_own ho9) (by omega) (by omega)
  rw [decide_eq_true rfl] at hE
  have HE := Lib.hid hE
  clear hE hr9 ho9 hr1 hb29 hb27 hg9 HDl
  go_wp2_with fail
  refine HE.out.mono ?_
  rintro e w10 ⟨rfl, q, rfl⟩
  go_wp2_with fail
  go_ret
  exact ⟨by first | rfl | simp, below_drewN hb09 _⟩
set_option maxRecDepth 100000 in
set_option maxHeartbeats 4000000 in
theorem deskAsks_yes3 (A : Option Addr) (n c : Nat) (ls : List ByteArray) (s : ByteArray) (k : Int) (w : World) (hr : Reads w w.heap.size 1 A n (ls.map .string)) (hs : ∀ s ∈ ls, s.size < 4294967281) (hn9 : n ≤ 1000000000) (hT : DTab w.heap.size w) (hn : n ≤ 60) (K : Nat) (hkK : k = K) (hK : K ≤ n) (hs0 : s = ⟨#[103, 101, 116, 32, 48, 32, 48]⟩) :
    Calls Tryz.prog 4 #[.slice A n c, .string s, .int .i64 k] w fun e w' => e = .returned (.bool true) ∧ Below w.heap.size w w' := by
  have HDt := Lib.hid (desks_true w hT)
  subst hkK
  have hll : ls.length = n := by have := hr.1; simpa using this
  have HQ : Hid (s ∈ asksQ) := by
    show s ∈ asksQ
    rw [hs0]
    simp [asksQ]
  have b0 : (s.toList == [103, 97, 112, 115]) = false := by rw [hs0]; decide +kernel
  have d0 : (s.toList != [103, 97, 112, 115]) = true := by rw [bne, b0]; rfl
  have b1 : (s.toList == [108, 105, 118, 101]) = false := by rw [hs0]; decide +kernel
  have d1 : (s.toList != [108, 105, 118, 101]) = true := by rw [bne, b1]; rfl
  have b2 : (s.toList == [114, 111, 111, 116, 115]) = false := by rw [hs0]; decide +kernel
  have d2 : (s.toList != [114, 111, 111, 116, 115]) = true := by rw [bne, b2]; rfl
  have b3 : (s.toList == [103, 101, 116, 32, 48, 32, 48]) = true := by rw [hs0]; decide +kernel
  have d3 : (s.toList != [103, 101, 116, 32, 48, 32, 48]) = false := by rw [bne, b3]; rfl
  have b4 : (s.toList == [112, 101, 101, 107, 32, 48, 32, 48]) = false := by rw [hs0]; decide +kernel
  have d4 : (s.toList != [112, 101, 101, 107, 32, 48, 32, 48]) = true := by rw [bne, b4]; rfl
  have b5 : (s.toList == [119, 104, 97, 116]) = false := by rw [hs0]; decide +kernel
  have d5 : (s.toList != [119, 104, 97, 116]) = true := by rw [bne, b5]; rfl
  have hsz : s.size < 4294967281 := by rw [hs0]; decide
  have g1 : decide (60 < n) = false := decide_eq_false (by omega)
  have g1' : decide ((60 : Int) < (n : Int)) = false := decide_eq_false (by omega)
  have g2 : decide ((K : Int) < 0) = false := decide_eq_false (by omega)
  have g3 : decide ((n : Int) < (K : Int)) = false := decide_eq_false (by omega)
  have g3' : decide (n < K) = false := decide_eq_false (by omega)
  have HT := Lib.hid hT
  have HR := Lib.hid hr
  have HS := Lib.hid hs
  have HLw := Lib.hid (asks_law HQ.out ls K (by omega))
  have HP := Lib.hid (fun w1 (hb : Below w.heap.size w w1) => dplay_ok A n c ls w1 ((HR.out.below hb).more hb.size) HS.out (HT.out.up hb) (by omega))
  have HCl := Lib.hid (fun w1 (hb : Below w.heap.size w w1) => clone_str A n c w.heap.size (ls.map .string) w1 (HR.out.below hb) hb.size (strs_one ls) (by omega))
  have HSs := Lib.hid hs0
  clear hs0 hr hs hT
  go_enter Tryz.func4, Tryz.ntmps4
  go_wp2_with fail
  refine HDt.out.mono ?_
  rintro e w1 ⟨rfl, hb1⟩
  go_wp2_with fail
  refine (HP.out _ hb1).mono ?_
  rintro e w2 ⟨A1, c1, rfl, ho1, hb2⟩
  have hb02 := hb1.trans (hb2.mono hb1.size)
  go_wp2_with fail
  refine (HCl.out _ hb02).mono ?_
  rintro e w3 ⟨A2, c2, rfl, ho2, hb3⟩
  have hb03 := hb02.trans (hb3.mono hb02.size)
  have hlt2 : ∀ g, (Value.slice A2 n c2).ownBlock = some g → g < w3.heap.size := fun g h => (ho2.lt g h).2
  have hb4 := below_new w3 (.cells #[.string s] 9)
  have HIn := Lib.hid (insertStr_any w2.heap.size A2 n c2 K ls w3.heap.size s (w3.alloc (.cells #[.string s] 9)) ⟨ho2.alloc _, fun _ _ _ _ _ _ _ => trivial⟩ (Nat.le_trans hb3.size hb4.size) hK (by omega) (Blk.new w3 9 #[.string s]) (fun e => absurd (hlt2 _ e) (Nat.lt_irrefl _)))
  have hb04 := hb03.trans (hb4.mono hb03.size)
  have hr1 := ((Reads.of_own ho1).below (hb3.trans (hb4.mono hb3.size)))
  clear ho2 hlt2 HCl HP
  go_wp2_with fail
  refine HIn.out.mono ?_
  rintro e w5 ⟨A5, c5, rfl, ho5, hb5, -, -⟩
  have hb25 : Below w2.heap.size w2 w5 := (hb3.trans (hb4.mono hb3.size)).trans hb5
  have hb05 := hb02.trans (hb25.mono hb02.size)
  have hr1 := hr1.below hb5
  have HP2 := Lib.hid (dplay_ok A5 (n + 1) c5 (ls.take K ++ s :: ls.drop K) w5 (Reads.of_own ho5.1) (fun x hx => by
    rcases List.mem_append.1 hx with h | h
    · exact HS.out x (List.mem_of_mem_take h)
    · rcases List.mem_cons.1 h with rfl | h
      · exact hsz
      · exact HS.out x (List.mem_of_mem_drop h)) (HT.out.up hb05) (by omega))
  clear ho5 hb5 HIn hb04 hb4 hb3
  go_wp2_with fail
  refine HP2.out.mono ?_
  rintro e w6 ⟨A6, c6, rfl, ho6, hb6⟩
  have hb26 := hb25.trans (hb6.mono hb25.size)
  have hr1 := hr1.below (hb6.mono hb25.size)
  have hb7 := below_new w6 (.cells #[.int .i64 0, .int .i64 0] 24)
  have hx0 := reads_new w6 [.int .i64 0, .int .i64 0] 24 2 1 rfl
  have HG := Lib.hid (good_of (some ⟨w6.heap.size, 0, none⟩) 2 2 _ [0, 0] true _ (by decide) (by simpa using hx0) (by decide))
  have ho7 := ho6.alloc (.cells #[.int .i64 0, .int .i64 0] 24)
  have hb27 := hb26.trans (hb7.mono hb26.size)
  have hr1 := hr1.below (hb7.mono hb26.size)
  obtain ⟨L2, hL2⟩ : ∃ L2, L2 = deskR none (ls.take K ++ s :: ls.drop K) := ⟨_, rfl⟩
  rw [← hL2] at ho7 HLw
  have hs56 := hb6.size
  have hs25 := hb25.size
  clear HP2 ho6 hx0 hb6 hL2 hb25 hb26
  have wk : IntKind.i64.wrap ((K : Int) + 1) = (K : Int) + 1 := IntWalk.i64_in _ (by omega)
  have wk2 : wrap64 ((K : Int) + 1) = (K : Int) + 1 := IntWalk.wrap64_in _ (by omega)
  have wn : wrap64 ((n : Int) + 1) = (n : Int) + 1 := IntWalk.wrap64_in _ (by omega)
  go_wp2_with fail
  refine HG.out.mono ?_
  rintro e w8 ⟨rfl, hw8⟩
  subst hw8
  have HDl := Lib.hid (delete_str w5.heap.size A6 (n + 1) c6 K L2 _ ho7 (by omega))
  rw [HLw.out, Nat.add_sub_cancel] at HDl
  have hlt7 : ∀ g, (Value.slice A6 (n + 1) c6).ownBlock = some g → w5.heap.size ≤ g := fun g h => (ho7.lt g h).1
  have hsz7 := hb27.size
  clear ho7 HG HLw
  go_wp2_with fail
  refine HDl.out.mono ?_
  rintro e w9 ⟨rfl, ho9, hg9⟩
  have hr9 := hr1.grown hg9 hsz7 (fun g h => Nat.le_trans hs25 (hlt7 g h))
  have hb29 := hb27.grown hg9 hsz7 (fun g h => Nat.le_trans hs25 (hlt7 g h))
  have hb09 := hb02.trans (hb29.mono hb02.size)
  have hE := equal_str A1 A6 n c1 n c6 _ _ _ _ w9 hr9 (Reads.of_own ho9) (by omega) (by omega)
  rw [decide_eq_true rfl] at hE
  have HE := Lib.hid hE
  clear hE hr9 ho9 hr1 hb29 hb27 hg9 HDl
  go_wp2_with fail
  refine HE.out.mono ?_
  rintro e w10 ⟨rfl, q, rfl⟩
  go_wp2_with fail
  go_ret
  exact ⟨by first | rfl | simp, below_drewN hb09 _⟩
set_option maxRecDepth 100000 in
set_option maxHeartbeats 4000000 in
theorem deskAsks_yes4 (A : Option Addr) (n c : Nat) (ls : List ByteArray) (s : ByteArray) (k : Int) (w : World) (hr : Reads w w.heap.size 1 A n (ls.map .string)) (hs : ∀ s ∈ ls, s.size < 4294967281) (hn9 : n ≤ 1000000000) (hT : DTab w.heap.size w) (hn : n ≤ 60) (K : Nat) (hkK : k = K) (hK : K ≤ n) (hs0 : s = ⟨#[112, 101, 101, 107, 32, 48, 32, 48]⟩) :
    Calls Tryz.prog 4 #[.slice A n c, .string s, .int .i64 k] w fun e w' => e = .returned (.bool true) ∧ Below w.heap.size w w' := by
  have HDt := Lib.hid (desks_true w hT)
  subst hkK
  have hll : ls.length = n := by have := hr.1; simpa using this
  have HQ : Hid (s ∈ asksQ) := by
    show s ∈ asksQ
    rw [hs0]
    simp [asksQ]
  have b0 : (s.toList == [103, 97, 112, 115]) = false := by rw [hs0]; decide +kernel
  have d0 : (s.toList != [103, 97, 112, 115]) = true := by rw [bne, b0]; rfl
  have b1 : (s.toList == [108, 105, 118, 101]) = false := by rw [hs0]; decide +kernel
  have d1 : (s.toList != [108, 105, 118, 101]) = true := by rw [bne, b1]; rfl
  have b2 : (s.toList == [114, 111, 111, 116, 115]) = false := by rw [hs0]; decide +kernel
  have d2 : (s.toList != [114, 111, 111, 116, 115]) = true := by rw [bne, b2]; rfl
  have b3 : (s.toList == [103, 101, 116, 32, 48, 32, 48]) = false := by rw [hs0]; decide +kernel
  have d3 : (s.toList != [103, 101, 116, 32, 48, 32, 48]) = true := by rw [bne, b3]; rfl
  have b4 : (s.toList == [112, 101, 101, 107, 32, 48, 32, 48]) = true := by rw [hs0]; decide +kernel
  have d4 : (s.toList != [112, 101, 101, 107, 32, 48, 32, 48]) = false := by rw [bne, b4]; rfl
  have b5 : (s.toList == [119, 104, 97, 116]) = false := by rw [hs0]; decide +kernel
  have d5 : (s.toList != [119, 104, 97, 116]) = true := by rw [bne, b5]; rfl
  have hsz : s.size < 4294967281 := by rw [hs0]; decide
  have g1 : decide (60 < n) = false := decide_eq_false (by omega)
  have g1' : decide ((60 : Int) < (n : Int)) = false := decide_eq_false (by omega)
  have g2 : decide ((K : Int) < 0) = false := decide_eq_false (by omega)
  have g3 : decide ((n : Int) < (K : Int)) = false := decide_eq_false (by omega)
  have g3' : decide (n < K) = false := decide_eq_false (by omega)
  have HT := Lib.hid hT
  have HR := Lib.hid hr
  have HS := Lib.hid hs
  have HLw := Lib.hid (asks_law HQ.out ls K (by omega))
  have HP := Lib.hid (fun w1 (hb : Below w.heap.size w w1) => dplay_ok A n c ls w1 ((HR.out.below hb).more hb.size) HS.out (HT.out.up hb) (by omega))
  have HCl := Lib.hid (fun w1 (hb : Below w.heap.size w w1) => clone_str A n c w.heap.size (ls.map .string) w1 (HR.out.below hb) hb.size (strs_one ls) (by omega))
  have HSs := Lib.hid hs0
  clear hs0 hr hs hT
  go_enter Tryz.func4, Tryz.ntmps4
  go_wp2_with fail
  refine HDt.out.mono ?_
  rintro e w1 ⟨rfl, hb1⟩
  go_wp2_with fail
  refine (HP.out _ hb1).mono ?_
  rintro e w2 ⟨A1, c1, rfl, ho1, hb2⟩
  have hb02 := hb1.trans (hb2.mono hb1.size)
  go_wp2_with fail
  refine (HCl.out _ hb02).mono ?_
  rintro e w3 ⟨A2, c2, rfl, ho2, hb3⟩
  have hb03 := hb02.trans (hb3.mono hb02.size)
  have hlt2 : ∀ g, (Value.slice A2 n c2).ownBlock = some g → g < w3.heap.size := fun g h => (ho2.lt g h).2
  have hb4 := below_new w3 (.cells #[.string s] 9)
  have HIn := Lib.hid (insertStr_any w2.heap.size A2 n c2 K ls w3.heap.size s (w3.alloc (.cells #[.string s] 9)) ⟨ho2.alloc _, fun _ _ _ _ _ _ _ => trivial⟩ (Nat.le_trans hb3.size hb4.size) hK (by omega) (Blk.new w3 9 #[.string s]) (fun e => absurd (hlt2 _ e) (Nat.lt_irrefl _)))
  have hb04 := hb03.trans (hb4.mono hb03.size)
  have hr1 := ((Reads.of_own ho1).below (hb3.trans (hb4.mono hb3.size)))
  clear ho2 hlt2 HCl HP
  go_wp2_with fail
  refine HIn.out.mono ?_
  rintro e w5 ⟨A5, c5, rfl, ho5, hb5, -, -⟩
  have hb25 : Below w2.heap.size w2 w5 := (hb3.trans (hb4.mono hb3.size)).trans hb5
  have hb05 := hb02.trans (hb25.mono hb02.size)
  have hr1 := hr1.below hb5
  have HP2 := Lib.hid (dplay_ok A5 (n + 1) c5 (ls.take K ++ s :: ls.drop K) w5 (Reads.of_own ho5.1) (fun x hx => by
    rcases List.mem_append.1 hx with h | h
    · exact HS.out x (List.mem_of_mem_take h)
    · rcases List.mem_cons.1 h with rfl | h
      · exact hsz
      · exact HS.out x (List.mem_of_mem_drop h)) (HT.out.up hb05) (by omega))
  clear ho5 hb5 HIn hb04 hb4 hb3
  go_wp2_with fail
  refine HP2.out.mono ?_
  rintro e w6 ⟨A6, c6, rfl, ho6, hb6⟩
  have hb26 := hb25.trans (hb6.mono hb25.size)
  have hr1 := hr1.below (hb6.mono hb25.size)
  have hb7 := below_new w6 (.cells #[.int .i64 0, .int .i64 0] 24)
  have hx0 := reads_new w6 [.int .i64 0, .int .i64 0] 24 2 1 rfl
  have HG := Lib.hid (good_of (some ⟨w6.heap.size, 0, none⟩) 2 2 _ [0, 0] true _ (by decide) (by simpa using hx0) (by decide))
  have ho7 := ho6.alloc (.cells #[.int .i64 0, .int .i64 0] 24)
  have hb27 := hb26.trans (hb7.mono hb26.size)
  have hr1 := hr1.below (hb7.mono hb26.size)
  obtain ⟨L2, hL2⟩ : ∃ L2, L2 = deskR none (ls.take K ++ s :: ls.drop K) := ⟨_, rfl⟩
  rw [← hL2] at ho7 HLw
  have hs56 := hb6.size
  have hs25 := hb25.size
  clear HP2 ho6 hx0 hb6 hL2 hb25 hb26
  have wk : IntKind.i64.wrap ((K : Int) + 1) = (K : Int) + 1 := IntWalk.i64_in _ (by omega)
  have wk2 : wrap64 ((K : Int) + 1) = (K : Int) + 1 := IntWalk.wrap64_in _ (by omega)
  have wn : wrap64 ((n : Int) + 1) = (n : Int) + 1 := IntWalk.wrap64_in _ (by omega)
  go_wp2_with fail
  refine HG.out.mono ?_
  rintro e w8 ⟨rfl, hw8⟩
  subst hw8
  have HDl := Lib.hid (delete_str w5.heap.size A6 (n + 1) c6 K L2 _ ho7 (by omega))
  rw [HLw.out, Nat.add_sub_cancel] at HDl
  have hlt7 : ∀ g, (Value.slice A6 (n + 1) c6).ownBlock = some g → w5.heap.size ≤ g := fun g h => (ho7.lt g h).1
  have hsz7 := hb27.size
  clear ho7 HG HLw
  go_wp2_with fail
  refine HDl.out.mono ?_
  rintro e w9 ⟨rfl, ho9, hg9⟩
  have hr9 := hr1.grown hg9 hsz7 (fun g h => Nat.le_trans hs25 (hlt7 g h))
  have hb29 := hb27.grown hg9 hsz7 (fun g h => Nat.le_trans hs25 (hlt7 g h))
  have hb09 := hb02.trans (hb29.mono hb02.size)
  have hE := equal_str A1 A6 n c1 n c6 _ _ _ _ w9 hr9 (Reads.of_own ho9) (by omega) (by omega)
  rw [decide_eq_true rfl] at hE
  have HE := Lib.hid hE
  clear hE hr9 ho9 hr1 hb29 hb27 hg9 HDl
  go_wp2_with fail
  refine HE.out.mono ?_
  rintro e w10 ⟨rfl, q, rfl⟩
  go_wp2_with fail
  go_ret
  exact ⟨by first | rfl | simp, below_drewN hb09 _⟩
set_option maxRecDepth 100000 in
set_option maxHeartbeats 4000000 in
theorem deskAsks_yes5 (A : Option Addr) (n c : Nat) (ls : List ByteArray) (s : ByteArray) (k : Int) (w : World) (hr : Reads w w.heap.size 1 A n (ls.map .string)) (hs : ∀ s ∈ ls, s.size < 4294967281) (hn9 : n ≤ 1000000000) (hT : DTab w.heap.size w) (hn : n ≤ 60) (K : Nat) (hkK : k = K) (hK : K ≤ n) (hs0 : s = ⟨#[119, 104, 97, 116]⟩) :
    Calls Tryz.prog 4 #[.slice A n c, .string s, .int .i64 k] w fun e w' => e = .returned (.bool true) ∧ Below w.heap.size w w' := by
  have HDt := Lib.hid (desks_true w hT)
  subst hkK
  have hll : ls.length = n := by have := hr.1; simpa using this
  have HQ : Hid (s ∈ asksQ) := by
    show s ∈ asksQ
    rw [hs0]
    simp [asksQ]
  have b0 : (s.toList == [103, 97, 112, 115]) = false := by rw [hs0]; decide +kernel
  have d0 : (s.toList != [103, 97, 112, 115]) = true := by rw [bne, b0]; rfl
  have b1 : (s.toList == [108, 105, 118, 101]) = false := by rw [hs0]; decide +kernel
  have d1 : (s.toList != [108, 105, 118, 101]) = true := by rw [bne, b1]; rfl
  have b2 : (s.toList == [114, 111, 111, 116, 115]) = false := by rw [hs0]; decide +kernel
  have d2 : (s.toList != [114, 111, 111, 116, 115]) = true := by rw [bne, b2]; rfl
  have b3 : (s.toList == [103, 101, 116, 32, 48, 32, 48]) = false := by rw [hs0]; decide +kernel
  have d3 : (s.toList != [103, 101, 116, 32, 48, 32, 48]) = true := by rw [bne, b3]; rfl
  have b4 : (s.toList == [112, 101, 101, 107, 32, 48, 32, 48]) = false := by rw [hs0]; decide +kernel
  have d4 : (s.toList != [112, 101, 101, 107, 32, 48, 32, 48]) = true := by rw [bne, b4]; rfl
  have b5 : (s.toList == [119, 104, 97, 116]) = true := by rw [hs0]; decide +kernel
  have d5 : (s.toList != [119, 104, 97, 116]) = false := by rw [bne, b5]; rfl
  have hsz : s.size < 4294967281 := by rw [hs0]; decide
  have g1 : decide (60 < n) = false := decide_eq_false (by omega)
  have g1' : decide ((60 : Int) < (n : Int)) = false := decide_eq_false (by omega)
  have g2 : decide ((K : Int) < 0) = false := decide_eq_false (by omega)
  have g3 : decide ((n : Int) < (K : Int)) = false := decide_eq_false (by omega)
  have g3' : decide (n < K) = false := decide_eq_false (by omega)
  have HT := Lib.hid hT
  have HR := Lib.hid hr
  have HS := Lib.hid hs
  have HLw := Lib.hid (asks_law HQ.out ls K (by omega))
  have HP := Lib.hid (fun w1 (hb : Below w.heap.size w w1) => dplay_ok A n c ls w1 ((HR.out.below hb).more hb.size) HS.out (HT.out.up hb) (by omega))
  have HCl := Lib.hid (fun w1 (hb : Below w.heap.size w w1) => clone_str A n c w.heap.size (ls.map .string) w1 (HR.out.below hb) hb.size (strs_one ls) (by omega))
  have HSs := Lib.hid hs0
  clear hs0 hr hs hT
  go_enter Tryz.func4, Tryz.ntmps4
  go_wp2_with fail
  refine HDt.out.mono ?_
  rintro e w1 ⟨rfl, hb1⟩
  go_wp2_with fail
  refine (HP.out _ hb1).mono ?_
  rintro e w2 ⟨A1, c1, rfl, ho1, hb2⟩
  have hb02 := hb1.trans (hb2.mono hb1.size)
  go_wp2_with fail
  refine (HCl.out _ hb02).mono ?_
  rintro e w3 ⟨A2, c2, rfl, ho2, hb3⟩
  have hb03 := hb02.trans (hb3.mono hb02.size)
  have hlt2 : ∀ g, (Value.slice A2 n c2).ownBlock = some g → g < w3.heap.size := fun g h => (ho2.lt g h).2
  have hb4 := below_new w3 (.cells #[.string s] 9)
  have HIn := Lib.hid (insertStr_any w2.heap.size A2 n c2 K ls w3.heap.size s (w3.alloc (.cells #[.string s] 9)) ⟨ho2.alloc _, fun _ _ _ _ _ _ _ => trivial⟩ (Nat.le_trans hb3.size hb4.size) hK (by omega) (Blk.new w3 9 #[.string s]) (fun e => absurd (hlt2 _ e) (Nat.lt_irrefl _)))
  have hb04 := hb03.trans (hb4.mono hb03.size)
  have hr1 := ((Reads.of_own ho1).below (hb3.trans (hb4.mono hb3.size)))
  clear ho2 hlt2 HCl HP
  go_wp2_with fail
  refine HIn.out.mono ?_
  rintro e w5 ⟨A5, c5, rfl, ho5, hb5, -, -⟩
  have hb25 : Below w2.heap.size w2 w5 := (hb3.trans (hb4.mono hb3.size)).trans hb5
  have hb05 := hb02.trans (hb25.mono hb02.size)
  have hr1 := hr1.below hb5
  have HP2 := Lib.hid (dplay_ok A5 (n + 1) c5 (ls.take K ++ s :: ls.drop K) w5 (Reads.of_own ho5.1) (fun x hx => by
    rcases List.mem_append.1 hx with h | h
    · exact HS.out x (List.mem_of_mem_take h)
    · rcases List.mem_cons.1 h with rfl | h
      · exact hsz
      · exact HS.out x (List.mem_of_mem_drop h)) (HT.out.up hb05) (by omega))
  clear ho5 hb5 HIn hb04 hb4 hb3
  go_wp2_with fail
  refine HP2.out.mono ?_
  rintro e w6 ⟨A6, c6, rfl, ho6, hb6⟩
  have hb26 := hb25.trans (hb6.mono hb25.size)
  have hr1 := hr1.below (hb6.mono hb25.size)
  have hb7 := below_new w6 (.cells #[.int .i64 0, .int .i64 0] 24)
  have hx0 := reads_new w6 [.int .i64 0, .int .i64 0] 24 2 1 rfl
  have HG := Lib.hid (good_of (some ⟨w6.heap.size, 0, none⟩) 2 2 _ [0, 0] true _ (by decide) (by simpa using hx0) (by decide))
  have ho7 := ho6.alloc (.cells #[.int .i64 0, .int .i64 0] 24)
  have hb27 := hb26.trans (hb7.mono hb26.size)
  have hr1 := hr1.below (hb7.mono hb26.size)
  obtain ⟨L2, hL2⟩ : ∃ L2, L2 = deskR none (ls.take K ++ s :: ls.drop K) := ⟨_, rfl⟩
  rw [← hL2] at ho7 HLw
  have hs56 := hb6.size
  have hs25 := hb25.size
  clear HP2 ho6 hx0 hb6 hL2 hb25 hb26
  have wk : IntKind.i64.wrap ((K : Int) + 1) = (K : Int) + 1 := IntWalk.i64_in _ (by omega)
  have wk2 : wrap64 ((K : Int) + 1) = (K : Int) + 1 := IntWalk.wrap64_in _ (by omega)
  have wn : wrap64 ((n : Int) + 1) = (n : Int) + 1 := IntWalk.wrap64_in _ (by omega)
  go_wp2_with fail
  refine HG.out.mono ?_
  rintro e w8 ⟨rfl, hw8⟩
  subst hw8
  have HDl := Lib.hid (delete_str w5.heap.size A6 (n + 1) c6 K L2 _ ho7 (by omega))
  rw [HLw.out, Nat.add_sub_cancel] at HDl
  have hlt7 : ∀ g, (Value.slice A6 (n + 1) c6).ownBlock = some g → w5.heap.size ≤ g := fun g h => (ho7.lt g h).1
  have hsz7 := hb27.size
  clear ho7 HG HLw
  go_wp2_with fail
  refine HDl.out.mono ?_
  rintro e w9 ⟨rfl, ho9, hg9⟩
  have hr9 := hr1.grown hg9 hsz7 (fun g h => Nat.le_trans hs25 (hlt7 g h))
  have hb29 := hb27.grown hg9 hsz7 (fun g h => Nat.le_trans hs25 (hlt7 g h))
  have hb09 := hb02.trans (hb29.mono hb02.size)
  have hE := equal_str A1 A6 n c1 n c6 _ _ _ _ w9 hr9 (Reads.of_own ho9) (by omega) (by omega)
  rw [decide_eq_true rfl] at hE
  have HE := Lib.hid hE
  clear hE hr9 ho9 hr1 hb29 hb27 hg9 HDl
  go_wp2_with fail
  refine HE.out.mono ?_
  rintro e w10 ⟨rfl, q, rfl⟩
  go_wp2_with fail
  go_ret
  exact ⟨by first | rfl | simp, below_drewN hb09 _⟩
theorem deskAsks_any (A : Option Addr) (n c : Nat) (ls : List ByteArray) (s : ByteArray) (k : Int) (w : World) (hr : Reads w w.heap.size 1 A n (ls.map .string)) (_ : n ≤ c) (hs : ∀ s ∈ ls, s.size < 4294967281) (hn9 : n ≤ 1000000000) (_ : (Lit.int .i64 k).wf = true) (hT : DTab w.heap.size w) :
    Calls Tryz.prog 4 #[.slice A n c, .string s, .int .i64 k] w fun e w' => e = .returned (.bool true) ∧ Below w.heap.size w w' := by
  by_cases hk : 60 < n ∨ k < 0 ∨ (n : Int) < k
  · exact deskAsks_num A n c ls s k w hr hs hn9 hT hk
  · obtain ⟨K, rfl⟩ := Int.eq_ofNat_of_zero_le (show 0 ≤ k by omega)
    by_cases hq : s ∈ asksQ
    · have hq2 := hq
      simp only [asksQ, List.mem_cons, List.not_mem_nil, or_false] at hq2
      rcases hq2 with h | h | h | h | h | h
      · exact deskAsks_yes0 A n c ls s K w hr hs hn9 hT (by omega) K rfl (by omega) h
      · exact deskAsks_yes1 A n c ls s K w hr hs hn9 hT (by omega) K rfl (by omega) h
      · exact deskAsks_yes2 A n c ls s K w hr hs hn9 hT (by omega) K rfl (by omega) h
      · exact deskAsks_yes3 A n c ls s K w hr hs hn9 hT (by omega) K rfl (by omega) h
      · exact deskAsks_yes4 A n c ls s K w hr hs hn9 hT (by omega) K rfl (by omega) h
      · exact deskAsks_yes5 A n c ls s K w hr hs hn9 hT (by omega) K rfl (by omega) h
    · exact deskAsks_none A n c ls s K w hr hs hn9 hT (by omega) K rfl (by omega) hq
end Go.Proofs.YtfikonmhbhcejaaGreatDoor

namespace Go.Proofs.YtfikonmhbhcejaaGreatDoor
theorem bulk_one {H : Type} (d : DataW H) : 1 ≤ Rows.uptoBulk d := by
  cases d with
  | lit l => cases l <;> simp [Rows.uptoBulk]
  | _ => simp [Rows.uptoBulk]
theorem bulk_part {H : Type} {d : DataW H} : ∀ {l : List (DataW H)}, d ∈ l → Rows.uptoBulk d ≤ Rows.uptoBulkAll l
  | x :: r, h => by
    simp only [Rows.uptoBulkAll]
    rcases List.mem_cons.1 h with rfl | h
    · omega
    · have := bulk_part h; omega
theorem bulk_length {H : Type} : ∀ (l : List (DataW H)), l.length ≤ Rows.uptoBulkAll l
  | [] => by simp [Rows.uptoBulkAll]
  | x :: r => by
    have h1 := bulk_one x
    have h2 := bulk_length r
    simp only [Rows.uptoBulkAll, List.length_cons]
    omega
theorem bulk_slice {H : Type} {l : List (DataW H)} (hk : Rows.uptoSmall H l = true) {D E : List (DataW H)} (h : DataW.slice D E ∈ l) : D.length ≤ 1048576 := by
  have h1 : Rows.uptoBulkAll l ≤ 1048576 := of_decide_eq_true hk
  have h2 := bulk_part h
  have h3 := bulk_length D
  simp only [Rows.uptoBulk] at h2
  omega
end Go.Proofs.YtfikonmhbhcejaaGreatDoor

namespace Go.Proofs.YtfikonmhbhcejaaGreatDoor
open Go.ChangeShapes Go.WideShapes Go.ChangeAt Go.RowKit
theorem open_strs {H : Type} {enc : TypeId × Value → H} {P : Program} {t e : TypeId} {W : World} {r : Reach} {base : Nat} {sp : Nat → Bool} {v : Value} {d : DataW H} {ps : List MemPlace} (ht : P.underlying t = some (.slice e)) (he : P.underlying e = some .string) (hc : P.cellsOf e = 1)
    (hval : Value.okWide P W r base t v) (hlt : ∀ x ∈ ps, x.block < W.heap.size) (h : DataW.Trod enc P W 0 sp true t v d ps) :
    ∃ (A : Option Addr) (n c : Nat) (xs : List ByteArray), v = .slice A n c ∧ n ≤ c ∧ c ≤ maxLen ∧ Reads W W.heap.size 1 A n (xs.map .string) ∧ (n = 0 ∨ ∃ E, d = .slice (strs xs) E) := by
  obtain ⟨a0, len0, cap0, rfl⟩ := okWide_slice ht hval
  obtain ⟨fuel, hf⟩ := h
  rcases open_strings ht he hc hf with ⟨hcs, hx⟩ | ⟨a, len, cap, zs, hcs, hb, hlc, hm, hzl, hx, hcell, hwf⟩
  · simp [Value.cells] at hcs
    obtain ⟨rfl, rfl, rfl⟩ := hcs
    exact ⟨none, 0, 0, [], rfl, Nat.le_refl _, Nat.zero_le _, Reads.none_, .inl rfl⟩
  · simp [Value.cells] at hcs
    obtain ⟨rfl, rfl, rfl⟩ := hcs
    simp only [Prod.mk.injEq] at hx
    obtain ⟨rfl, rfl⟩ := hx
    have hlz : len0 ≤ zs.length := by rw [hzl]; split <;> omega
    refine ⟨some a, len0, cap0, zs.take len0, rfl, hlc, hm, ⟨by simp; omega, fun hn => ⟨a, rfl, ?_, fun j u hu => ?_⟩⟩, .inr ⟨_, rfl⟩⟩
    · have := hlt (.cell a.block (a.off + 0)) (by
        unfold MemPlace.row
        exact List.mem_map.2 ⟨0, List.mem_range.2 (by omega), rfl⟩)
      exact this
    · have hj : j < len0 := by
        have := (List.getElem?_eq_some_iff.1 hu).1
        simp at this; omega
      rw [hcell j (by omega)]
      rw [List.getElem?_map, List.getElem?_take, if_pos hj, List.getElem?_eq_getElem (by omega)] at hu
      rw [← hu, List.getD_eq_getElem?_getD, List.getElem?_eq_getElem (by omega)]
      rfl
end Go.Proofs.YtfikonmhbhcejaaGreatDoor

namespace Go.Proofs
open Go.RowKit Go.Shelf
shelf_lay LaysM.n146 Nm 146 at Tryz as Tryz.splitM
end Go.Proofs
namespace Go.Proofs.YtfikonmhbhcejaaGreatDoor
open Go.ChangeShapes Go.WideShapes Go.ChangeAt Go.RowKit
theorem cells_bools {H : Type} {enc : TypeId × Value → H} {P : Program} {w : World} {base : Nat} {sp : Nat → Bool} {held : Bool} {fuel : Nat} {t e : TypeId} {n : Nat} {cs : List Value} {zs : List Bool} {p : List MemPlace}
    (ht : P.underlying t = some (.array n e)) (he : P.underlying e = some .bool) (hce : P.cellsOf e = 1) (hct : P.cellsOf t = n)
    (h : DataW.trod enc P w base sp held fuel t cs = some (.agg (zs.map fun z => .lit (.bool z)), p)) : cs = zs.map Value.bool := by
  cases fuel with
  | zero => simp [DataW.trod] at h
  | succ fuel =>
    simp only [DataW.trod, ht, hce, hct, Nat.mul_one] at h
    split at h
    · rename_i hl
      obtain ⟨xs, hm, hx⟩ := Option.map_eq_some_iff.1 h
      have hxs : xs.map (·.1) = zs.map fun z => (DataW.lit (.bool z) : DataW H) := by
        have := congrArg Prod.fst hx
        simpa using this
      have hxl : xs.length = n := by simpa using Lib.mapM_length hm
      have hzl : zs.length = n := by
        have := congrArg List.length hxs
        simp at this
        omega
      apply List.ext_getElem?
      intro i
      by_cases hi : i < n
      · obtain ⟨b, hb, hf⟩ := Lib.mapM_at hm i i (by simp [hi])
        obtain ⟨z, hc, rfl⟩ := DataW.trod_bool he hf
        have h1 : cs[i]? = some (.bool z) := by
          have := congrArg (·[0]?) hc
          simpa [List.getElem?_take, List.getElem?_drop] using this
        have h2 : (xs.map (·.1))[i]? = some (DataW.lit (.bool z) : DataW H) := by simp [hb]
        rw [hxs] at h2
        simp only [List.getElem?_map, Option.map_eq_some_iff, DataW.lit.injEq, Lit.bool.injEq] at h2
        obtain ⟨z', hz', rfl⟩ := h2
        simp [h1, hz']
      · rw [List.getElem?_eq_none (by omega), List.getElem?_eq_none (by simp; omega)]
    · cases h
theorem rows_bools {H : Type} {enc : TypeId × Value → H} {P : Program} {w : World} {base : Nat} {sp : Nat → Bool} {held : Bool} {fuel : Nat} {t r e : TypeId} {m n : Nat} {cs : List Value} {zs : List (List Bool)} {p : List MemPlace}
    (ht : P.underlying t = some (.array m r)) (hr : P.underlying r = some (.array n e)) (he : P.underlying e = some .bool) (hce : P.cellsOf e = 1) (hcr : P.cellsOf r = n)
    (h : DataW.trod enc P w base sp held fuel t cs = some (.agg (zs.map fun z => .agg (z.map fun b => .lit (.bool b))), p)) : ∀ k z, zs[k]? = some z → k < m → (cs.drop (k * n)).take n = z.map Value.bool := by
  cases fuel with
  | zero => simp [DataW.trod] at h
  | succ fuel =>
    simp only [DataW.trod, ht, hcr] at h
    split at h
    · rename_i hl
      obtain ⟨xs, hm, hx⟩ := Option.map_eq_some_iff.1 h
      have hxs : xs.map (·.1) = zs.map fun z => (DataW.agg (z.map fun b => .lit (.bool b)) : DataW H) := by
        have := congrArg Prod.fst hx
        simpa using this
      intro k z hz hk
      obtain ⟨b, hb, hf⟩ := Lib.mapM_at hm k k (by simp [hk])
      have h2 : (xs.map (·.1))[k]? = some b.1 := by simp [hb]
      rw [hxs, List.getElem?_map, hz] at h2
      have h3 : b.1 = DataW.agg (z.map fun b => .lit (.bool b)) := by simpa using h2.symm
      obtain ⟨b1, b2⟩ := b
      simp only at h3
      subst h3
      exact cells_bools hr he hce hcr hf
    · cases h
def formsD : List (List Bool) := [[false, false, false, false], [true, true, true, true], [false, false, false, false], [true, true, true, false], [true, true, true, false], [true, true, false, false], [true, true, false, true], [true, false, false, false], [true, false, false, false], [true, true, false, false], [true, false, false, false], [true, false, false, true], [false, false, false, true], [true, false, false, false]]
theorem formsD_laid {H : Type} : (Rows.laid_cairnfield_play_forms : DataW H) = .agg (formsD.map fun z => .agg (z.map fun b => .lit (.bool b))) := rfl
theorem formsD_at (k : Nat) (hk : k < 14) (i : Nat) (hi : i < 4) : ∃ z, formsD[k]? = some z ∧ (z.map Value.bool)[i]? = some (.bool (formB k i)) := by
  have h : ∀ k < 14, ∀ i < 4, (formsD.getD k [])[i]? = some (formB k i) := by decide
  have hl : k < formsD.length := hk
  refine ⟨formsD[k], List.getElem?_eq_getElem hl, ?_⟩
  have := h k hk i hi
  rw [List.getD_eq_getElem?_getD, List.getElem?_eq_getElem hl, Option.getD_some] at this
  rw [List.getElem?_map, this]
  rfl
theorem gFormsD : Tryz.prog.globalNamed "cairnfield/play.forms" = some 0 := by kernel_rfl
theorem gFormsDType : (Tryz.prog.globals[0]?).map (·.type) = some 163 := by kernel_rfl
theorem cellsFormsD4 : Tryz.prog.cellsOf 162 = 4 := by kernel_rfl
theorem cellsFormsD1 : Tryz.prog.cellsOf 4 = 1 := by kernel_rfl
set_option maxRecDepth 100000 in
theorem ftab_at {W : World} {r : List (String × DataW Unit)} (h : laidMet Tryz.prog (("cairnfield/play.forms", Rows.laid_cairnfield_play_forms) :: r) W) : FTab W := by
  obtain ⟨ps, ⟨g', t', cs, fuel, p, q, hg', ht', hvar, hd, _, _⟩, _⟩ := h
  obtain rfl := Option.some.inj (gFormsD.symm.trans hg')
  obtain rfl := Option.some.inj (gFormsDType.symm.trans ht')
  rw [formsD_laid] at hd
  have hr := rows_bools Tryz.underlying163 Tryz.underlying162 Tryz.underlying4 cellsFormsD1 cellsFormsD4 hd
  have hc : ∀ k i : Nat, k < 14 → i < 4 → W.cell? ⟨0, k * 4 + i, none⟩ = some (.bool (formB k i)) := by
    intro k i hk hi
    obtain ⟨z, hz, hzi⟩ := formsD_at k hk i hi
    have h1 := hr k z hz hk
    rw [← h1, List.getElem?_take, if_pos hi, List.getElem?_drop] at hzi
    have h2 := World.var?_cell gFormsD hvar (k * 4 + i)
    rw [List.getElem?_toArray] at h2
    rw [h2]
    exact hzi
  exact ⟨World.block_lt_of_cell? W _ (hc 0 0 (by decide) (by decide)), hc⟩
theorem gPow : Tryz.prog.globalNamed "internal/strconv.uint64pow10" = some 1 := by kernel_rfl
theorem gPowType : (Tryz.prog.globals[1]?).map (·.type) = some 297 := by kernel_rfl
theorem cellsPow : Tryz.prog.cellsOf 297 = 20 := by kernel_rfl
theorem cellsU64 : Tryz.prog.cellsOf 44 = 1 := by kernel_rfl
theorem gSyn : Tryz.prog.globalNamed "strconv.ErrSyntax" = some 3 := by kernel_rfl
theorem gSynType : (Tryz.prog.globals[3]?).map (·.type) = some 249 := by kernel_rfl
theorem gRng : Tryz.prog.globalNamed "strconv.ErrRange" = some 4 := by kernel_rfl
theorem gRngType : (Tryz.prog.globals[4]?).map (·.type) = some 249 := by kernel_rfl
theorem cellsErrS : Tryz.prog.cellsOf 318 = 1 := by kernel_rfl
theorem cellsStr : Tryz.prog.cellsOf 9 = 1 := by kernel_rfl
theorem starE : "*" ++ "errors.errorString" = "*errors.errorString" := by decide
theorem rowErrS (u : TypeId) (h : Tryz.prog.typeName? 3 u = some "*errors.errorString") : u = 316 :=
  typeName_ptr_named (nm := "errors.errorString") (by rw [starE]; kernel_rfl) (by kernel_rfl) (by decide) u (by rw [starE]; exact h)
theorem var_lt {W : World} {nm : String} {cs : Array Value} {g : Nat} (hg : Tryz.prog.globalNamed nm = some g) (h : W.var? Tryz.prog nm = some cs) : g < W.heap.size := by
  unfold World.var? at h
  simp only [hg, Option.bind_some] at h
  rcases Nat.lt_or_ge g W.heap.size with h' | h'
  · exact h'
  · rw [Array.getElem?_eq_none h'] at h
    cases h
theorem dtab_of {W : World} (h : laidMetH Tryz.prog [("math/bits.deBruijn32tab", Rows.laid_math_bits_deBruijn32tab), ("math/bits.deBruijn64tab", Rows.laid_math_bits_deBruijn64tab), ("internal/strconv.uint64pow10", Rows.laid_internal_strconv_uint64pow10), ("unicode/utf8.acceptRanges", Rows.laid_unicode_utf8_acceptRanges), ("cairnfield/play.forms", Rows.laid_cairnfield_play_forms), ("strconv.ErrRange", Rows.laid_strconv_ErrRange), ("strconv.ErrSyntax", Rows.laid_strconv_ErrSyntax), ("unicode/utf8.first", Rows.laid_unicode_utf8_first)] W) (hSh : W.ShapedOpen Tryz.prog) : DTab W.heap.size W := by
  have h0 : laidMet Tryz.prog _ W := h
  have h2 := h0.tail.tail
  have h4 := h2.tail.tail
  have h5 := h4.tail
  have h6 := h5.tail
  have hp : Lib.TabIs Tryz.prog W "internal/strconv.uint64pow10" .u64 Lib.pow10Tab := Lib.tabIs_of_head gPow gPowType Tryz.underlying297 Tryz.underlying44 cellsU64 cellsPow h2
  have hf : FTab W := ftab_at h4
  obtain ⟨a1, s1, hv1, -, -, -⟩ := laid_sentinel h5 gRng gRngType Tryz.underlying249 rowErrS Tryz.underlying316 Tryz.underlying318 rfl rfl Tryz.underlying9 cellsErrS cellsStr
  obtain ⟨a2, s2, hv2, -, -, -⟩ := laid_sentinel h6 gSyn gSynType Tryz.underlying249 rowErrS Tryz.underlying316 Tryz.underlying318 rfl rfl Tryz.underlying9 cellsErrS cellsStr
  obtain ⟨m, hm⟩ := Tryz.splitM.s1_3 W hSh
  exact ⟨hf, ⟨hp, ⟨_, _, hv2⟩, ⟨_, _, hv1⟩⟩, ⟨m, hm⟩, hf.1, var_lt gPow hp, World.block_lt_of_cell? W _ hm, var_lt gSyn hv2, var_lt gRng hv1⟩
def flatD : Nat → DataW Unit → List Value
  | _ + 1, .lit (.int k x) => [.int k x]
  | _ + 1, .lit (.bool b) => [.bool b]
  | n + 1, .agg l => l.flatMap (flatD n)
  | _, _ => []
def setVar (h : Array Obj) (g : Nat) (cs : List Value) : Array Obj := h.modify g fun
  | .cells _ t frozen => .cells cs.toArray t frozen
  | o => o
noncomputable def dLow : Nat := (World.holding Tryz.prog default ⟨#[], #[], []⟩).heap.size
noncomputable def dLaidWorld (os : Os) : World :=
  let w0 := World.holding Tryz.prog os ⟨#[.cells #[.string { data := #[105, 110, 118, 97, 108, 105, 100, 32, 115, 121, 110, 116, 97, 120] }] 318, .cells #[.string { data := #[118, 97, 108, 117, 101, 32, 111, 117, 116, 32, 111, 102, 32, 114, 97, 110, 103, 101] }] 318], #[], []⟩
  { w0 with heap := setVar (setVar (setVar (setVar (setVar (setVar (setVar (setVar w0.heap
      7 (flatD 4 Rows.laid_math_bits_deBruijn32tab)) 8 (flatD 4 Rows.laid_math_bits_deBruijn64tab)) 1 (flatD 4 Rows.laid_internal_strconv_uint64pow10)) 6 (flatD 4 Rows.laid_unicode_utf8_acceptRanges)) 0 (flatD 4 Rows.laid_cairnfield_play_forms)) 5 (flatD 4 Rows.laid_unicode_utf8_first))
      3 [.iface 316 (.pointer (some ⟨dLow, 0, none⟩))]) 4 [.iface 316 (.pointer (some ⟨dLow + 1, 0, none⟩))] }
theorem bulk_strs {H : Type} {l : List (DataW H)} (hk : Rows.uptoSmall H l = true) {n : Nat} {xs : List ByteArray} (hn : (xs.map Value.string).length = n * 1) {d : DataW H} (hd : d ∈ l) (h : n = 0 ∨ ∃ E, d = .slice (strs xs) E) : n ≤ 1000000000 ∧ ∀ s ∈ xs, s.size < 4294967281 := by
  rcases h with rfl | ⟨E, rfl⟩
  · refine ⟨Nat.zero_le _, fun s hs => ?_⟩
    have : xs = [] := List.eq_nil_of_length_eq_zero (by simpa using hn)
    rw [this] at hs
    cases hs
  · have h1 := bulk_slice hk hd
    have h2 : (strs (H := H) xs).length = n := by simp [strs]; simpa using hn
    refine ⟨by omega, fun s hs => ?_⟩
    have h3 : Rows.uptoBulkAll l ≤ 1048576 := of_decide_eq_true hk
    have h4 := bulk_part hd
    have h5 : DataW.lit (.string s.data.toList) ∈ strs (H := H) xs := List.mem_map.2 ⟨s, hs, rfl⟩
    have h6 := bulk_part h5
    simp only [Rows.uptoBulk] at h4 h6
    have e1 : s.size = s.data.size := rfl
    have e2 : s.data.toList.length = s.data.size := Array.length_toList
    omega
end Go.Proofs.YtfikonmhbhcejaaGreatDoor
