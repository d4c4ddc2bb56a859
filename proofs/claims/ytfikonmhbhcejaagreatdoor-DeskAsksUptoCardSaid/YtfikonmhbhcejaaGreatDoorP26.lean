/-
  Texts joined: DeskAsks.
-/
import Derived.Test.YtfikonmhbhcejaaGreatDoorP12
import Derived.Test.YtfikonmhbhcejaaGreatDoorP22
import Derived.Test.YtfikonmhbhcejaaGreatDoorP25
namespace Go.Proofs.YtfikonmhbhcejaaGreatDoor
open Go.RowKit
theorem getO_st (S : St) (a b : Int) : (getO S a b).st = S := by unfold getO; split <;> rfl
theorem peekO_st (S : St) (a b : Int) : (peekO S a b).st = S := by
  unfold peekO
  split
  · rfl
  · split
    · rfl
    · split <;> rfl
theorem ask_deed (S : St) (k : Nat) (n : List Int) (hk : k = 5 ∨ k = 9) : (doO S (deedV k (-1) n)).st = S := by
  have hkd : (deedV (k : Nat) (-1) n).kind = k := by
    unfold deedV
    have : ∀ j, (fillV (k : Nat) (-1) n j).kind = k := by
      intro j
      induction j with
      | zero => rfl
      | succ j ih =>
        show (if (j : Int) = -1 then ({ fillV (k : Nat) (-1) n j with v := n.getD j 0 } : OpV) else (fillV (k : Nat) (-1) n j).put (cntV (-1) j) (n.getD j 0)).kind = k
        rw [if_neg (by omega)]
        unfold OpV.put
        split
        · exact ih
        · split <;> exact ih
    exact this _
  unfold doO
  by_cases hrt : rightB (deedV (k : Nat) (-1) n) = false
  · rw [if_pos hrt]
  · rw [if_neg hrt, hkd]
    rcases hk with rfl | rfl
    · rw [if_neg (by decide), if_neg (by decide), if_neg (by decide), if_neg (by decide), if_pos (by decide)]
      exact getO_st _ _ _
    · rw [if_neg (by decide), if_neg (by decide), if_neg (by decide), if_neg (by decide), if_neg (by decide), if_neg (by decide), if_neg (by decide), if_neg (by decide), if_pos (by decide)]
      exact peekO_st _ _ _
theorem cmd_ask (os : Option St) (c : Cmd) (n : List Int) (hc : c = .gaps ∨ c = .live ∨ c = .roots ∨ c = .deed 5 2 (-1) true ∨ c = .deed 9 2 (-1) true) : (cmdO os c n).st = os := by
  rcases hc with rfl | rfl | rfl | rfl | rfl
  · cases os <;> rfl
  · cases os <;> rfl
  · cases os <;> rfl
  · cases os with
    | none => rfl
    | some S =>
      have h := ask_deed S 5 n (.inl rfl)
      unfold cmdO
      dsimp only
      split
      · rfl
      · split
        · rfl
        · exact congrArg some h
  · cases os with
    | none => rfl
    | some S =>
      have h := ask_deed S 9 n (.inr rfl)
      unfold cmdO
      dsimp only
      split
      · rfl
      · split
        · rfl
        · exact congrArg some h
theorem line_ask (os : Option St) (s : ByteArray) (h : ∀ c, findC ((wordsB s).headD ByteArray.empty) = some c → c = .gaps ∨ c = .live ∨ c = .roots ∨ c = .deed 5 2 (-1) true ∨ c = .deed 9 2 (-1) true) : (lineO os s).st = os := by
  unfold lineO
  cases hf : findC ((wordsB s).headD ByteArray.empty) with
  | none => rfl
  | some c =>
    show (if (wordsB s).length ≠ c.many + 1 then (⟨os, [], 3⟩ : DOut) else match ((wordsB s).drop 1).mapM numB with | none => ⟨os, [], 3⟩ | some n => cmdO os c n).st = os
    split
    · rfl
    · split
      · rfl
      · exact cmd_ask os c _ (h c hf)
theorem beq_bytes_l {s : ByteArray} {l : List UInt8} : (s.toList == l) = decide (s = ⟨l.toArray⟩) := by
  have h := beq_bytes s ⟨l.toArray⟩
  rwa [ByteArray.toList_eq ⟨l.toArray⟩] at h
def asksQ : List ByteArray := [⟨#[103, 97, 112, 115]⟩, ⟨#[108, 105, 118, 101]⟩, ⟨#[114, 111, 111, 116, 115]⟩, ⟨#[103, 101, 116, 32, 48, 32, 48]⟩, ⟨#[112, 101, 101, 107, 32, 48, 32, 48]⟩, ⟨#[119, 104, 97, 116]⟩]
theorem asks_line {s : ByteArray} (h : s ∈ asksQ) (os : Option St) : (lineO os s).st = os := by
  refine line_ask os s (fun c hc => ?_)
  simp only [asksQ, List.mem_cons, List.not_mem_nil, or_false] at h
  rcases h with rfl | rfl | rfl | rfl | rfl | rfl
  · rw [show findC ((wordsB ⟨#[103, 97, 112, 115]⟩).headD ByteArray.empty) = some .gaps by kernel_rfl] at hc
    exact .inl (Option.some.inj hc).symm
  · rw [show findC ((wordsB ⟨#[108, 105, 118, 101]⟩).headD ByteArray.empty) = some .live by kernel_rfl] at hc
    exact .inr (.inl (Option.some.inj hc).symm)
  · rw [show findC ((wordsB ⟨#[114, 111, 111, 116, 115]⟩).headD ByteArray.empty) = some .roots by kernel_rfl] at hc
    exact .inr (.inr (.inl (Option.some.inj hc).symm))
  · rw [show findC ((wordsB ⟨#[103, 101, 116, 32, 48, 32, 48]⟩).headD ByteArray.empty) = some (.deed 5 2 (-1) true) by kernel_rfl] at hc
    exact .inr (.inr (.inr (.inl (Option.some.inj hc).symm)))
  · rw [show findC ((wordsB ⟨#[112, 101, 101, 107, 32, 48, 32, 48]⟩).headD ByteArray.empty) = some (.deed 9 2 (-1) true) by kernel_rfl] at hc
    exact .inr (.inr (.inr (.inr (Option.some.inj hc).symm)))
  · rw [show findC ((wordsB ⟨#[119, 104, 97, 116]⟩).headD ByteArray.empty) = none by kernel_rfl] at hc
    cases hc
theorem asks_law {s : ByteArray} (h : s ∈ asksQ) (ls : List ByteArray) (k : Nat) (hk : k ≤ ls.length) : (deskR none (ls.take k ++ s :: ls.drop k)).take k ++ (deskR none (ls.take k ++ s :: ls.drop k)).drop (k + 1) = deskR none ls := by
  have e1 : deskR none (ls.take k ++ s :: ls.drop k) = deskR none (ls.take k) ++ replyB (lineO (deskS none (ls.take k)) s) :: deskR (deskS none (ls.take k)) (ls.drop k) := by
    rw [deskR_app]
    show _ ++ replyB _ :: deskR (lineO (deskS none (ls.take k)) s).st (ls.drop k) = _
    rw [asks_line h]
  have hl : (deskR none (ls.take k)).length = k := by rw [deskR_length, List.length_take]; omega
  rw [e1, List.take_left' hl, show k + 1 = (deskR none (ls.take k)).length + 1 by rw [hl], ← List.drop_drop, List.drop_left' rfl]
  show _ ++ deskR _ (ls.drop k) = _
  rw [← deskR_app, List.take_append_drop]
set_option maxRecDepth 100000 in
set_option maxHeartbeats 2000000 in
theorem deskAsks_num (A : Option Addr) (n c : Nat) (ls : List ByteArray) (s : ByteArray) (k : Int) (w : World) (hr : Reads w w.heap.size 1 A n (ls.map .string)) (hs : ∀ s ∈ ls, s.size < 4294967281) (hn9 : n ≤ 1000000000) (hT : DTab w.heap.size w) (hk : 60 < n ∨ k < 0 ∨ (n : Int) < k) :
    Calls Tryz.prog 4 #[.slice A n c, .string s, .int .i64 k] w fun e w' => e = .returned (.bool true) ∧ Below w.heap.size w w' := by
  have HDt := Lib.hid (desks_true w hT)
  by_cases h1 : 60 < n
  · have g1 : decide (60 < n) = true := decide_eq_true h1
    have g1' : decide ((60 : Int) < (n : Int)) = true := decide_eq_true (by omega)
    clear hr hs hT hk
    go_enter Tryz.func4, Tryz.ntmps4
    go_wp2_with fail
    refine HDt.out.mono ?_
    rintro e w1 ⟨rfl, hb1⟩
    go_wp2_with fail
    go_ret
    exact ⟨rfl, hb1⟩
  · have g1 : decide (60 < n) = false := decide_eq_false h1
    have g1' : decide ((60 : Int) < (n : Int)) = false := decide_eq_false (by omega)
    by_cases h2 : k < 0
    · have g2 : decide (k < 0) = true := decide_eq_true h2
      clear hr hs hT hk
      go_enter Tryz.func4, Tryz.ntmps4
      go_wp2_with fail
      refine HDt.out.mono ?_
      rintro e w1 ⟨rfl, hb1⟩
      go_wp2_with fail
      go_ret
      exact ⟨rfl, hb1⟩
    · have g2 : decide (k < 0) = false := decide_eq_false h2
      have g3 : decide ((n : Int) < k) = true := decide_eq_true (by omega)
      clear hr hs hT hk
      go_enter Tryz.func4, Tryz.ntmps4
      go_wp2_with fail
      refine HDt.out.mono ?_
      rintro e w1 ⟨rfl, hb1⟩
      go_wp2_with fail
      go_ret
      exact ⟨rfl, hb1⟩
set_option maxRecDepth 100000 in
set_option maxHeartbeats 2000000 in
theorem deskAsks_none (A : Option Addr) (n c : Nat) (ls : List ByteArray) (s : ByteArray) (k : Int) (w : World) (hr : Reads w w.heap.size 1 A n (ls.map .string)) (hs : ∀ s ∈ ls, s.size < 4294967281) (hn9 : n ≤ 1000000000) (hT : DTab w.heap.size w) (hn : n ≤ 60) (K : Nat) (hkK : k = K) (hK : K ≤ n) (hq : s ∉ asksQ) :
    Calls Tryz.prog 4 #[.slice A n c, .string s, .int .i64 k] w fun e w' => e = .returned (.bool true) ∧ Below w.heap.size w w' := by
  have HDt := Lib.hid (desks_true w hT)
  subst hkK
  have b0 : (s.toList == [103, 97, 112, 115]) = false := by rw [beq_bytes_l]; exact decide_eq_false (fun e => hq (by rw [e]; simp [asksQ]))
  have d0 : (s.toList != [103, 97, 112, 115]) = true := by rw [bne, b0]; rfl
  have b1 : (s.toList == [108, 105, 118, 101]) = false := by rw [beq_bytes_l]; exact decide_eq_false (fun e => hq (by rw [e]; simp [asksQ]))
  have d1 : (s.toList != [108, 105, 118, 101]) = true := by rw [bne, b1]; rfl
  have b2 : (s.toList == [114, 111, 111, 116, 115]) = false := by rw [beq_bytes_l]; exact decide_eq_false (fun e => hq (by rw [e]; simp [asksQ]))
  have d2 : (s.toList != [114, 111, 111, 116, 115]) = true := by rw [bne, b2]; rfl
  have b3 : (s.toList == [103, 101, 116, 32, 48, 32, 48]) = false := by rw [beq_bytes_l]; exact decide_eq_false (fun e => hq (by rw [e]; simp [asksQ]))
  have d3 : (s.toList != [103, 101, 116, 32, 48, 32, 48]) = true := by rw [bne, b3]; rfl
  have b4 : (s.toList == [112, 101, 101, 107, 32, 48, 32, 48]) = false := by rw [beq_bytes_l]; exact decide_eq_false (fun e => hq (by rw [e]; simp [asksQ]))
  have d4 : (s.toList != [112, 101, 101, 107, 32, 48, 32, 48]) = true := by rw [bne, b4]; rfl
  have b5 : (s.toList == [119, 104, 97, 116]) = false := by rw [beq_bytes_l]; exact decide_eq_false (fun e => hq (by rw [e]; simp [asksQ]))
  have d5 : (s.toList != [119, 104, 97, 116]) = true := by rw [bne, b5]; rfl
  have g1 : decide (60 < n) = false := decide_eq_false (by omega)
  have g1' : decide ((60 : Int) < (n : Int)) = false := decide_eq_false (by omega)
  have g2 : decide ((K : Int) < 0) = false := decide_eq_false (by omega)
  have g3 : decide ((n : Int) < (K : Int)) = false := decide_eq_false (by omega)
  have g3' : decide (n < K) = false := decide_eq_false (by omega)
  clear hr hs hT hq
  go_enter Tryz.func4, Tryz.ntmps4
  go_wp2_with fail
  refine HDt.out.mono ?_
  rintro e w1 ⟨rfl, hb1⟩
  go_wp2_with fail
  go_ret
  exact ⟨rfl, hb1⟩
set_option maxRecDepth 100000 in
set_option maxHeartbeats 4000000 in
theorem deskAsks_yes0 (A : Option Addr) (n c : Nat) (ls : List ByteArray) (s : ByteArray) (k : Int) (w : World) (hr : Reads w w.heap.size 1 A n (ls.map .string)) (hs : ∀ s ∈ ls, s.size < 4294967281) (hn9 : n ≤ 1000000000) (hT : DTab w.heap.size w) (hn : n ≤ 60) (K : Nat) (hkK : k = K) (hK : K ≤ n) (hs0 : s = ⟨#[103, 97, 112, 115]⟩) :
    Calls Tryz.prog 4 #[.slice A n c, .string s, .int .i64 k] w fun e w' => e = .returned (.bool true) ∧ Below w.heap.size w w' := by
  have HDt := Lib.hid (desks_true w hT)
  subst hkK
  have hll : ls.length = n := by have := hr.1; simpa using this
  have HQ : Hid (s ∈ asksQ) := by
    show s ∈ asksQ
    rw [hs0]
    simp [asksQ]
  have b0 : (s.toList == [103, 97, 112, 115]) = true := by rw [hs0]; decide +kernel
  have d0 : (s.toList != [103, 97, 112, 115]) = false := by rw [bne, b0]; rfl
  have b1 : (s.toList == [108, 105, 118, 101]) = false := by rw [hs0]; decide +kernel
  have d1 : (s.toList != [108, 105, 118, 101]) = true := by rw [bne, b1]; rfl
  have b2 : (s.toList == [114, 111, 111, 116, 115]) = false := by rw [hs0]; decide +kernel
  have d2 : (s.toList != [114, 111, 111, 116, 115]) = true := by rw [bne, b2]; rfl
  have b3 : (s.toList == [103, 101, 116, 32, 48, 32, 48]) = false := by rw [hs0]; decide +kernel
  have d3 : (s.toList != [103, 101, 116, 32, 48, 32, 48]) = true := by rw [bne, b3]; rfl
  have b4 : (s.toList == [112, 101, 101, 107, 32, 48, 32, 48]) = false := by rw [hs0]; decide +kernel
  have d4 : (s.toList != [112, 101, 101, 107, 32, 48, 32, 48]) = true := by rw [bne, b4]; rfl
  have b5 : (s.toList == [119, 104, 97, 116]) = false := by rw [hs0]; decide +kernel
  have d5 : (s.toList != [119, 104, 97, 116]) = true := by rw [bne, b5]; rfl
  have hsz : s.size < 4294967281 := by rw [hs0]; decide
  have g1 : decide (60 < n) = false := decide_eq_false (by omega)
  have g1' : decide ((60 : Int) < (n : Int)) = false := decide_eq_false (by omega)
  have g2 : decide ((K : Int) < 0) = false := decide_eq_false (by omega)
  have g3 : decide ((n : Int) < (K : Int)) = false := decide_eq_false (by omega)
  have g3' : decide (n < K) = false := decide_eq_false (by omega)
  have HT := Lib.hid hT
  have HR := Lib.hid hr
  have HS := Lib.hid hs
  have HLw := Lib.hid (asks_law HQ.out ls K (by omega))
  have HP := Lib.hid (fun w1 (hb : Below w.heap.size w w1) => dplay_ok A n c ls w1 ((HR.out.below hb).more hb.size) HS.out (HT.out.up hb) (by omega))
  have HCl := Lib.hid (fun w1 (hb : Below w.heap.size w w1) => clone_str A n c w.heap.size (ls.map .string) w1 (HR.out.below hb) hb.size (strs_one ls) (by omega))
  have HSs := Lib.hid hs0
  clear hs0 hr hs hT
  go_enter Tryz.func4, Tryz.ntmps4
  go_wp2_with fail
  refine HDt.out.mono ?_
  rintro e w1 ⟨rfl, hb1⟩
  go_wp2_with fail
  refine (HP.out _ hb1).mono ?_
  rintro e w2 ⟨A1, c1, rfl, ho1, hb2⟩
  have hb02 := hb1.trans (hb2.mono hb1.size)
  go_wp2_with fail
  refine (HCl.out _ hb02).mono ?_
  rintro e w3 ⟨A2, c2, rfl, ho2, hb3⟩
  have hb03 := hb02.trans (hb3.mono hb02.size)
  have hlt2 : ∀ g, (Value.slice A2 n c2).ownBlock = some g → g < w3.heap.size := fun g h => (ho2.lt g h).2
  have hb4 := below_new w3 (.cells #[.string s] 9)
  have HIn := Lib.hid (insertStr_any w2.heap.size A2 n c2 K ls w3.heap.size s (w3.alloc (.cells #[.string s] 9)) ⟨ho2.alloc _, fun _ _ _ _ _ _ _ => trivial⟩ (Nat.le_trans hb3.size hb4.size) hK (by omega) (Blk.new w3 9 #[.string s]) (fun e => absurd (hlt2 _ e) (Nat.lt_irrefl _)))
  have hb04 := hb03.trans (hb4.mono hb03.size)
  have hr1 := ((Reads.of_own ho1).below (hb3.trans (hb4.mono hb3.size)))
  clear ho2 hlt2 HCl HP
  go_wp2_with fail
  refine HIn.out.mono ?_
  rintro e w5 ⟨A5, c5, rfl, ho5, hb5, -, -⟩
  have hb25 : Below w2.heap.size w2 w5 := (hb3.trans (hb4.mono hb3.size)).trans hb5
  have hb05 := hb02.trans (hb25.mono hb02.size)
  have hr1 := hr1.below hb5
  have HP2 := Lib.hid (dplay_ok A5 (n + 1) c5 (ls.take K ++ s :: ls.drop K) w5 (Reads.of_own ho5.1) (fun x hx => by
    rcases List.mem_append.1 hx with h | h
    · exact HS.out x (List.mem_of_mem_take h)
    · rcases List.mem_cons.1 h with rfl | h
      · exact hsz
      · exact HS.out x (List.mem_of_mem_drop h)) (HT.out.up hb05) (by omega))
  clear ho5 hb5 HIn hb04 hb4 hb3
  go_wp2_with fail
  refine HP2.out.mono ?_
  rintro e w6 ⟨A6, c6, rfl, ho6, hb6⟩
  have hb26 := hb25.trans (hb6.mono hb25.size)
  have hr1 := hr1.below (hb6.mono hb25.size)
  have hb7 := below_new w6 (.cells #[.int .i64 0, .int .i64 0] 24)
  have hx0 := reads_new w6 [.int .i64 0, .int .i64 0] 24 2 1 rfl
  have HG := Lib.hid (good_of (some ⟨w6.heap.size, 0, none⟩) 2 2 _ [0, 0] true _ (by decide) (by simpa using hx0) (by decide))
  have ho7 := ho6.alloc (.cells #[.int .i64 0, .int .i64 0] 24)
  have hb27 := hb26.trans (hb7.mono hb26.size)
  have hr1 := hr1.below (hb7.mono hb26.size)
  obtain ⟨L2, hL2⟩ : ∃ L2, L2 = deskR none (ls.take K ++ s :: ls.drop K) := ⟨_, rfl⟩
  rw [← hL2] at ho7 HLw
  have hs56 := hb6.size
  have hs25 := hb25.size
  clear HP2 ho6 hx0 hb6 hL2 hb25 hb26
  have wk : IntKind.i64.wrap ((K : Int) + 1) = (K : Int) + 1 := IntWalk.i64_in _ (by omega)
  have wk2 : wrap64 ((K : Int) + 1) = (K : Int) + 1 := IntWalk.wrap64_in _ (by omega)
  have wn : wrap64 ((n : Int) + 1) = (n : Int) + 1 := IntWalk.wrap64_in _ (by omega)
  go_wp2_with fail
  refine HG.out.mono ?_
  rintro e w8 ⟨rfl, hw8⟩
  subst hw8
  have HDl := Lib.hid (delete_str w5.heap.size A6 (n + 1) c6 K L2 _ ho7 (by omega))
  rw [HLw.out, Nat.add_sub_cancel] at HDl
  have hlt7 : ∀ g, (Value.slice A6 (n + 1) c6).ownBlock = some g → w5.heap.size ≤ g := fun g h => (ho7.lt g h).1
  have hsz7 := hb27.size
  clear ho7 HG HLw
  go_wp2_with fail
  refine HDl.out.mono ?_
  rintro e w9 ⟨rfl, ho9, hg9⟩
  have hr9 := hr1.grown hg9 hsz7 (fun g h => Nat.le_trans hs25 (hlt7 g h))
  have hb29 := hb27.grown hg9 hsz7 (fun g h => Nat.le_trans hs25 (hlt7 g h))
  have hb09 := hb02.trans (hb29.mono hb02.size)
  have hE := equal_str A1 A6 n c1 n c6 _ _ _ _ w9 hr9 (Reads.of_own ho9) (by omega) (by omega)
  rw [decide_eq_true rfl] at hE
  have HE := Lib.hid hE
  clear hE hr9 ho9 hr1 hb29 hb27 hg9 HDl
  go_wp2_with fail
  refine HE.out.mono ?_
  rintro e w10 ⟨rfl, q, rfl⟩
  go_wp2_with fail
  go_ret
  exact ⟨by first | rfl | simp, below_drewN hb09 _⟩
set_option maxRecDepth 100000 in
set_option maxHeartbeats 4000000 in
theorem deskAsks_yes1 (A : Option Addr) (n c : Nat) (ls : List ByteArray) (s : ByteArray) (k : Int) (w : World) (hr : Reads w w.heap.size 1 A n (ls.map .string)) (hs : ∀ s ∈ ls, s.size < 4294967281) (hn9 : n ≤ 1000000000) (hT : DTab w.heap.size w) (hn : n ≤ 60) (K : Nat) (hkK : k = K) (hK : K ≤ n) (hs0 : s = ⟨#[108, 105, 118, 101]⟩) :
    Calls Tryz.prog 4 #[.slice A n c, .string s, .int .i64 k] w fun e w' => e = .returned (.bool true) ∧ Below w.heap.size w w' := by
  have HDt := Lib.hid (desks_true w hT)
  subst hkK
  have hll : ls.length = n := by have := hr.1; simpa using this
  have HQ : Hid (s ∈ asksQ) := by
    show s ∈ asksQ
    rw [hs0]
    simp [asksQ]
  have b0 : (s.toList == [103, 97, 112, 115]) = false := by rw [hs0]; decide +kernel
  have d0 : (s.toList != [103, 97, 112, 115]) = true := by rw [bne, b0]; rfl
  have b1 : (s.toList == [108, 105, 118, 101]) = true := by rw [hs0]; decide +kernel
  have d1 : (s.toList != [108, 105, 118, 101]) = false := by rw [bne, b1]; rfl
  have b2 : (s.toList == [114, 111, 111, 116, 115]) = false := by rw [hs0]; decide +kernel
  have d2 : (s.toList != [114, 111, 111, 116, 115]) = true := by rw [bne, b2]; rfl
  have b3 : (s.toList == [103, 101, 116, 32, 48, 32, 48]) = false := by rw [hs0]; decide +kernel
  have d3 : (s.toList != [103, 101, 116, 32, 48, 32, 48]) = true := by rw [bne, b3]; rfl
  have b4 : (s.toList == [112, 101, 101, 107, 32, 48, 32, 48]) = false := by rw [hs0]; decide +kernel
  have d4 : (s.toList != [112, 101, 101, 107, 32, 48, 32, 48]) = true := by rw [bne, b4]; rfl
  have b5 : (s.toList == [119, 104, 97, 116]) = false := by rw [hs0]; decide +kernel
  have d5 : (s.toList != [119, 104, 97, 116]) = true := by rw [bne, b5]; rfl
  have hsz : s.size < 4294967281 := by rw [hs0]; decide
  have g1 : decide (60 < n) = false := decide_eq_false (by omega)
  have g1' : decide ((60 : Int) < (n : Int)) = false := decide_eq_false (by omega)
  have g2 : decide ((K : Int) < 0) = false := decide_eq_false (by omega)
  have g3 : decide ((n : Int) < (K : Int)) = false := decide_eq_false (by omega)
  have g3' : decide (n < K) = false := decide_eq_false (by omega)
  have HT := Lib.hid hT
  have HR := Lib.hid hr
  have HS := Lib.hid hs
  have HLw := Lib.hid (asks_law HQ.out ls K (by omega))
  have HP := Lib.hid (fun w1 (hb : Below w.heap.size w w1) => dplay_ok A n c ls w1 ((HR.out.below hb).more hb.size) HS.out (HT.out.up hb) (by omega))
  have HCl := Lib.hid (fun w1 (hb : Below w.heap.size w w1) => clone_str A n c w.heap.size (ls.map .string) w1 (HR.out.below hb) hb.size (strs_one ls) (by omega))
  have HSs := Lib.hid hs0
  clear hs0 hr hs hT
  go_enter Tryz.func4, Tryz.ntmps4
  go_wp2_with fail
  refine HDt.out.mono ?_
  rintro e w1 ⟨rfl, hb1⟩
  go_wp2_with fail
  refine (HP.out _ hb1).mono ?_
  rintro e w2 ⟨A1, c1, rfl, ho1, hb2⟩
  have hb02 := hb1.trans (hb2.mono hb1.size)
  go_wp2_with fail
  refine (HCl.out _ hb02).mono ?_
  rintro e w3 ⟨A2, c2, rfl, ho2, hb3⟩
  have hb03 := hb02.trans (hb3.mono hb02.size)
  have hlt2 : ∀ g, (Value.slice A2 n c2).ownBlock = some g → g < w3.heap.size := fun g h => (ho2.lt g h).2
  have hb4 := below_new w3 (.cells #[.string s] 9)
  have HIn := Lib.hid (insertStr_any w2.heap.size A2 n c2 K ls w3.heap.size s (w3.alloc (.cells #[.string s] 9)) ⟨ho2.alloc _, fun _ _ _ _ _ _ _ => trivial⟩ (Nat.le_trans hb3.size hb4.size) hK (by omega) (Blk.new w3 9 #[.string s]) (fun e => absurd (hlt2 _ e) (Nat.lt_irrefl _)))
  have hb04 := hb03.trans (hb4.mono hb03.size)
  have hr1 := ((Reads.of_own ho1).below (hb3.trans (hb4.mono hb3.size)))
  clear ho2 hlt2 HCl HP
  go_wp2_with fail
  refine HIn.out.mono ?_
  rintro e w5 ⟨A5, c5, rfl, ho5, hb5, -, -⟩
  have hb25 : Below w2.heap.size w2 w5 := (hb3.trans (hb4.mono hb3.size)).trans hb5
  have hb05 := hb02.trans (hb25.mono hb02.size)
  have hr1 := hr1.below hb5
  have HP2 := Lib.hid (dplay_ok A5 (n + 1) c5 (ls.take K ++ s :: ls.drop K) w5 (Reads.of_own ho5.1) (fun x hx => by
    rcases List.mem_append.1 hx with h | h
    · exact HS.out x (List.mem_of_mem_take h)
    · rcases List.mem_cons.1 h with rfl | h
      · exact hsz
      · exact HS.out x (List.mem_of_mem_drop h)) (HT.out.up hb05) (by omega))
  clear ho5 hb5 HIn hb04 hb4 hb3
  go_wp2_with fail
  refine HP2.out.mono ?_
  rintro e w6 ⟨A6, c6, rfl, ho6, hb6⟩
  have hb26 := hb25.trans (hb6.mono hb25.size)
  have hr1 := hr1.below (hb6.mono hb25.size)
  have hb7 := below_new w6 (.cells #[.int .i64 0, .int .i64 0] 24)
  have hx0 := reads_new w6 [.int .i64 0, .int .i64 0] 24 2 1 rfl
  have HG := Lib.hid (good_of (some ⟨w6.heap.size, 0, none⟩) 2 2 _ [0, 0] true _ (by decide) (by simpa using hx0) (by decide))
  have ho7 := ho6.alloc (.cells #[.int .i64 0, .int .i64 0] 24)
  have hb27 := hb26.trans (hb7.mono hb26.size)
  have hr1 := hr1.below (hb7.mono hb26.size)
  obtain ⟨L2, hL2⟩ : ∃ L2, L2 = deskR none (ls.take K ++ s :: ls.drop K) := ⟨_, rfl⟩
  rw [← hL2] at ho7 HLw
  have hs56 := hb6.size
  have hs25 := hb25.size
  clear HP2 ho6 hx0 hb6 hL2 hb25 hb26
  have wk : IntKind.i64.wrap ((K : Int) + 1) = (K : Int) + 1 := IntWalk.i64_in _ (by omega)
  have wk2 : wrap64 ((K : Int) + 1) = (K : Int) + 1 := IntWalk.wrap64_in _ (by omega)
  have wn : wrap64 ((n : Int) + 1) = (n : Int) + 1 := IntWalk.wrap64_in _ (by omega)
  go_wp2_with fail
  refine HG.out.mono ?_
  rintro e w8 ⟨rfl, hw8⟩
  subst hw8
  have HDl := Lib.hid (delete_str w5.heap.size A6 (n + 1) c6 K L2 _ ho7 (by omega))
  rw [HLw.out, Nat.add_sub_cancel] at HDl
  have hlt7 : ∀ g, (Value.slice A6 (n + 1) c6).ownBlock = some g → w5.heap.size ≤ g := fun g h => (ho7.lt g h).1
  have hsz7 := hb27.size
  clear ho7 HG HLw
  go_wp2_with fail
  refine HDl.out.mono ?_
  rintro e w9 ⟨rfl, ho9, hg9⟩
  have hr9 := hr1.grown hg9 hsz7 (fun g h => Nat.le_trans hs25 (hlt7 g h))
  have hb29 := hb27.grown hg9 hsz7 (fun g h => Nat.le_trans hs25 (hlt7 g h))
  have hb09 := hb02.trans (hb29.mono hb02.size)
  have hE := equal_str A1 A6 n c1 n c6 _ _ _ _ w9 hr9 (Reads.of_own ho9) (by omega) (by omega)
  rw [decide_eq_true rfl] at hE
  have HE := Lib.hid hE
  clear hE hr9 ho9 hr1 hb29 hb27 hg9 HDl
  go_wp2_with fail
  refine HE.out.mono ?_
  rintro e w10 ⟨rfl, q, rfl⟩
  go_wp2_with fail
  go_ret
  exact ⟨by first | rfl | simp, below_drewN hb09 _⟩
set_option maxRecDepth 100000 in
set_option maxHeartbeats 4000000 in
theorem deskAsks_yes2 (A : Option Addr) (n c : Nat) (ls : List ByteArray) (s : ByteArray) (k : Int) (w : World) (hr : Reads w w.heap.size 1 A n (ls.map .string)) (hs : ∀ s ∈ ls, s.size < 4294967281) (hn9 : n ≤ 1000000000) (hT : DTab w.heap.size w) (hn : n ≤ 60) (K : Nat) (hkK : k = K) (hK : K ≤ n) (hs0 : s = ⟨#[114, 111, 111, 116, 115]⟩) :
    Calls Tryz.prog 4 #[.slice A n c, .string s, .int .i64 k] w fun e w' => e = .returned (.bool true) ∧ Below w.heap.size w w' := by
  have HDt := Lib.hid (desks_true w hT)
  subst hkK
  have hll : ls.length = n := by have := hr.1; simpa using this
  have HQ : Hid (s ∈ asksQ) := by
    show s ∈ asksQ
    rw [hs0]
    simp [asksQ]
  have b0 : (s.toList == [103, 97, 112, 115]) = false := by rw [hs0]; decide +kernel
  have d0 : (s.toList != [103, 97, 112, 115]) = true := by rw [bne, b0]; rfl
  have b1 : (s.toList == [108, 105, 118, 101]) = false := by rw [hs0]; decide +kernel
  have d1 : (s.toList != [108, 105, 118, 101]) = true := by rw [bne, b1]; rfl
  have b2 : (s.toList == [114, 111, 111, 116, 115]) = true := by rw [hs0]; decide +kernel
  have d2 : (s.toList != [114, 111, 111, 116, 115]) = false := by rw [bne, b2]; rfl
  have b3 : (s.toList == [103, 101, 116, 32, 48, 32, 48]) = false := by rw [hs0]; decide +kernel
  have d3 : (s.toList != [103, 101, 116, 32, 48, 32, 48]) = true := by rw [bne, b3]; rfl
  have b4 : (s.toList == [112, 101, 101, 107, 32, 48, 32, 48]) = false := by rw [hs0]; decide +kernel
  have d4 : (s.toList != [112, 101, 101, 107, 32, 48, 32, 48]) = true := by rw [bne, b4]; rfl
  have b5 : (s.toList == [119, 104, 97, 116]) = false := by rw [hs0]; decide +kernel
  have d5 : (s.toList != [119, 104, 97, 116]) = true := by rw [bne, b5]; rfl
  have hsz : s.size < 4294967281 := by rw [hs0]; decide
  have g1 : decide (60 < n) = false := decide_eq_false (by omega)
  have g1' : decide ((60 : Int) < (n : Int)) = false := decide_eq_false (by omega)
  have g2 : decide ((K : Int) < 0) = false := decide_eq_false (by omega)
  have g3 : decide ((n : Int) < (K : Int)) = false := decide_eq_false (by omega)
  have g3' : decide (n < K) = false := decide_eq_false (by omega)
  have HT := Lib.hid hT
  have HR := Lib.hid hr
  have HS := Lib.hid hs
  have HLw := Lib.hid (asks_law HQ.out ls K (by omega))
  have HP := Lib.hid (fun w1 (hb : Below w.heap.size w w1) => dplay_ok A n c ls w1 ((HR.out.below hb).more hb.size) HS.out (HT.out.up hb) (by omega))
  have HCl := Lib.hid (fun w1 (hb : Below w.heap.size w w1) => clone_str A n c w.heap.size (ls.map .string) w1 (HR.out.below hb) hb.size (strs_one ls) (by omega))
  have HSs := Lib.hid hs0
  clear hs0 hr hs hT
  go_enter Tryz.func4, Tryz.ntmps4
  go_wp2_with fail
  refine HDt.out.mono ?_
  rintro e w1 ⟨rfl, hb1⟩
  go_wp2_with fail
  refine (HP.out _ hb1).mono ?_
  rintro e w2 ⟨A1, c1, rfl, ho1, hb2⟩
  have hb02 := hb1.trans (hb2.mono hb1.size)
  go_wp2_with fail
  refine (HCl.out _ hb02).mono ?_
  rintro e w3 ⟨A2, c2, rfl, ho2, hb3⟩
  have hb03 := hb02.trans (hb3.mono hb02.size)
  have hlt2 : ∀ g, (Value.slice A2 n c2).ownBlock = some g → g < w3.heap.size := fun g h => (ho2.lt g h).2
  have hb4 := below_new w3 (.cells #[.string s] 9)
  have HIn := Lib.hid (insertStr_any w2.heap.size A2 n c2 K ls w3.heap.size s (w3.alloc (.cells #[.string s] 9)) ⟨ho2.alloc _, fun _ _ _ _ _ _ _ => trivial⟩ (Nat.le_trans hb3.size hb4.size) hK (by omega) (Blk.new w3 9 #[.string s]) (fun e => absurd (hlt2 _ e) (Nat.lt_irrefl _)))
  have hb04 := hb03.trans (hb4.mono hb03.size)
  have hr1 := ((Reads.of_own ho1).below (hb3.trans (hb4.mono hb3.size)))
  clear ho2 hlt2 HCl HP
  go_wp2_with fail
  refine HIn.out.mono ?_
  rintro e w5 ⟨A5, c5, rfl, ho5, hb5, -, -⟩
  have hb25 : Below w2.heap.size w2 w5 := (hb3.trans (hb4.mono hb3.size)).trans hb5
  have hb05 := hb02.trans (hb25.mono hb02.size)
  have hr1 := hr1.below hb5
  have HP2 := Lib.hid (dplay_ok A5 (n + 1) c5 (ls.take K ++ s :: ls.drop K) w5 (Reads.of_own ho5.1) (fun x hx => by
    rcases List.mem_append.1 hx with h | h
    · exact HS.out x (List.mem_of_mem_take h)
    · rcases List.mem_cons.1 h with rfl | h
      · exact hsz
      · exact HS.out x (List.mem_of_mem_drop h)) (HT.out.up hb05) (by omega))
  clear ho5 hb5 HIn hb04 hb4 hb3
  go_wp2_with fail
  refine HP2.out.mono ?_
  rintro e w6 ⟨A6, c6, rfl, ho6, hb6⟩
  have hb26 := hb25.trans (hb6.mono hb25.size)
  have hr1 := hr1.below (hb6.mono hb25.size)
  have hb7 := below_new w6 (.cells #[.int .i64 0, .int .i64 0] 24)
  have hx0 := reads_new w6 [.int .i64 0, .int .i64 0] 24 2 1 rfl
  have HG := Lib.hid (good_of (some ⟨w6.heap.size, 0, none⟩) 2 2 _ [0, 0] true _ (by decide) (by simpa using hx0) (by decide))
  have ho7 := ho6.alloc (.cells #[.int .i64 0, .int .i64 0] 24)
  have hb27 := hb26.trans (hb7.mono hb26.size)
  have hr1 := hr1.below (hb7.mono hb26.size)
  obtain ⟨L2, hL2⟩ : ∃ L2, L2 = deskR none (ls.take K ++ s :: ls.drop K) := ⟨_, rfl⟩
  rw [← hL2] at ho7 HLw
  have hs56 := hb6.size
  have hs25 := hb25.size
  clear HP2 ho6 hx0 hb6 hL2 hb25 hb26
  have wk : IntKind.i64.wrap ((K : Int) + 1) = (K : Int) + 1 := IntWalk.i64_in _ (by omega)
  have wk2 : wrap64 ((K : Int) + 1) = (K : Int) + 1 := IntWalk.wrap64_in _ (by omega)
  have wn : wrap64 ((n : Int) + 1) = (n : Int) + 1 := IntWalk.wrap64_in _ (by omega)
  go_wp2_with fail
  refine HG.out.mono ?_
  rintro e w8 ⟨rfl, hw8⟩
  subst hw8
  have HDl := Lib.hid (delete_str w5.heap.size A6 (n + 1) c6 K L2 _ ho7 (by omega))
  rw [HLw.out, Nat.add_sub_cancel] at HDl
  have hlt7 : ∀ g, (Value.slice A6 (n + 1) c6).ownBlock = some g → w5.heap.size ≤ g := fun g h => (ho7.lt g h).1
  have hsz7 := hb27.size
  clear ho7 HG HLw
  go_wp2_with fail
  refine HDl.out.mono ?_
  rintro e w9 ⟨rfl, ho9, hg9⟩
  have hr9 := hr1.grown hg9 hsz7 (fun g h => Nat.le_trans hs25 (hlt7 g h))
  have hb29 := hb27.grown hg9 hsz7 (fun g h => Nat.le_trans hs25 (hlt7 g h))
  have hb09 := hb02.trans (hb29.mono hb02.size)
  have hE := equal_str A1 A6 n c1 n c6 _ _ _ _ w9 hr9 (Reads.of_own ho9) (by omega) (by omega)
  rw [decide_eq_true rfl] at hE
  have HE := Lib.hid hE
  clear hE hr9 ho9 hr1 hb29 hb27 hg9 HDl
  go_wp2_with fail
  refine HE.out.mono ?_
  rintro e w10 ⟨rfl, q, rfl⟩
  go_wp2_with fail
  go_ret
  exact ⟨by first | rfl | simp, below_drewN hb09 _⟩
set_option maxRecDepth 100000 in
set_option maxHeartbeats 4000000 in
theorem deskAsks_yes3 (A : Option Addr) (n c : Nat) (ls : List ByteArray) (s : ByteArray) (k : Int) (w : World) (hr : Reads w w.heap.size 1 A n (ls.map .string)) (hs : ∀ s ∈ ls, s.size < 4294967281) (hn9 : n ≤ 1000000000) (hT : DTab w.heap.size w) (hn : n ≤ 60) (K : Nat) (hkK : k = K) (hK : K ≤ n) (hs0 : s = ⟨#[103, 101, 116, 32, 48, 32, 48]⟩) :
    Calls Tryz.prog 4 #[.slice A n c, .string s, .int .i64 k] w fun e w' => e = .returned (.bool true) ∧ Below w.heap.size w w' := by
  have HDt := Lib.hid (desks_true w hT)
  subst hkK
  have hll : ls.length = n := by have := hr.1; simpa using this
  have HQ : Hid (s ∈ asksQ) := by
    show s ∈ asksQ
    rw [hs0]
    simp [asksQ]
  have b0 : (s.toList == [103, 97, 112, 115]) = false := by rw [hs0]; decide +kernel
  have d0 : (s.toList != [103, 97, 112, 115]) = true := by rw [bne, b0]; rfl
  have b1 : (s.toList == [108, 105, 118, 101]) = false := by rw [hs0]; decide +kernel
  have d1 : (s.toList != [108, 105, 118, 101]) = true := by rw [bne, b1]; rfl
  have b2 : (s.toList == [114, 111, 111, 116, 115]) = false := by rw [hs0]; decide +kernel
  have d2 : (s.toList != [114, 111, 111, 116, 115]) = true := by rw [bne, b2]; rfl
  have b3 : (s.toList == [103, 101, 116, 32, 48, 32, 48]) = true := by rw [hs0]; decide +kernel
  have d3 : (s.toList != [103, 101, 116, 32, 48, 32, 48]) = false := by rw [bne, b3]; rfl
  have b4 : (s.toList == [112, 101, 101, 107, 32, 48, 32, 48]) = false := by rw [hs0]; decide +kernel
  have d4 : (s.toList != [112, 101, 101, 107, 32, 48, 32, 48]) = true := by rw [bne, b4]; rfl
  have b5 : (s.toList == [119, 104, 97, 116]) = false := by rw [hs0]; decide +kernel
  have d5 : (s.toList != [119, 104, 97, 116]) = true := by rw [bne, b5]; rfl
  have hsz : s.size < 4294967281 := by rw [hs0]; decide
  have g1 : decide (60 < n) = false := decide_eq_false (by omega)
  have g1' : decide ((60 : Int) < (n : Int)) = false := decide_eq_false (by omega)
  have g2 : decide ((K : Int) < 0) = false := decide_eq_false (by omega)
  have g3 : decide ((n : Int) < (K : Int)) = false := decide_eq_false (by omega)
  have g3' : decide (n < K) = false := decide_eq_false (by omega)
  have HT := Lib.hid hT
  have HR := Lib.hid hr
  have HS := Lib.hid hs
  have HLw := Lib.hid (asks_law HQ.out ls K (by omega))
  have HP := Lib.hid (fun w1 (hb : Below w.heap.size w w1) => dplay_ok A n c ls w1 ((HR.out.below hb).more hb.size) HS.out (HT.out.up hb) (by omega))
  have HCl := Lib.hid (fun w1 (hb : Below w.heap.size w w1) => clone_str A n c w.heap.size (ls.map .string) w1 (HR.out.below hb) hb.size (strs_one ls) (by omega))
  have HSs := Lib.hid hs0
  clear hs0 hr hs hT
  go_enter Tryz.func4, Tryz.ntmps4
  go_wp2_with fail
  refine HDt.out.mono ?_
  rintro e w1 ⟨rfl, hb1⟩
  go_wp2_with fail
  refine (HP.out _ hb1).mono ?_
  rintro e w2 ⟨A1, c1, rfl, ho1, hb2⟩
  have hb02 := hb1.trans (hb2.mono hb1.size)
  go_wp2_with fail
  refine (HCl.out _ hb02).mono ?_
  rintro e w3 ⟨A2, c2, rfl, ho2, hb3⟩
  have hb03 := hb02.trans (hb3.mono hb02.size)
  have hlt2 : ∀ g, (Value.slice A2 n c2).ownBlock = some g → g < w3.heap.size := fun g h => (ho2.lt g h).2
  have hb4 := below_new w3 (.cells #[.string s] 9)
  have HIn := Lib.hid (insertStr_any w2.heap.size A2 n c2 K ls w3.heap.size s (w3.alloc (.cells #[.string s] 9)) ⟨ho2.alloc _, fun _ _ _ _ _ _ _ => trivial⟩ (Nat.le_trans hb3.size hb4.size) hK (by omega) (Blk.new w3 9 #[.string s]) (fun e => absurd (hlt2 _ e) (Nat.lt_irrefl _)))
  have hb04 := hb03.trans (hb4.mono hb03.size)
  have hr1 := ((Reads.of_own ho1).below (hb3.trans (hb4.mono hb3.size)))
  clear ho2 hlt2 HCl HP
  go_wp2_with fail
  refine HIn.out.mono ?_
  rintro e w5 ⟨A5, c5, rfl, ho5, hb5, -, -⟩
  have hb25 : Below w2.heap.size w2 w5 := (hb3.trans (hb4.mono hb3.size)).trans hb5
  have hb05 := hb02.trans (hb25.mono hb02.size)
  have hr1 := hr1.below hb5
  have HP2 := Lib.hid (dplay_ok A5 (n + 1) c5 (ls.take K ++ s :: ls.drop K) w5 (Reads.of_own ho5.1) (fun x hx => by
    rcases List.mem_append.1 hx with h | h
    · exact HS.out x (List.mem_of_mem_take h)
    · rcases List.mem_cons.1 h with rfl | h
      · exact hsz
      · exact HS.out x (List.mem_of_mem_drop h)) (HT.out.up hb05) (by omega))
  clear ho5 hb5 HIn hb04 hb4 hb3
  go_wp2_with fail
  refine HP2.out.mono ?_
  rintro e w6 ⟨A6, c6, rfl, ho6, hb6⟩
  have hb26 := hb25.trans (hb6.mono hb25.size)
  have hr1 := hr1.below (hb6.mono hb25.size)
  have hb7 := below_new w6 (.cells #[.int .i64 0, .int .i64 0] 24)
  have hx0 := reads_new w6 [.int .i64 0, .int .i64 0] 24 2 1 rfl
  have HG := Lib.hid (good_of (some ⟨w6.heap.size, 0, none⟩) 2 2 _ [0, 0] true _ (by decide) (by simpa using hx0) (by decide))
  have ho7 := ho6.alloc (.cells #[.int .i64 0, .int .i64 0] 24)
  have hb27 := hb26.trans (hb7.mono hb26.size)
  have hr1 := hr1.below (hb7.mono hb26.size)
  obtain ⟨L2, hL2⟩ : ∃ L2, L2 = deskR none (ls.take K ++ s :: ls.drop K) := ⟨_, rfl⟩
  rw [← hL2] at ho7 HLw
  have hs56 := hb6.size
  have hs25 := hb25.size
  clear HP2 ho6 hx0 hb6 hL2 hb25 hb26
  have wk : IntKind.i64.wrap ((K : Int) + 1) = (K : Int) + 1 := IntWalk.i64_in _ (by omega)
  have wk2 : wrap64 ((K : Int) + 1) = (K : Int) + 1 := IntWalk.wrap64_in _ (by omega)
  have wn : wrap64 ((n : Int) + 1) = (n : Int) + 1 := IntWalk.wrap64_in _ (by omega)
  go_wp2_with fail
  refine HG.out.mono ?_
  rintro e w8 ⟨rfl, hw8⟩
  subst hw8
  have HDl := Lib.hid (delete_str w5.heap.size A6 (n + 1) c6 K L2 _ ho7 (by omega))
  rw [HLw.out, Nat.add_sub_cancel] at HDl
  have hlt7 : ∀ g, (Value.slice A6 (n + 1) c6).ownBlock = some g → w5.heap.size ≤ g := fun g h => (ho7.lt g h).1
  have hsz7 := hb27.size
  clear ho7 HG HLw
  go_wp2_with fail
  refine HDl.out.mono ?_
  rintro e w9 ⟨rfl, ho9, hg9⟩
  have hr9 := hr1.grown hg9 hsz7 (fun g h => Nat.le_trans hs25 (hlt7 g h))
  have hb29 := hb27.grown hg9 hsz7 (fun g h => Nat.le_trans hs25 (hlt7 g h))
  have hb09 := hb02.trans (hb29.mono hb02.size)
  have hE := equal_str A1 A6 n c1 n c6 _ _ _ _ w9 hr9 (Reads.of_own ho9) (by omega) (by omega)
  rw [decide_eq_true rfl] at hE
  have HE := Lib.hid hE
  clear hE hr9 ho9 hr1 hb29 hb27 hg9 HDl
  go_wp2_with fail
  refine HE.out.mono ?_
  rintro e w10 ⟨rfl, q, rfl⟩
  go_wp2_with fail
  go_ret
  exact ⟨by first | rfl | simp, below_drewN hb09 _⟩
set_option maxRecDepth 100000 in
set_option maxHeartbeats 4000000 in
theorem deskAsks_yes4 (A : Option Addr) (n c : Nat) (ls : List ByteArray) (s : ByteArray) (k : Int) (w : World) (hr : Reads w w.heap.size 1 A n (ls.map .string)) (hs : ∀ s ∈ ls, s.size < 4294967281) (hn9 : n ≤ 1000000000) (hT : DTab w.heap.size w) (hn : n ≤ 60) (K : Nat) (hkK : k = K) (hK : K ≤ n) (hs0 : s = ⟨#[112, 101, 101, 107, 32, 48, 32, 48]⟩) :
    Calls Tryz.prog 4 #[.slice A n c, .string s, .int .i64 k] w fun e w' => e = .returned (.bool true) ∧ Below w.heap.size w w' := by
  have HDt := Lib.hid (desks_true w hT)
  subst hkK
  have hll : ls.length = n := by have := hr.1; simpa using this
  have HQ : Hid (s ∈ asksQ) := by
    show s ∈ asksQ
    rw [hs0]
    simp [asksQ]
  have b0 : (s.toList == [103, 97, 112, 115]) = false := by rw [hs0]; decide +kernel
  have d0 : (s.toList != [103, 97, 112, 115]) = true := by rw [bne, b0]; rfl
  have b1 : (s.toList == [108, 105, 118, 101]) = false := by rw [hs0]; decide +kernel
  have d1 : (s.toList != [108, 105, 118, 101]) = true := by rw [bne, b1]; rfl
  have b2 : (s.toList == [114, 111, 111, 116, 115]) = false := by rw [hs0]; decide +kernel
  have d2 : (s.toList != [114, 111, 111, 116, 115]) = true := by rw [bne, b2]; rfl
  have b3 : (s.toList == [103, 101, 116, 32, 48, 32, 48]) = false := by rw [hs0]; decide +kernel
  have d3 : (s.toList != [103, 101, 116, 32, 48, 32, 48]) = true := by rw [bne, b3]; rfl
  have b4 : (s.toList == [112, 101, 101, 107, 32, 48, 32, 48]) = true := by rw [hs0]; decide +kernel
  have d4 : (s.toList != [112, 101, 101, 107, 32, 48, 32, 48]) = false := by rw [bne, b4]; rfl
  have b5 : (s.toList == [119, 104, 97, 116]) = false := by rw [hs0]; decide +kernel
  have d5 : (s.toList != [119, 104, 97, 116]) = true := by rw [bne, b5]; rfl
  have hsz : s.size < 4294967281 := by rw [hs0]; decide
  have g1 : decide (60 < n) = false := decide_eq_false (by omega)
  have g1' : decide ((60 : Int) < (n : Int)) = false := decide_eq_false (by omega)
  have g2 : decide ((K : Int) < 0) = false := decide_eq_false (by omega)
  have g3 : decide ((n : Int) < (K : Int)) = false := decide_eq_false (by omega)
  have g3' : decide (n < K) = false := decide_eq_false (by omega)
  have HT := Lib.hid hT
  have HR := Lib.hid hr
  have HS := Lib.hid hs
  have HLw := Lib.hid (asks_law HQ.out ls K (by omega))
  have HP := Lib.hid (fun w1 (hb : Below w.heap.size w w1) => dplay_ok A n c ls w1 ((HR.out.below hb).more hb.size) HS.out (HT.out.up hb) (by omega))
  have HCl := Lib.hid (fun w1 (hb : Below w.heap.size w w1) => clone_str A n c w.heap.size (ls.map .string) w1 (HR.out.below hb) hb.size (strs_one ls) (by omega))
  have HSs := Lib.hid hs0
  clear hs0 hr hs hT
  go_enter Tryz.func4, Tryz.ntmps4
  go_wp2_with fail
  refine HDt.out.mono ?_
  rintro e w1 ⟨rfl, hb1⟩
  go_wp2_with fail
  refine (HP.out _ hb1).mono ?_
  rintro e w2 ⟨A1, c1, rfl, ho1, hb2⟩
  have hb02 := hb1.trans (hb2.mono hb1.size)
  go_wp2_with fail
  refine (HCl.out _ hb02).mono ?_
  rintro e w3 ⟨A2, c2, rfl, ho2, hb3⟩
  have hb03 := hb02.trans (hb3.mono hb02.size)
  have hlt2 : ∀ g, (Value.slice A2 n c2).ownBlock = some g → g < w3.heap.size := fun g h => (ho2.lt g h).2
  have hb4 := below_new w3 (.cells #[.string s] 9)
  have HIn := Lib.hid (insertStr_any w2.heap.size A2 n c2 K ls w3.heap.size s (w3.alloc (.cells #[.string s] 9)) ⟨ho2.alloc _, fun _ _ _ _ _ _ _ => trivial⟩ (Nat.le_trans hb3.size hb4.size) hK (by omega) (Blk.new w3 9 #[.string s]) (fun e => absurd (hlt2 _ e) (Nat.lt_irrefl _)))
  have hb04 := hb03.trans (hb4.mono hb03.size)
  have hr1 := ((Reads.of_own ho1).below (hb3.trans (hb4.mono hb3.size)))
  clear ho2 hlt2 HCl HP
  go_wp2_with fail
  refine HIn.out.mono ?_
  rintro e w5 ⟨A5, c5, rfl, ho5, hb5, -, -⟩
  have hb25 : Below w2.heap.size w2 w5 := (hb3.trans (hb4.mono hb3.size)).trans hb5
  have hb05 := hb02.trans (hb25.mono hb02.size)
  have hr1 := hr1.below hb5
  have HP2 := Lib.hid (dplay_ok A5 (n + 1) c5 (ls.take K ++ s :: ls.drop K) w5 (Reads.of_own ho5.1) (fun x hx => by
    rcases List.mem_append.1 hx with h | h
    · exact HS.out x (List.mem_of_mem_take h)
    · rcases List.mem_cons.1 h with rfl | h
      · exact hsz
      · exact HS.out x (List.mem_of_mem_drop h)) (HT.out.up hb05) (by omega))
  clear ho5 hb5 HIn hb04 hb4 hb3
  go_wp2_with fail
  refine HP2.out.mono ?_
  rintro e w6 ⟨A6, c6, rfl, ho6, hb6⟩
  have hb26 := hb25.trans (hb6.mono hb25.size)
  have hr1 := hr1.below (hb6.mono hb25.size)
  have hb7 := below_new w6 (.cells #[.int .i64 0, .int .i64 0] 24)
  have hx0 := reads_new w6 [.int .i64 0, .int .i64 0] 24 2 1 rfl
  have HG := Lib.hid (good_of (some ⟨w6.heap.size, 0, none⟩) 2 2 _ [0, 0] true _ (by decide) (by simpa using hx0) (by decide))
  have ho7 := ho6.alloc (.cells #[.int .i64 0, .int .i64 0] 24)
  have hb27 := hb26.trans (hb7.mono hb26.size)
  have hr1 := hr1.below (hb7.mono hb26.size)
  obtain ⟨L2, hL2⟩ : ∃ L2, L2 = deskR none (ls.take K ++ s :: ls.drop K) := ⟨_, rfl⟩
  rw [← hL2] at ho7 HLw
  have hs56 := hb6.size
  have hs25 := hb25.size
  clear HP2 ho6 hx0 hb6 hL2 hb25 hb26
  have wk : IntKind.i64.wrap ((K : Int) + 1) = (K : Int) + 1 := IntWalk.i64_in _ (by omega)
  have wk2 : wrap64 ((K : Int) + 1) = (K : Int) + 1 := IntWalk.wrap64_in _ (by omega)
  have wn : wrap64 ((n : Int) + 1) = (n : Int) + 1 := IntWalk.wrap64_in _ (by omega)
  go_wp2_with fail
  refine HG.out.mono ?_
  rintro e w8 ⟨rfl, hw8⟩
  subst hw8
  have HDl := Lib.hid (delete_str w5.heap.size A6 (n + 1) c6 K L2 _ ho7 (by omega))
  rw [HLw.out, Nat.add_sub_cancel] at HDl
  have hlt7 : ∀ g, (Value.slice A6 (n + 1) c6).ownBlock = some g → w5.heap.size ≤ g := fun g h => (ho7.lt g h).1
  have hsz7 := hb27.size
  clear ho7 HG HLw
  go_wp2_with fail
  refine HDl.out.mono ?_
  rintro e w9 ⟨rfl, ho9, hg9⟩
  have hr9 := hr1.grown hg9 hsz7 (fun g h => Nat.le_trans hs25 (hlt7 g h))
  have hb29 := hb27.grown hg9 hsz7 (fun g h => Nat.le_trans hs25 (hlt7 g h))
  have hb09 := hb02.trans (hb29.mono hb02.size)
  have hE := equal_str A1 A6 n c1 n c6 _ _ _ _ w9 hr9 (Reads.of_own ho9) (by omega) (by omega)
  rw [decide_eq_true rfl] at hE
  have HE := Lib.hid hE
  clear hE hr9 ho9 hr1 hb29 hb27 hg9 HDl
  go_wp2_with fail
  refine HE.out.mono ?_
  rintro e w10 ⟨rfl, q, rfl⟩
  go_wp2_with fail
  go_ret
  exact ⟨by first | rfl | simp, below_drewN hb09 _⟩
set_option maxRecDepth 100000 in
set_option maxHeartbeats 4000000 in
theorem deskAsks_yes5 (A : Option Addr) (n c : Nat) (ls : List ByteArray) (s : ByteArray) (k : Int) (w : World) (hr : Reads w w.heap.size 1 A n (ls.map .string)) (hs : ∀ s ∈ ls, s.size < 4294967281) (hn9 : n ≤ 1000000000) (hT : DTab w.heap.size w) (hn : n ≤ 60) (K : Nat) (hkK : k = K) (hK : K ≤ n) (hs0 : s = ⟨#[119, 104, 97, 116]⟩) :
    Calls Tryz.prog 4 #[.slice A n c, .string s, .int .i64 k] w fun e w' => e = .returned (.bool true) ∧ Below w.heap.size w w' := by
  have HDt := Lib.hid (desks_true w hT)
  subst hkK
  have hll : ls.length = n := by have := hr.1; simpa using this
  have HQ : Hid (s ∈ asksQ) := by
    show s ∈ asksQ
    rw [hs0]
    simp [asksQ]
  have b0 : (s.toList == [103, 97, 112, 115]) = false := by rw [hs0]; decide +kernel
  have d0 : (s.toList != [103, 97, 112, 115]) = true := by rw [bne, b0]; rfl
  have b1 : (s.toList == [108, 105, 118, 101]) = false := by rw [hs0]; decide +kernel
  have d1 : (s.toList != [108, 105, 118, 101]) = true := by rw [bne, b1]; rfl
  have b2 : (s.toList == [114, 111, 111, 116, 115]) = false := by rw [hs0]; decide +kernel
  have d2 : (s.toList != [114, 111, 111, 116, 115]) = true := by rw [bne, b2]; rfl
  have b3 : (s.toList == [103, 101, 116, 32, 48, 32, 48]) = false := by rw [hs0]; decide +kernel
  have d3 : (s.toList != [103, 101, 116, 32, 48, 32, 48]) = true := by rw [bne, b3]; rfl
  have b4 : (s.toList == [112, 101, 101, 107, 32, 48, 32, 48]) = false := by rw [hs0]; decide +kernel
  have d4 : (s.toList != [112, 101, 101, 107, 32, 48, 32, 48]) = true := by rw [bne, b4]; rfl
  have b5 : (s.toList == [119, 104, 97, 116]) = true := by rw [hs0]; decide +kernel
  have d5 : (s.toList != [119, 104, 97, 116]) = false := by rw [bne, b5]; rfl
  have hsz : s.size < 4294967281 := by rw [hs0]; decide
  have g1 : decide (60 < n) = false := decide_eq_false (by omega)
  have g1' : decide ((60 : Int) < (n : Int)) = false := decide_eq_false (by omega)
  have g2 : decide ((K : Int) < 0) = false := decide_eq_false (by omega)
  have g3 : decide ((n : Int) < (K : Int)) = false := decide_eq_false (by omega)
  have g3' : decide (n < K) = false := decide_eq_false (by omega)
  have HT := Lib.hid hT
  have HR := Lib.hid hr
  have HS := Lib.hid hs
  have HLw := Lib.hid (asks_law HQ.out ls K (by omega))
  have HP := Lib.hid (fun w1 (hb : Below w.heap.size w w1) => dplay_ok A n c ls w1 ((HR.out.below hb).more hb.size) HS.out (HT.out.up hb) (by omega))
  have HCl := Lib.hid (fun w1 (hb : Below w.heap.size w w1) => clone_str A n c w.heap.size (ls.map .string) w1 (HR.out.below hb) hb.size (strs_one ls) (by omega))
  have HSs := Lib.hid hs0
  clear hs0 hr hs hT
  go_enter Tryz.func4, Tryz.ntmps4
  go_wp2_with fail
  refine HDt.out.mono ?_
  rintro e w1 ⟨rfl, hb1⟩
  go_wp2_with fail
  refine (HP.out _ hb1).mono ?_
  rintro e w2 ⟨A1, c1, rfl, ho1, hb2⟩
  have hb02 := hb1.trans (hb2.mono hb1.size)
  go_wp2_with fail
  refine (HCl.out _ hb02).mono ?_
  rintro e w3 ⟨A2, c2, rfl, ho2, hb3⟩
  have hb03 := hb02.trans (hb3.mono hb02.size)
  have hlt2 : ∀ g, (Value.slice A2 n c2).ownBlock = some g → g < w3.heap.size := fun g h => (ho2.lt g h).2
  have hb4 := below_new w3 (.cells #[.string s] 9)
  have HIn := Lib.hid (insertStr_any w2.heap.size A2 n c2 K ls w3.heap.size s (w3.alloc (.cells #[.string s] 9)) ⟨ho2.alloc _, fun _ _ _ _ _ _ _ => trivial⟩ (Nat.le_trans hb3.size hb4.size) hK (by omega) (Blk.new w3 9 #[.string s]) (fun e => absurd (hlt2 _ e) (Nat.lt_irrefl _)))
  have hb04 := hb03.trans (hb4.mono hb03.size)
  have hr1 := ((Reads.of_own ho1).below (hb3.trans (hb4.mono hb3.size)))
  clear ho2 hlt2 HCl HP
  go_wp2_with fail
  refine HIn.out.mono ?_
  rintro e w5 ⟨A5, c5, rfl, ho5, hb5, -, -⟩
  have hb25 : Below w2.heap.size w2 w5 := (hb3.trans (hb4.mono hb3.size)).trans hb5
  have hb05 := hb02.trans (hb25.mono hb02.size)
  have hr1 := hr1.below hb5
  have HP2 := Lib.hid (dplay_ok A5 (n + 1) c5 (ls.take K ++ s :: ls.drop K) w5 (Reads.of_own ho5.1) (fun x hx => by
    rcases List.mem_append.1 hx with h | h
    · exact HS.out x (List.mem_of_mem_take h)
    · rcases List.mem_cons.1 h with rfl | h
      · exact hsz
      · exact HS.out x (List.mem_of_mem_drop h)) (HT.out.up hb05) (by omega))
  clear ho5 hb5 HIn hb04 hb4 hb3
  go_wp2_with fail
  refine HP2.out.mono ?_
  rintro e w6 ⟨A6, c6, rfl, ho6, hb6⟩
  have hb26 := hb25.trans (hb6.mono hb25.size)
  have hr1 := hr1.below (hb6.mono hb25.size)
  have hb7 := below_new w6 (.cells #[.int .i64 0, .int .i64 0] 24)
  have hx0 := reads_new w6 [.int .i64 0, .int .i64 0] 24 2 1 rfl
  have HG := Lib.hid (good_of (some ⟨w6.heap.size, 0, none⟩) 2 2 _ [0, 0] true _ (by decide) (by simpa using hx0) (by decide))
  have ho7 := ho6.alloc (.cells #[.int .i64 0, .int .i64 0] 24)
  have hb27 := hb26.trans (hb7.mono hb26.size)
  have hr1 := hr1.below (hb7.mono hb26.size)
  obtain ⟨L2, hL2⟩ : ∃ L2, L2 = deskR none (ls.take K ++ s :: ls.drop K) := ⟨_, rfl⟩
  rw [← hL2] at ho7 HLw
  have hs56 := hb6.size
  have hs25 := hb25.size
  clear HP2 ho6 hx0 hb6 hL2 hb25 hb26
  have wk : IntKind.i64.wrap ((K : Int) + 1) = (K : Int) + 1 := IntWalk.i64_in _ (by omega)
  have wk2 : wrap64 ((K : Int) + 1) = (K : Int) + 1 := IntWalk.wrap64_in _ (by omega)
  have wn : wrap64 ((n : Int) + 1) = (n : Int) + 1 := IntWalk.wrap64_in _ (by omega)
  go_wp2_with fail
  refine HG.out.mono ?_
  rintro e w8 ⟨rfl, hw8⟩
  subst hw8
  have HDl := Lib.hid (delete_str w5.heap.size A6 (n + 1) c6 K L2 _ ho7 (by omega))
  rw [HLw.out, Nat.add_sub_cancel] at HDl
  have hlt7 : ∀ g, (Value.slice A6 (n + 1) c6).ownBlock = some g → w5.heap.size ≤ g := fun g h => (ho7.lt g h).1
  have hsz7 := hb27.size
  clear ho7 HG HLw
  go_wp2_with fail
  refine HDl.out.mono ?_
  rintro e w9 ⟨rfl, ho9, hg9⟩
  have hr9 := hr1.grown hg9 hsz7 (fun g h => Nat.le_trans hs25 (hlt7 g h))
  have hb29 := hb27.grown hg9 hsz7 (fun g h => Nat.le_trans hs25 (hlt7 g h))
  have hb09 := hb02.trans (hb29.mono hb02.size)
  have hE := equal_str A1 A6 n c1 n c6 _ _ _ _ w9 hr9 (Reads.of_own ho9) (by omega) (by omega)
  rw [decide_eq_true rfl] at hE
  have HE := Lib.hid hE
  clear hE hr9 ho9 hr1 hb29 hb27 hg9 HDl
  go_wp2_with fail
  refine HE.out.mono ?_
  rintro e w10 ⟨rfl, q, rfl⟩
  go_wp2_with fail
  go_ret
  exact ⟨by first | rfl | simp, below_drewN hb09 _⟩
theorem deskAsks_any (A : Option Addr) (n c : Nat) (ls : List ByteArray) (s : ByteArray) (k : Int) (w : World) (hr : Reads w w.heap.size 1 A n (ls.map .string)) (_ : n ≤ c) (hs : ∀ s ∈ ls, s.size < 4294967281) (hn9 : n ≤ 1000000000) (_ : (Lit.int .i64 k).wf = true) (hT : DTab w.heap.size w) :
    Calls Tryz.prog 4 #[.slice A n c, .string s, .int .i64 k] w fun e w' => e = .returned (.bool true) ∧ Below w.heap.size w w' := by
  by_cases hk : 60 < n ∨ k < 0 ∨ (n : Int) < k
  · exact deskAsks_num A n c ls s k w hr hs hn9 hT hk
  · obtain ⟨K, rfl⟩ := Int.eq_ofNat_of_zero_le (show 0 ≤ k by omega)
    by_cases hq : s ∈ asksQ
    · have hq2 := hq
      simp only [asksQ, List.mem_cons, List.not_mem_nil, or_false] at hq2
      rcases hq2 with h | h | h | h | h | h
      · exact deskAsks_yes0 A n c ls s K w hr hs hn9 hT (by omega) K rfl (by omega) h
      · exact deskAsks_yes1 A n c ls s K w hr hs hn9 hT (by omega) K rfl (by omega) h
      · exact deskAsks_yes2 A n c ls s K w hr hs hn9 hT (by omega) K rfl (by omega) h
      · exact deskAsks_yes3 A n c ls s K w hr hs hn9 hT (by omega) K rfl (by omega) h
      · exact deskAsks_yes4 A n c ls s K w hr hs hn9 hT (by omega) K rfl (by omega) h
      · exact deskAsks_yes5 A n c ls s K w hr hs hn9 hT (by omega) K rfl (by omega) h
    · exact deskAsks_none A n c ls s K w hr hs hn9 hT (by omega) K rfl (by omega) hq
end Go.Proofs.YtfikonmhbhcejaaGreatDoor
