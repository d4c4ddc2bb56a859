/-
  HandLive answers true for all slots, and changes no argument: the names of open handles are distinct, and each of them is found. No condition.
-/
import Derived.Test.YtdlmnnibgpfdbaaHandLaw
import Derived.Test.YtdlmnnibgpfdbaaContains
import Derived.Test.YtdlmnnibgpfdbaaLawSlots
namespace Go.Proofs.Ytdlmnnibgpfdbaa
open Go.RowKit

/-- hand.Live: the names of the open slots, from slot i on. -/
def liveL (i : Nat) : List Slot → List Int
  | [] => []
  | s :: r => if s.opn = true then ((i : Int) + s.gen * 65536) :: liveL (i + 1) r else liveL (i + 1) r

theorem liveL_snoc (l : List Slot) (i : Nat) (s : Slot) : liveL i (l ++ [s]) = liveL i l ++ (if s.opn = true then [((i + l.length : Nat) : Int) + s.gen * 65536] else []) := by
  induction l generalizing i with
  | nil => simp [liveL]
  | cons a l ih =>
    simp only [List.cons_append, liveL, ih, List.length_cons]
    rw [show i + 1 + l.length = i + (l.length + 1) by omega]
    split <;> simp

theorem liveL_length (l : List Slot) (i : Nat) : (liveL i l).length ≤ l.length := by
  induction l generalizing i with
  | nil => simp [liveL]
  | cons a l ih =>
    simp only [liveL]
    split
    · simp only [List.length_cons]; have := ih (i + 1); omega
    · have := ih (i + 1); simp only [List.length_cons]; omega

theorem liveL_mem {l : List Slot} {i : Nat} {v : Int} (h : v ∈ liveL i l) : ∃ (j : Nat) (s : Slot), l[j]? = some s ∧ s.opn = true ∧ v = ((i + j : Nat) : Int) + s.gen * 65536 := by
  induction l generalizing i with
  | nil => simp [liveL] at h
  | cons a l ih =>
    simp only [liveL] at h
    split at h
    · rename_i ho
      rcases List.mem_cons.1 h with rfl | h
      · exact ⟨0, a, rfl, ho, by simp⟩
      · obtain ⟨j, s, h1, h2, h3⟩ := ih h
        exact ⟨j + 1, s, h1, h2, by rw [h3]; omega⟩
    · obtain ⟨j, s, h1, h2, h3⟩ := ih h
      exact ⟨j + 1, s, h1, h2, by rw [h3]; omega⟩

/-- The names stand in the order of their slots. -/
theorem liveL_order {l : List Slot} {i : Nat} (hi : i + l.length ≤ 65536) : (liveL i l).Pairwise (fun a b => a % 65536 < b % 65536) := by
  induction l generalizing i with
  | nil => simp [liveL]
  | cons a l ih =>
    simp only [List.length_cons] at hi
    simp only [liveL]
    split
    · refine List.pairwise_cons.2 ⟨fun b hb => ?_, ih (by omega)⟩
      obtain ⟨j, s, h1, h2, rfl⟩ := liveL_mem hb
      have := (List.getElem?_eq_some_iff.1 h1).1
      omega
    · exact ih (by omega)

theorem live_found {l : List Slot} {v : Int} (hl : l.length ≤ 65536) (h : v ∈ liveL 0 l) : ∃ s, findS l v = some s := by
  obtain ⟨j, s, h1, h2, h3⟩ := liveL_mem h
  have := (List.getElem?_eq_some_iff.1 h1).1
  refine ⟨s, found_findS (i := j) ⟨by rw [h3]; omega, h1, h2, by rw [h3]; omega⟩⟩

theorem live_new {l : List Slot} (hl : l.length ≤ 65536) {k : Nat} {v : Int} (h : (liveL 0 l)[k]? = some v) : v ∉ (liveL 0 l).take k := by
  intro hm
  obtain ⟨hk, rfl⟩ := List.getElem?_eq_some_iff.1 h
  rw [List.mem_take_iff_getElem] at hm
  obtain ⟨j, hj, he⟩ := hm
  have := List.pairwise_iff_getElem.1 (liveL_order (l := l) (i := 0) (by omega)) j k (by omega) hk (by omega)
  rw [he] at this
  omega

set_option maxHeartbeats 400000 in
theorem live_bad (A : Option Addr) (n c B : Nat) (l : List Slot) (w : World) (hr : Reads w B 3 A n (slotsC l)) (hB : B ≤ w.heap.size) (hE : handE l ≠ 0) :
    Calls Try.prog 10 #[.slice A n c] w fun e w' => e = .returned (.tuple #[.slice none 0 0, .int .i64 (handE l)]) ∧ Below w.heap.size w w' := by
  have HH := Lib.hid (handCheck_any A n c B l w hr hB)
  generalize handE l = E at *
  have hE1 : (E != 0) = true := by simpa using hE
  have hE2 : (E == 0) = false := by simpa using hE
  go_enter Try.func10, Try.ntmps10
  go_wp2_with (go_at_call 41; refine HH.out.mono ?_; rintro e w1 ⟨rfl, hb1⟩)
  go_ret2
  exact ⟨rfl, hb1⟩

theorem info_u64' : (Try.prog.info? 29).map (fun i => (i.zero, i.size, i.bytes)) = some (some (.int .u64 0), 1, 8) := by kernel_rfl

set_option maxHeartbeats 1000000 in
theorem live_ok (A : Option Addr) (n c B : Nat) (l : List Slot) (w : World) (hr : Reads w B 3 A n (slotsC l)) (hB : B ≤ w.heap.size) (hE : handE l = 0) :
    Calls Try.prog 10 #[.slice A n c] w fun e w' => Below w.heap.size w w' ∧
      ∃ A' c', e = .returned (.tuple #[.slice A' (liveL 0 l).length c', .int .i64 0]) ∧ w'.ownsRow w.heap.size 29 1 (.slice A' (liveL 0 l).length c') (liveL 0 l).length ((liveL 0 l).map (.int .u64)) := by
  have H := handCheck_any A n c B l w hr hB
  rw [hE] at H
  have HH := Lib.hid H
  obtain ⟨hlen, hall⟩ := handE_ok.1 hE
  have HA := Lib.hid hall
  have hll : l.length = n := by have := hr.1; rw [slotsC_length] at this; omega
  have HL := Lib.hid hll
  have hn16 : n ≤ 16 := by omega
  obtain ⟨i0, hi, hz0, hz1, hz2⟩ := info_parts info_u64'
  clear H hE hll hlen hall
  go_enter Try.func10, Try.ntmps10
  go_wp2_with (go_at_call 41; refine HH.out.mono ?_; rintro e w1 ⟨rfl, hb1⟩)
  go_loopw [5, 15] (fun o i wr => ∃ (j : Nat) (A' : Option Addr) (k c' : Nat), j ≤ n ∧ i = .int .i64 j ∧ o = .slice A' k c' ∧ k ≤ j ∧ Hid (k = (liveL 0 (l.take j)).length) ∧ wr.ownsRow w.heap.size 29 1 (.slice A' k c') k ((liveL 0 (l.take j)).map (.int .u64)) ∧ Below w.heap.size w wr) (fun _ i _ => n - (intOf i).toNat)
  case atStart => exact ⟨0, none, 0, 0, Nat.zero_le _, rfl, rfl, Nat.le_refl _, rfl, World.ownsRow_nil _ _ _ _, hb1⟩
  case round =>
    obtain ⟨j, A', k, c', hj, rfl, rfl, hkj, hk, hown, hb⟩ := hrel
    clear hb1
    by_cases hlt : j < n
    · obtain ⟨ad, s, rfl, had, hs, hc0, hc1, hc2⟩ := (hr.below (hb.mono hB)).slot hlt
      have HQ : Hid (liveL 0 (l.take (j + 1)) = liveL 0 (l.take j) ++ (if s.opn = true then [(j : Int) + s.gen * 65536] else [])) := by
        show _ = _
        obtain ⟨hl, rfl⟩ := List.getElem?_eq_some_iff.1 hs
        rw [List.take_succ_eq_append_getElem hl, liveL_snoc, List.length_take, Nat.min_eq_left (by omega), Nat.zero_add]
      obtain ⟨q0, q1, _, _, _, _⟩ := slotE_ok.1 (HA.out s (List.mem_of_getElem? hs))
      have hj16 : j < 16 := by omega
      clear hs
      obtain ⟨gen, opn, loc⟩ := s
      dsimp only at hc0 hc1 hc2 q0 q1 HQ
      cases opn
      · have HQ : Hid (liveL 0 (l.take (j + 1)) = liveL 0 (l.take j)) := by have := HQ.out; show _ = _; simpa using this
        go_wp2_with fail
        go_roundw
        case rel => exact ⟨j + 1, A', k, c', by omega, by go_num, rfl, by omega, by rw [HQ.out]; exact hk, by rw [HQ.out]; exact hown.alloc _, hb.alloc hb.size _⟩
        case measure => simp [intOf]; omega
      · have HQ : Hid (liveL 0 (l.take (j + 1)) = liveL 0 (l.take j) ++ [(j : Int) + gen * 65536]) := by have := HQ.out; show _ = _; simpa using this
        have hown0 := hown.alloc (.cells #[.int .i64 gen, .bool true, .int .i64 loc] 82)
        have hb0 := hb.alloc hb.size (.cells #[.int .i64 gen, .bool true, .int .i64 loc] 82)
        clear hown hb
        go_wp2_with fail
        refine (handName_any _ _ _ _ _ (by omega) (by omega)).mono ?_
        rintro e w2 ⟨rfl, hb2⟩
        have hown2 := (own_below hown0 hb2).alloc (.cells #[.int .u64 ((j : Int) + gen * 65536)] 29)
        have hb02 := hb0.trans (hb2.mono hb0.size)
        have hb03 := hb02.alloc hb02.size (.cells #[.int .u64 ((j : Int) + gen * 65536)] 29)
        have hnew := reads_new w2 [.int .u64 ((j : Int) + gen * 65536)] 29 1 1 rfl
        clear hown0 hb0 hb2 hb02
        go_wp2_with (at_builtin; refine wpList_append_any _ rfl (.tmp 22) (.tmp 26) 25 rfl w.heap.size 29 i0 (.int .u64 0) 1 8 Try.underlying25 hi hz0 hz1 hz2 rfl (by decide) (.slice A' k c') k _ rfl hown2 (w2.heap.size + 1) (some ⟨w2.heap.size, 0, none⟩) 1 1 [.int .u64 ((j : Int) + gen * 65536)] rfl hnew (by simp [Value.oneCell']) (by simp [maxLen]; omega) (by omega) (by have := hb03.size; exact this) ?_; rintro v' w3 hown3 hgr hbl -; obtain ⟨A'', c'', rfl⟩ := own_slice hown3)
        have hb3 : Below w.heap.size w w3 := hb03.grown hgr hb03.size (fun g hg => (hown2.lt g hg).1)
        go_roundw
        case rel => exact ⟨j + 1, A'', k + 1, c'', by omega, by go_num, rfl, by omega, by show _ = _; rw [HQ.out, List.length_append, ← hk.out]; rfl, by rw [HQ.out, List.map_append]; exact hown3, hb3⟩
        case measure => simp [intOf]; omega
    · have hjn : j = n := by omega
      have e : l.take j = l := List.take_of_length_le (by rw [HL.out]; omega)
      rw [e] at hk hown
      obtain rfl : k = (liveL 0 l).length := hk.out
      clear hk e
      go_wp2
      go_ret2
      exact ⟨hb, A', c', rfl, hown⟩

set_option maxHeartbeats 400000 in
theorem handLive_bad (A : Option Addr) (n c : Nat) (l : List Slot) (w : World) (hr : Reads w w.heap.size 3 A n (slotsC l)) (hE : handE l ≠ 0) :
    Calls Try.prog 3 #[.slice A n c] w fun e w' => e = .returned (.bool true) ∧ Below w.heap.size w w' := by
  have HH := Lib.hid (fun w B hr hB => live_bad A n c B l w hr hB hE)
  generalize handE l = E at *
  have hE1 : (E != 0) = true := by simpa using hE
  have hE2 : (E == 0) = false := by simpa using hE
  go_enter Try.func3, Try.ntmps3
  go_wp2_with (first
    | (go_at_call 9; refine (hands_true _).mono ?_; rintro e w1 ⟨rfl, hb1⟩)
    | (go_at_call 10; refine (HH.out _ _ (hr.below hb1) hb1.size).mono ?_; rintro e w2 ⟨rfl, hb2⟩))
  all_goals
    go_ret
    exact ⟨by simp, below_step hb1 hb2⟩

theorem Reads.part {w : World} {B n k : Nat} {A : Option Addr} {xs : List Value} (h : Reads w B 1 A n xs) (hk : k ≤ n) : Reads w B 1 A k (xs.take k) := by
  refine ⟨by rw [List.length_take, h.1]; omega, fun hk0 => ?_⟩
  obtain ⟨ad, e, hb, hc⟩ := h.2 (by omega)
  refine ⟨ad, e, hb, fun j u hu => hc j u ?_⟩
  rw [List.getElem?_take] at hu
  split at hu
  · exact hu
  · cases hu

set_option maxHeartbeats 1000000 in
theorem handLive_ok (A : Option Addr) (n c : Nat) (l : List Slot) (w : World) (hr : Reads w w.heap.size 3 A n (slotsC l)) (hE : handE l = 0) :
    Calls Try.prog 3 #[.slice A n c] w fun e w' => e = .returned (.bool true) ∧ Below w.heap.size w w' := by
  obtain ⟨hlen, hall⟩ := handE_ok.1 hE
  have hll : l.length = n := by have := hr.1; rw [slotsC_length] at this; omega
  have hmn := liveL_length l 0
  have HF : Hid (∀ k v, (liveL 0 l)[k]? = some v → lookE l v = 0 ∧ v ∉ (liveL 0 l).take k ∧ 0 ≤ v ∧ v < 18446744073709551616) := by
    intro k v hk
    obtain ⟨s, hs⟩ := live_found (l := l) (by omega) (List.mem_of_getElem? hk)
    have hf := findS_some.1 hs
    obtain ⟨q0, q1, _, _, _, _⟩ := slotE_ok.1 (hall s (List.mem_of_getElem? hf.2.1))
    have h1 := hf.1
    have h4 := hf.2.2.2
    refine ⟨by unfold lookE; rw [if_neg (by simpa using hE), hs], live_new (by omega) hk, by omega, by omega⟩
  have H1 := Lib.hid (fun w B hr hB => live_ok A n c B l w hr hB hE)
  have HLk := Lib.hid (fun w B v hr hB v0 v1 => look_any A n c B l v w hr hB v0 v1)
  generalize hM : liveL 0 l = L at *
  have hm16 : L.length ≤ 16 := by omega
  have hmn' : (L.length : Int) ≤ n := by omega
  clear hM hlen hall hll hE
  go_enter Try.func3, Try.ntmps3
  go_wp2_with (first
    | (go_at_call 9; refine (hands_true _).mono ?_; rintro e w1 ⟨rfl, hb1⟩)
    | (go_at_call 10; refine (H1.out _ _ (hr.below hb1) hb1.size).mono ?_; rintro e w2 ⟨hb2, A', c', rfl, hown⟩))
  have hr2 := Reads.of_own hown
  have hcap := own_cap hown
  have hb02 := below_step hb1 hb2
  obtain ⟨m, hm⟩ : ∃ m, m = L.length := ⟨_, rfl⟩
  rw [← hm] at hr2 hcap hm16 hmn' ⊢
  have HM := Lib.hid hm
  clear hown hb1 hb2 hm hmn
  go_loopw [23] (fun i wr => ∃ j : Nat, j ≤ m ∧ i = .int .i64 j ∧ Below w2.heap.size w2 wr) (fun i _ => m - (intOf i).toNat)
  case atStart => exact ⟨0, Nat.zero_le _, rfl, Below.refl _ _⟩
  case round =>
    obtain ⟨j, hj, rfl, hb⟩ := hrel
    by_cases hlt : j < m
    · have hrL := hr2.below hb
      obtain ⟨ad, v, rfl, had, hv, hc⟩ := hrL.num hlt
      obtain ⟨f1, f2, f3, f4⟩ := HF.out j v hv
      have HE := Lib.hid f1
      have hbw := hb02.trans (hb.mono hb02.size)
      have hsz := hb.size
      have hsz2 := hbw.size
      have hpart := (hrL.part (k := j) (by omega)).more hsz
      rw [← List.map_take] at hpart
      have HD : Hid (decide (v ∈ L.take j) = false) := by show _ = _; rw [decide_eq_false f2]
      have HP := Lib.hid hpart
      have hjc : (j : Int) ≤ c' := by omega
      clear hv f1 f2 hpart hrL
      go_wp2_with fail
      refine (HLk.out _ _ _ (hr.below hbw) hsz2 f3 f4).mono ?_
      rw [HE.out]
      rintro e w3 ⟨rfl, hb3⟩
      have hb13 := hb.trans (hb3.mono hsz)
      go_wp2_with fail
      refine (contains_u64 _ _ _ _ (L.take j) _ false _ (HP.out.below hb3) (by omega) HD.out).mono ?_
      rintro e w4 ⟨rfl, rfl⟩
      go_wp2
      go_roundw
      case rel => exact ⟨j + 1, by omega, by go_num, hb13⟩
      case measure => simp [intOf]; omega
    · go_wp2
      go_ret
      exact ⟨by simp, hb02.trans (hb.mono hb02.size)⟩

theorem handLive_any (A : Option Addr) (n c : Nat) (l : List Slot) (w : World) (hr : Reads w w.heap.size 3 A n (slotsC l)) (_ : n ≤ c) (_ : c ≤ maxLen) :
    Calls Try.prog 3 #[.slice A n c] w fun e w' => e = .returned (.bool true) ∧ Below w.heap.size w w' := by
  by_cases hE : handE l = 0
  · exact handLive_ok A n c l w hr hE
  · exact handLive_bad A n c l w hr hE

namespace HandLive
open Go.ChangeShapes Go.WideShapes Go.ChangeAt Go.RowKit
theorem own : ownKnob Try.prog.godebug = none := by kernel_rfl
theorem laidOut : laidOutB Try.prog = true := by kernel_rfl

set_option maxRecDepth 100000 in
theorem lifted (os : Os) (started : os.Started) (H : Type) (enc : TypeId × Value → H) :
    ReturnsInHanded {} Try.checked os 3 .any (Rows.handLiveSpec.pre6 enc Try.prog Try.f3 Rows.handLiveRow.domain false) (Rows.handLiveSpec.post enc Try.prog Try.f3 false true false false) := by
  refine returnsInHanded_of_change (C := Try.checked) own started (by as_aux_lemma => kernel_rfl) Try.func3
    (ChangeSpec.witness6 (enc := enc) (C := Try.checked) false ⟨#[], #[.slice none 0 0], []⟩ 8 (by as_aux_lemma => kernel_rfl) (by as_aux_lemma => kernel_rfl) (by as_aux_lemma => kernel_rfl) (by as_aux_lemma => kernel_rfl)) ?_
  intro W base args ds gs before hval0 hW hcnd _
  have hval : ∀ (j : Nat) t v, Try.f3.params[j]? = some t → args[j]? = some v → Value.okWide Try.prog W .any base t v := hval0
  have hW' := hW
  obtain ⟨p, q, hA0, hV, rfl, hfz, hnd⟩ := hW
  have hA : DataW.TrodAll enc Try.prog W 0 (fun _ => true) true Try.f3.params.toList args.toList ds p := hA0
  rw [Try.params3] at hA hval
  obtain ⟨v0, vs0, d0, ds0, p0, q0, hargs, rfl, rfl, h0, hA⟩ := trodAll_cons hA
  obtain ⟨rfl, rfl, rfl⟩ := trodAll_nil hA
  obtain rfl : args = #[v0] := by cases args; simp_all
  obtain ⟨A0, n0, c0, l0, rfl, hnc0, hc0, hr0⟩ := open_slots (hval 0 _ v0 rfl rfl) (fun x hx => hW'.lt x (by simp [hx])) h0
  refine (handLive_any A0 n0 c0 l0 W hr0 hnc0 hc0).mono fun e W' ⟨he, hb⟩ => ?_
  subst he
  exact ⟨_, rfl, law_post laidOut Try.underlying4 rfl (by as_aux_lemma => kernel_rfl) rfl rfl hW' hb⟩

set_option maxHeartbeats 10000000 in
theorem closed : joinedFacts Try.prog 3 Try.f3 Rows.handLiveSpec Rows.handLiveRow = true := by
  unfold joinedFacts
  simp only [Bool.and_eq_true]
  repeat' apply And.intro
  all_goals as_aux_lemma => kernel_rfl

set_option maxHeartbeats 1000000 in
theorem proved : Rows.HandLiveSaid :=
  OpenClaim.holds_of_wide 3 Try.f3 rfl rfl rfl rfl rfl rfl rfl ⟨rfl, rfl, rfl, rfl, rfl⟩ rfl rfl rfl rfl rfl (by as_aux_lemma => kernel_rfl) Try.func3 closed
    (of_decide_eq_true (by as_aux_lemma => kernel_rfl)) (by unfold Func.isWrapper; first | (rw [if_pos (by decide +kernel)]; kernel_rfl) | (rw [if_neg (by decide +kernel)]; exact ⟨rfl, rfl⟩))
    (fun os started H enc _ => lifted os started H enc)
end HandLive
end Go.Proofs.Ytdlmnnibgpfdbaa
