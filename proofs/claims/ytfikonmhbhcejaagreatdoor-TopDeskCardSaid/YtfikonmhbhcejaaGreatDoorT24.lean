/-
  Texts joined: NineLines Digits PlayFn TopDeskW LawOps Bulk LawStrs.
-/
import Derived.Laws.EntriesVeiled
import Derived.Test.YtfikonmhbhcejaaGreatDoorRows
import Derived.SliceStrings
import Derived.Test.YtfikonmhbhcejaaGreatDoorT1
import Derived.Test.YtfikonmhbhcejaaGreatDoorT6
import Derived.Test.YtfikonmhbhcejaaGreatDoorT17
import Derived.Test.YtfikonmhbhcejaaGreatDoorT18
import Derived.Test.YtfikonmhbhcejaaGreatDoorT19
import Derived.Test.YtfikonmhbhcejaaGreatDoorT21
import Derived.Test.YtfikonmhbhcejaaGreatDoorT22
import Derived.Test.YtfikonmhbhcejaaGreatDoorT23
namespace Go.Proofs.YtfikonmhbhcejaaGreatDoor
open Go.RowKit
def spB : ByteArray := ⟨#[32]⟩
theorem deed_line {S S' : St} {s w0 : ByteArray} {ws : List ByteArray} {kind many : Nat} {v d : Int} {told : Bool} {n : List Int} {o : OpV} (hw : wordsB s = w0 :: ws) (hf : findC w0 = some (.deed kind many v told)) (hl : ws.length = many) (hn : ws.mapM numB = some n) (hneg : negV v n = false) (ho : deedV kind v n = o) (hd : doO S o = ⟨S', d, 0⟩) :
    lineO (some S) s = ⟨some S', if told = true then [IntKind.i64.wrap d] else [], 0⟩ := by
  rw [line_of (c := .deed kind many v told) hw hf hl hn]
  show (if negV v n = true then (⟨some S, [], 4⟩ : DOut) else if (doO S (deedV kind v n)).er ≠ 0 then ⟨some S, [], (doO S (deedV kind v n)).er⟩ else ⟨some (doO S (deedV kind v n)).st, if told = true then [IntKind.i64.wrap (doO S (deedV kind v n)).told] else [], 0⟩) = _
  rw [if_neg (by rw [hneg]; decide), ho, hd]
  exact if_neg (by simp)
theorem itoa_blank (n : Nat) : ∀ b ∈ (itoaB (n : Int)).data.toList, b ≠ 32 := by
  intro b hb
  have hd : itoaB (n : Int) = ⟨(Lib.decDigits n).toArray⟩ := by
    unfold itoaB
    rw [Lib.itoa_nonneg]
  rw [hd] at hb
  have := digit_byte n n (Nat.le_refl _) b (by simpa using hb)
  intro h
  subst h
  revert this
  decide
def newL (W R H : ByteArray) : ByteArray := ⟨#[110, 101, 119, 32]⟩ ++ W ++ ⟨#[32]⟩ ++ R ++ ⟨#[32]⟩ ++ H
def makeL (t : ByteArray) : ByteArray := ⟨#[109, 97, 107, 101, 32, 48, 32, 49, 32, 50, 32]⟩ ++ t
def putL (v : ByteArray) : ByteArray := ⟨#[112, 117, 116, 32, 48, 32, 49, 32]⟩ ++ v
def restL : List ByteArray := [⟨#[115, 101, 116, 32, 48, 32, 48, 32, 48]⟩, ⟨#[109, 97, 107, 101, 32, 49, 32, 48, 32, 49, 32, 48]⟩, ⟨#[100, 114, 111, 112, 32, 49]⟩, ⟨#[99, 111, 108, 108, 101, 99, 116]⟩, ⟨#[103, 101, 116, 32, 48, 32, 49]⟩, ⟨#[111, 112, 101, 110, 32, 48]⟩, ⟨#[117, 115, 101, 32, 49, 32, 54, 53, 53, 51, 54]⟩, ⟨#[108, 105, 118, 101]⟩]
theorem new_words (W R H : Nat) : wordsB (newL (itoaB W) (itoaB R) (itoaB H)) = [⟨#[110, 101, 119]⟩, itoaB W, itoaB R, itoaB H] := by
  have e : newL (itoaB W) (itoaB R) (itoaB H) = ⟨#[110, 101, 119]⟩ ++ (⟨#[32]⟩ ++ (itoaB W ++ (⟨#[32]⟩ ++ (itoaB R ++ (⟨#[32]⟩ ++ itoaB H))))) := by
    refine bytes_ext ?_
    simp [newL, ByteArray.data_append]
  rw [e, words_cons (by decide), words_cons (itoa_blank W), words_cons (itoa_blank R), words_one (itoa_blank H)]
theorem make_words (t : Nat) : wordsB (makeL (itoaB t)) = [⟨#[109, 97, 107, 101]⟩, ⟨#[48]⟩, ⟨#[49]⟩, ⟨#[50]⟩, itoaB t] := by
  have e : makeL (itoaB t) = ⟨#[109, 97, 107, 101]⟩ ++ (⟨#[32]⟩ ++ (⟨#[48]⟩ ++ (⟨#[32]⟩ ++ (⟨#[49]⟩ ++ (⟨#[32]⟩ ++ (⟨#[50]⟩ ++ (⟨#[32]⟩ ++ itoaB t))))))) := by
    refine bytes_ext ?_
    simp [makeL, ByteArray.data_append]
  rw [e, words_cons (by decide), words_cons (by decide), words_cons (by decide), words_cons (by decide), words_one (itoa_blank t)]
theorem put_words (v : Nat) : wordsB (putL (itoaB v)) = [⟨#[112, 117, 116]⟩, ⟨#[48]⟩, ⟨#[49]⟩, itoaB v] := by
  have e : putL (itoaB v) = ⟨#[112, 117, 116]⟩ ++ (⟨#[32]⟩ ++ (⟨#[48]⟩ ++ (⟨#[32]⟩ ++ (⟨#[49]⟩ ++ (⟨#[32]⟩ ++ itoaB v))))) := by
    refine bytes_ext ?_
    simp [putL, ByteArray.data_append]
  rw [e, words_cons (by decide), words_cons (by decide), words_cons (by decide), words_one (itoa_blank v)]
theorem num_65536 : numB ⟨#[54, 53, 53, 51, 54]⟩ = some 65536 := by
  have h := num_itoa (n := 65536) (by decide)
  have e : itoaB ((65536 : Nat) : Int) = ⟨#[54, 53, 53, 51, 54]⟩ := by decide +kernel
  rw [e] at h
  exact h
def okN (x : Int) : ByteArray := ⟨#[111, 107]⟩ ++ (⟨#[32]⟩ ++ itoaB x)
theorem reply_none (os : Option St) : replyB ⟨os, [], 0⟩ = ⟨#[111, 107]⟩ := rfl
theorem reply_one (os : Option St) (x : Int) : replyB ⟨os, [x], 0⟩ = okN x := rfl
theorem nine_desk {W R H t v : Nat} {rr : List Int} {hh : List Slot} (hW : 12 ≤ W) (hW2 : W ≤ 200) (hR2 : R ≤ 9) (hH2 : H ≤ 9) (t1 : t ≤ 65535) (v1 : v ≤ 1000000) (hr : NineRun (newSt W R H) W t v rr hh) :
    deskR none (newL (itoaB W) (itoaB R) (itoaB H) :: makeL (itoaB t) :: putL (itoaB v) :: restL) =
      [⟨#[111, 107]⟩, okN 0, ⟨#[111, 107]⟩, ⟨#[111, 107]⟩, okN 0, ⟨#[111, 107]⟩, okN (W - 4 : Nat), okN v, okN 65536, ⟨#[111, 107]⟩, okN 4] := by
  have e0 : lineO none (newL (itoaB W) (itoaB R) (itoaB H)) = ⟨some (newSt W R H), [], 0⟩ := by
    rw [line_of (c := .new) (n := [W, R, H]) (new_words W R H) (by kernel_rfl) rfl (by simp [num_itoa (n := W) (by omega), num_itoa (n := R) (by omega), num_itoa (n := H) (by omega)])]
    show (if newE W R H ≠ 0 then (⟨none, [], newE W R H⟩ : DOut) else ⟨some (newSt (W : Int).toNat (R : Int).toNat (H : Int).toNat), [], 0⟩) = _
    have hE : newE W R H = 0 := by
      unfold newE
      rw [if_neg (by omega), if_neg (by omega), if_neg (by omega)]
    rw [if_neg (by rw [hE]; decide)]
    rfl
  have e1 := deed_line (make_words t) (by kernel_rfl : findC ⟨#[109, 97, 107, 101]⟩ = some (.deed 1 4 3 true)) rfl (n := [0, 1, 2, t]) (by simp [num_0, num_1, num_2, num_itoa (n := t) (by omega)]) (by unfold negV; simp) (by kernel_rfl) hr.d1
  have e2 := deed_line (put_words v) (by kernel_rfl : findC ⟨#[112, 117, 116]⟩ = some (.deed 6 3 2 false)) rfl (n := [0, 1, v]) (by simp [num_0, num_1, num_itoa (n := v) (by omega)]) (by unfold negV; simp) (by kernel_rfl) hr.d2
  have e3 := deed_line (s := ⟨#[115, 101, 116, 32, 48, 32, 48, 32, 48]⟩) (w0 := ⟨#[115, 101, 116]⟩) (ws := [⟨#[48]⟩, ⟨#[48]⟩, ⟨#[48]⟩]) (by decide +kernel) (by kernel_rfl : findC ⟨#[115, 101, 116]⟩ = some (.deed 4 3 (-1) false)) rfl (n := [0, 0, 0]) (by simp [num_0]) (by decide +kernel) (by kernel_rfl) hr.d3
  have e4 := deed_line (s := ⟨#[109, 97, 107, 101, 32, 49, 32, 48, 32, 49, 32, 48]⟩) (w0 := ⟨#[109, 97, 107, 101]⟩) (ws := [⟨#[49]⟩, ⟨#[48]⟩, ⟨#[49]⟩, ⟨#[48]⟩]) (by decide +kernel) (by kernel_rfl : findC ⟨#[109, 97, 107, 101]⟩ = some (.deed 1 4 3 true)) rfl (n := [1, 0, 1, 0]) (by simp [num_0, num_1]) (by decide +kernel) (by kernel_rfl) hr.d4
  have e5 := deed_line (s := ⟨#[100, 114, 111, 112, 32, 49]⟩) (w0 := ⟨#[100, 114, 111, 112]⟩) (ws := [⟨#[49]⟩]) (by decide +kernel) (by kernel_rfl : findC ⟨#[100, 114, 111, 112]⟩ = some (.deed 13 1 (-1) false)) rfl (n := [1]) (by simp [num_1]) (by decide +kernel) (by kernel_rfl) hr.d5
  have e6 := deed_line (s := ⟨#[99, 111, 108, 108, 101, 99, 116]⟩) (w0 := ⟨#[99, 111, 108, 108, 101, 99, 116]⟩) (ws := []) (by decide +kernel) (by kernel_rfl : findC ⟨#[99, 111, 108, 108, 101, 99, 116]⟩ = some (.deed 2 0 (-1) true)) rfl (n := []) (by simp) (by decide +kernel) (by kernel_rfl) hr.d6
  have e7 := deed_line (s := ⟨#[103, 101, 116, 32, 48, 32, 49]⟩) (w0 := ⟨#[103, 101, 116]⟩) (ws := [⟨#[48]⟩, ⟨#[49]⟩]) (by decide +kernel) (by kernel_rfl : findC ⟨#[103, 101, 116]⟩ = some (.deed 5 2 (-1) true)) rfl (n := [0, 1]) (by simp [num_0, num_1]) (by decide +kernel) (by kernel_rfl) hr.d7
  have e8 := deed_line (s := ⟨#[111, 112, 101, 110, 32, 48]⟩) (w0 := ⟨#[111, 112, 101, 110]⟩) (ws := [⟨#[48]⟩]) (by decide +kernel) (by kernel_rfl : findC ⟨#[111, 112, 101, 110]⟩ = some (.deed 10 1 (-1) true)) rfl (n := [0]) (by simp [num_0]) (by decide +kernel) (by kernel_rfl) hr.d8
  have e9 := deed_line (s := ⟨#[117, 115, 101, 32, 49, 32, 54, 53, 53, 51, 54]⟩) (w0 := ⟨#[117, 115, 101]⟩) (ws := [⟨#[49]⟩, ⟨#[54, 53, 53, 51, 54]⟩]) (by decide +kernel) (by kernel_rfl : findC ⟨#[117, 115, 101]⟩ = some (.deed 11 2 1 false)) rfl (n := [1, 65536]) (by simp [num_1, num_65536]) (by decide +kernel) (by kernel_rfl) hr.d9
  have e10 : lineO (some (nS [nC t 1 v, freeC (W - 4)] 0 0 ⟨1, true, 0⟩ rr hh)) ⟨#[108, 105, 118, 101]⟩ = ⟨some (nS [nC t 1 v, freeC (W - 4)] 0 0 ⟨1, true, 0⟩ rr hh), [4], 0⟩ := by
    rw [line_of (c := .live) (w0 := ⟨#[108, 105, 118, 101]⟩) (ws := []) (n := []) (by decide +kernel) (by kernel_rfl) rfl rfl]
    show (⟨_, [((nS [nC t 1 v, freeC (W - 4)] 0 0 ⟨1, true, 0⟩ rr hh).a.length : Int) - (sweep (nS [nC t 1 v, freeC (W - 4)] 0 0 ⟨1, true, 0⟩ rr hh)).2], 0⟩ : DOut) = _
    obtain ⟨L, Y, now, hC⟩ := hr.live
    have hE := end1 (t := t) (k := 1) (v := v) (n := W - 4) (x := 0) (y := 0) (s := ⟨1, true, 0⟩) (rr := rr) (hh := hh) (by omega) (by omega) (by omega)
    have hl := (hE.len hr.good.ok.arena).2
    have h4 : (chunksW [nC t 1 v]).length = 4 := rfl
    rw [hC.sweep, hl, h4, show ((4 + (W - 4) : Nat) : Int) - ((W - 4 : Nat) : Int) = 4 by omega]
  have w1 : IntKind.i64.wrap ((W - 4 : Nat) : Int) = (W - 4 : Nat) := IntWalk.i64_in _ (by omega)
  have w2 : IntKind.i64.wrap (v : Int) = v := IntWalk.i64_in _ (by omega)
  have w3 : IntKind.i64.wrap 65536 = 65536 := by decide
  have w4 : IntKind.i64.wrap 0 = 0 := by decide
  rw [w4] at e1 e4
  rw [w1] at e6
  rw [w2] at e7
  rw [w3] at e8
  simp only [if_true, Bool.false_eq_true, if_false] at e1 e2 e3 e4 e5 e6 e7 e8 e9
  simp only [deskR, restL, e0, e1, e2, e3, e4, e5, e6, e7, e8, e9, e10, reply_none, reply_one]
end Go.Proofs.YtfikonmhbhcejaaGreatDoor

namespace Go.Proofs.YtfikonmhbhcejaaGreatDoor
open Go.RowKit
theorem enc_digit : ∀ d : Nat, d < 10 → Utf8.encode (48 + (d : Int)) = ⟨#[UInt8.ofNat (48 + d)]⟩ := by decide +kernel
set_option maxRecDepth 100000 in
set_option maxHeartbeats 1000000 in
theorem digits_any (u : Nat) (hu : u < 18446744073709551616) (w : World) : Calls Tryz.prog 27 #[.int .u64 u] w fun e w' => e = .returned (.string (itoaB u)) ∧ w' = w := by
  have HU := Lib.hid hu
  clear hu
  go_enter Tryz.func27, Tryz.ntmps27
  go_wp2
  go_loopw [0, 3] (fun n s wr => ∃ (k : Nat) (l : ByteArray), n = .int .u64 k ∧ s = .string l ∧ k < 18446744073709551616 ∧ Lib.decDigits k ++ l.data.toList = Lib.decDigits u ∧ wr = w) (fun n _ _ => (intOf n).toNat)
  case atStart => exact ⟨u, ⟨#[]⟩, rfl, rfl, HU.out, by simp, rfl⟩
  case round =>
    obtain ⟨k, l, rfl, rfl, hk, hl, rfl⟩ := hrel
    have hsz : l.size ≤ 20 := by
      have h1 := dec_length 19 u (by have := HU.out; omega)
      have h2 := congrArg List.length hl
      rw [List.length_append] at h2
      have h3 : l.size = l.data.toList.length := Lib.size_eq l
      omega
    by_cases h9 : 9 < k
    · have g1 : decide (9 < k) = true := decide_eq_true h9
      have g1' : decide ((9 : Int) < (k : Int)) = true := decide_eq_true (by omega)
      have he : Utf8.encode (48 + (k : Int) % 10) = ⟨#[UInt8.ofNat (48 + k % 10)]⟩ := by
        have := enc_digit (k % 10) (Nat.mod_lt _ (by decide))
        rw [← this]
        congr 1
      have hs : ¬ (9223372036854775807 < (Utf8.encode (48 + (k : Int) % 10)).size + l.size) := by
        rw [he]
        show ¬ 9223372036854775807 < 1 + l.size
        omega
      have HE := Lib.hid he
      have HD : Hid (Lib.decDigits (k / 10) ++ (Utf8.encode (48 + (k : Int) % 10) ++ l).data.toList = Lib.decDigits u) := by
        show _ = _
        rw [← hl, he, Lib.decDigits.eq_1 k, dif_neg (by omega), List.append_assoc]
        simp [ByteArray.data_append]
      have H9 := Lib.hid h9
      clear he hl h9
      go_wp2
      go_roundw
      case rel => exact ⟨k / 10, _, by go_num, rfl, by omega, HD.out, by first | rfl | trivial⟩
      case measure => have := H9.out; simp [intOf]; omega
    · have g1 : decide (9 < k) = false := decide_eq_false h9
      have g1' : decide ((9 : Int) < (k : Int)) = false := decide_eq_false (by omega)
      have he := enc_digit k (by omega)
      have hs : ¬ (9223372036854775807 < (Utf8.encode (48 + (k : Int))).size + l.size) := by
        rw [he]
        show ¬ 9223372036854775807 < 1 + l.size
        omega
      have HD : Hid (Utf8.encode (48 + (k : Int)) ++ l = itoaB u) := by
        show _ = _
        unfold itoaB
        rw [Lib.itoa_nonneg, ← hl, Lib.decDigits_one (by omega), he]
        refine bytes_ext ?_
        simp [ByteArray.data_append]
      clear he hl
      go_wp2
      go_ret
      exact ⟨by rw [← HD.out]; rfl, rfl⟩
set_option maxRecDepth 100000 in
set_option maxHeartbeats 1000000 in
theorem nDigits_any (k : Nat) (hk : k < 9223372036854775808) (g : Nat) (w : World) (hg : w.cell? ⟨g, 0, none⟩ = some (.func (.func 27) #[] #[])) : Calls Tryz.prog 28 #[.int .i64 k, .pointer (some ⟨g, 0, none⟩)] w fun e w' => e = .returned (.string (itoaB k)) ∧ w' = w := by
  have HD := Lib.hid (fun w => digits_any k (by omega) w)
  go_enter Tryz.func28, Tryz.ntmps28
  go_wp2_with fail
  refine (HD.out _).mono ?_
  rintro e w1 ⟨rfl, rfl⟩
  go_wp2_with fail
  go_ret
  exact ⟨by first | rfl | simp, rfl⟩
end Go.Proofs.YtfikonmhbhcejaaGreatDoor

namespace Go.Proofs.YtfikonmhbhcejaaGreatDoor
open Go.RowKit
def opC (o : OpV) : List Value := [.int .i64 o.kind, .int .i64 o.a, .int .i64 o.b, .int .i64 o.c, .int .u64 o.v]
def opsC (l : List OpV) : List Value := l.flatMap opC
theorem opsC_length (l : List OpV) : (opsC l).length = l.length * 5 := flat_length opC 5 (fun _ => rfl) l
def toldC (t : ToldV) : List Value := [.int .i64 t.e, .int .u64 t.v]
def toldsC (l : List ToldV) : List Value := l.flatMap toldC
theorem toldsC_snoc (l : List ToldV) (t : ToldV) : toldsC (l ++ [t]) = toldsC l ++ toldC t := by simp [toldsC]
theorem info_told : (Tryz.prog.info? 71).map (fun i => (i.zero, i.size, i.bytes)) = some (some (.agg #[.int .i64 0, .int .u64 0]), 2, 16) := by kernel_rfl
theorem Reads.op {w : World} {B : Nat} {A : Option Addr} {n j : Nat} {l : List OpV} (h : Reads w B 5 A n (opsC l)) (hj : j < n) :
    ∃ ad o, A = some ad ∧ ad.block < B ∧ l[j]? = some o ∧ w.cell? (ad.add (j * 5)) = some (.int .i64 o.kind) ∧
      w.cell? ⟨(ad.add (j * 5)).block, (ad.add (j * 5)).off + 1, none⟩ = some (.int .i64 o.a) ∧ w.cell? ⟨(ad.add (j * 5)).block, (ad.add (j * 5)).off + 2, none⟩ = some (.int .i64 o.b) ∧
      w.cell? ⟨(ad.add (j * 5)).block, (ad.add (j * 5)).off + 3, none⟩ = some (.int .i64 o.c) ∧ w.cell? ⟨(ad.add (j * 5)).block, (ad.add (j * 5)).off + 4, none⟩ = some (.int .u64 o.v) := by
  obtain ⟨ad, o, e, hb, ho, h0, hi⟩ := Reads.elem (f := opC) (k := 5) (fun _ => rfl) h (by decide) hj
  exact ⟨ad, o, e, hb, ho, h0, hi 1 (by decide) (by decide), hi 2 (by decide) (by decide), hi 3 (by decide) (by decide), hi 4 (by decide) (by decide)⟩
theorem Reads.told {w : World} {B : Nat} {A : Option Addr} {n j : Nat} {l : List ToldV} (h : Reads w B 2 A n (toldsC l)) (hj : j < n) :
    ∃ ad t, A = some ad ∧ ad.block < B ∧ l[j]? = some t ∧ w.cell? (ad.add (j * 2)) = some (.int .i64 t.e) ∧ w.cell? ⟨(ad.add (j * 2)).block, (ad.add (j * 2)).off + 1, none⟩ = some (.int .u64 t.v) := by
  obtain ⟨ad, o, e, hb, ho, h0, hi⟩ := Reads.elem (f := toldC) (k := 2) (fun _ => rfl) h (by decide) hj
  exact ⟨ad, o, e, hb, ho, h0, hi 1 (by decide) (by decide)⟩
theorem StO.grown {w w' : World} {base : Nat} {A : Option Addr} {n c : Nat} {RA : Option Addr} {rn rc : Nat} {PA : Option Addr} {pn pc : Nat} {HA : Option Addr} {hn hc : Nat} {S : St} (h : StO w base A n c RA rn rc PA pn pc HA hn hc S)
    {base' size m : Nat} {e : TypeId} {v : Value} {xs : List Value} (ho : w.ownsRow base' e size v m xs) (hg : w.grownBy w' v.ownBlock) (h1 : e ≠ 44) (h2 : e ≠ 3) (h3 : e ≠ 50) (h4 : e ≠ 135) : StO w' base A n c RA rn rc PA pn pc HA hn hc S :=
  ⟨own_grown h.a hg (fun _ hg' => own_types h.a ho h1.symm hg'), own_grown h.r hg (fun _ hg' => own_types h.r ho h2.symm hg'), own_grown h.p hg (fun _ hg' => own_types h.p ho h3.symm hg'), own_grown h.l hg (fun _ hg' => own_types h.l ho h4.symm hg')⟩
theorem StO.alloc {w : World} {base : Nat} {A : Option Addr} {n c : Nat} {RA : Option Addr} {rn rc : Nat} {PA : Option Addr} {pn pc : Nat} {HA : Option Addr} {hn hc : Nat} {S : St} (h : StO w base A n c RA rn rc PA pn pc HA hn hc S) (o : Obj) : StO (w.alloc o) base A n c RA rn rc PA pn pc HA hn hc S :=
  ⟨h.a.alloc o, h.r.alloc o, h.p.alloc o, h.l.alloc o⟩
def playE (S : St) (k : Nat) : Int := if stE S ≠ 0 then stE S else if 200 < k then 2 else 0
theorem play_take {S : St} {l : List OpV} {j : Nat} {o : OpV} (ho : l[j]? = some o) : playS S (l.take (j + 1)) = nextS (playS S (l.take j)) o ∧ playT S (l.take (j + 1)) = playT S (l.take j) ++ [toldS (playS S (l.take j)) o] := by
  obtain ⟨q, rfl⟩ := List.getElem?_eq_some_iff.1 ho
  rw [List.take_succ_eq_append_getElem q, playS_app, playT_app]
  exact ⟨rfl, rfl⟩
theorem StGood.known {S : St} (h : StGood S) {w : World} {base : Nat} {A : Option Addr} {n c : Nat} {RA : Option Addr} {rn rc : Nat} {PA : Option Addr} {pn pc : Nat} {HA : Option Addr} {hn hc : Nat} (hO : StO w base A n c RA rn rc PA pn pc HA hn hc S) : StK n c rn pn hn S := hO.known h.wf
structure PlayAt (w wr : World) (S : St) (T : Option Addr) (j tc : Nat) (l : List OpV) (B1 : Option Addr) (n1 d1 : Nat) (B2 : Option Addr) (n2 d2 : Nat) (B3 : Option Addr) (n3 d3 : Nat) (B4 : Option Addr) (n4 d4 : Nat) : Prop where
  below : Below w.heap.size w wr
  cell : Blk wr w.heap.size 41 #[.slice B1 n1 d1, .slice B2 n2 d2, .slice B3 n3 d3, .slice B4 n4 d4]
  res : Blk wr (w.heap.size + 1) 41 #[.slice none 0 0, .slice none 0 0, .slice none 0 0, .slice none 0 0]
  own : StO wr w.heap.size B1 n1 d1 B2 n2 d2 B3 n3 d3 B4 n4 d4 (playS S (l.take j))
  good : StGood (playS S (l.take j))
  told : wr.ownsRow w.heap.size 71 2 (.slice T j tc) j (toldsC (playT S (l.take j)))
set_option maxRecDepth 100000 in
set_option maxHeartbeats 2000000 in
theorem play_ok (A : Option Addr) (n c : Nat) (RA : Option Addr) (rn rc : Nat) (PA : Option Addr) (pn pc : Nat) (HA : Option Addr) (hn hc : Nat) (S : St) (OA : Option Addr) (on oc : Nat) (l : List OpV) (w : World) (hR : StR w w.heap.size A n RA rn PA pn HA hn S) (hK : StK n c rn pn hn S)
    (hOK : StOk S) (hn2 : on ≤ 200) (hr : Reads w w.heap.size 5 OA on (opsC l)) (hv : ∀ o ∈ l, (Lit.int .u64 o.v).wf = true) (hT : FTab w) :
    Calls Tryz.prog 21 #[.agg #[.slice A n c, .slice RA rn rc, .slice PA pn pc, .slice HA hn hc], .slice OA on oc] w fun e w' => Below w.heap.size w w' ∧
      ∃ (B1 : Option Addr) (n1 d1 : Nat) (B2 : Option Addr) (n2 d2 : Nat) (B3 : Option Addr) (n3 d3 : Nat) (B4 : Option Addr) (n4 d4 : Nat) (T : Option Addr) (tc : Nat), e = .returned (.tuple #[.agg #[.slice B1 n1 d1, .slice B2 n2 d2, .slice B3 n3 d3, .slice B4 n4 d4], .slice T on tc, .int .i64 0]) ∧
        StO w' w.heap.size B1 n1 d1 B2 n2 d2 B3 n3 d3 B4 n4 d4 (playS S l) ∧ w'.ownsRow w.heap.size 71 2 (.slice T on tc) on (toldsC (playT S l)) := by
  obtain ⟨i0, hi, hz0, hz1, hz2⟩ := info_parts info_told
  have HCk := Lib.hid (fun w hR => stcheck_any A n c RA rn rc PA pn pc HA hn hc S w hR hK)
  rw [stE_ok.2 hOK] at HCk
  obtain ⟨y1, y2, y3, y4, -⟩ := hOK.lens
  obtain ⟨z1, z2, z3, z4⟩ := hR.lens
  have HOw := Lib.hid (fun w hR => pown_any A n c RA rn rc PA pn pc HA hn hc S w hR (by omega) (by omega) (by omega) (by omega))
  have g1 : decide (200 < on) = false := decide_eq_false (by omega)
  have g1' : decide ((200 : Int) < (on : Int)) = false := decide_eq_false (by omega)
  have HN := Lib.hid hn2
  have HG : Hid (StGood S) := ⟨hOK, hK.wf⟩
  have HV := Lib.hid hv
  have HT := Lib.hid hT
  have HL : Hid (l.length = on) := by have := hr.1; rw [opsC_length] at this; show _ = _; omega
  have hb := (below_new w (.cells #[.slice A n c, .slice RA rn rc, .slice PA pn pc, .slice HA hn hc] 41)).alloc (by simp) (.cells #[.slice none 0 0, .slice none 0 0, .slice none 0 0, .slice none 0 0] 41)
  have DS := (Blk.new w 41 #[.slice A n c, .slice RA rn rc, .slice PA pn pc, .slice HA hn hc]).alloc (.cells #[.slice none 0 0, .slice none 0 0, .slice none 0 0, .slice none 0 0] 41)
  have DR := Blk.new (w.alloc (.cells #[.slice A n c, .slice RA rn rc, .slice PA pn pc, .slice HA hn hc] 41)) 41 #[.slice none 0 0, .slice none 0 0, .slice none 0 0, .slice none 0 0]
  rw [World.size_alloc] at DR
  obtain ⟨s0, s1, s2, s3⟩ := DS.four
  clear y1 y2 y3 y4 z1 z2 z3 z4 hn2 hv hT hOK hK
  go_enter Tryz.func21, Tryz.ntmps21
  go_wp2_with fail
  refine (HCk.out _ ((hR.below hb).more hb.size)).mono ?_
  rintro e w2 ⟨rfl, hb2⟩
  have hb02 := below_step hb hb2
  have DS2 := DS.below hb2 DS.lt
  have DR2 := DR.below hb2 DR.lt
  clear s0 s1 s2 s3 hb hb2 DS DR HCk
  obtain ⟨s0, s1, s2, s3⟩ := DS2.four
  go_wp2_with fail
  refine (HOw.out _ ((hR.below hb02).more hb02.size)).mono ?_
  rintro e w3 ⟨hb3, B1, d1, B2, d2, B3, d3, B4, d4, rfl, hO⟩
  have hb03 := below_step hb02 hb3
  have DS3 := DS2.below hb3 DS2.lt
  have DR3 := DR2.below hb3 DR2.lt
  clear s0 s1 s2 s3
  obtain ⟨s0, s1, s2, s3⟩ := DS3.four
  obtain ⟨f0, f1, f2, f3⟩ := DS3.four_frozen
  have hO3 := (hO.mono hb02.size).store DS3 (.slice B1 n d1) (.slice B2 rn d2) (.slice B3 pn d3) (.slice B4 hn d4)
  have hb04 := below_block4 (g := w.heap.size) hb03 (Nat.le_refl _) (.slice B1 n d1) (.slice B2 rn d2) (.slice B3 pn d3) (.slice B4 hn d4)
  have DS4 := DS3.store4 (.slice B1 n d1) (.slice B2 rn d2) (.slice B3 pn d3) (.slice B4 hn d4)
  have DR4 := DR3.far4 (g' := w.heap.size) (by omega) (.slice B1 n d1) (.slice B2 rn d2) (.slice B3 pn d3) (.slice B4 hn d4)
  clear DS2 DR2 hb02 hb3 hO DS3 DR3 hb03
  go_wp2_with fail
  clear s0 s1 s2 s3 f0 f1 f2 f3
  go_loopw [8, 31] (fun o i wr => ∃ (j : Nat) (T : Option Addr) (tc : Nat) (B1 : Option Addr) (n1 d1 : Nat) (B2 : Option Addr) (n2 d2 : Nat) (B3 : Option Addr) (n3 d3 : Nat) (B4 : Option Addr) (n4 d4 : Nat), j ≤ on ∧ i = .int .i64 j ∧ o = .slice T j tc ∧ PlayAt w wr S T j tc l B1 n1 d1 B2 n2 d2 B3 n3 d3 B4 n4 d4) (fun _ i _ => on - (intOf i).toNat)
  case atStart => exact ⟨0, none, 0, B1, n, d1, B2, rn, d2, B3, pn, d3, B4, hn, d4, Nat.zero_le _, rfl, rfl, ⟨hb04, DS4, DR4, hO3, HG.out, World.ownsRow_nil _ _ _ _⟩⟩
  case round =>
    clear hb04 DS4 DR4 hO3
    obtain ⟨j, T, tc, G1, n1, p1, G2, n2, p2, G3, n3, p3, G4, n4, p4, hj, rfl, rfl, hP⟩ := hrel
    by_cases hlt : j < on
    · obtain ⟨ad, o, rfl, had, ho, c0, c1, c2, c3, c4⟩ := (hr.below hP.below).op hlt
      have HX := Lib.hid (play_take (S := S) ho)
      have hvo := HV.out o (List.mem_of_getElem? ho)
      have hv0 : 0 ≤ o.v ∧ o.v < 18446744073709551616 := by simp [Lit.wf, IntKind.min, IntKind.max, IntKind.signed, IntKind.bits] at hvo; omega
      have HDo := Lib.hid (fun w hR hT => do_any G1 n1 p1 G2 n2 p2 G3 n3 p3 G4 n4 p4 (playS S (l.take j)) o w hR (hP.good.known hP.own) hT hv0.1 hv0.2)
      have HGd := Lib.hid (nextS_good hP.good o hvo)
      obtain ⟨S1, hS1⟩ : ∃ S1, S1 = playS S (l.take j) := ⟨_, rfl⟩
      have hPo := hP.own
      have hPt := hP.told
      rw [← hS1] at HDo HGd hPo HX
      obtain ⟨X, hX⟩ : ∃ X, X = doO S1 o := ⟨_, rfl⟩
      rw [← hX] at HDo
      have HN1 : Hid ((X.er = 0 → nextS S1 o = X.st) ∧ (X.er ≠ 0 → nextS S1 o = S1) ∧ toldS S1 o = ⟨X.er, X.told⟩ ∧ (X.er ≠ 0 → X.told = 0)) := by
        show _ ∧ _
        rw [hX]
        exact ⟨fun h => if_pos h, fun h => if_neg h, rfl, doO_told S1 o⟩
      obtain ⟨L1, hL1⟩ : ∃ L1, L1 = playT S (l.take j) := ⟨_, rfl⟩
      rw [← hL1] at HX hPt
      have DS := hP.cell
      have DR := hP.res
      have hbr := hP.below
      have hba := hbr.alloc hbr.size (.cells #[.int .i64 o.kind, .int .i64 o.a, .int .i64 o.b, .int .i64 o.c, .int .u64 o.v] 46)
      have DSa := DS.alloc (.cells #[.int .i64 o.kind, .int .i64 o.a, .int .i64 o.b, .int .i64 o.c, .int .u64 o.v] 46)
      have DRa := DR.alloc (.cells #[.int .i64 o.kind, .int .i64 o.a, .int .i64 o.b, .int .i64 o.c, .int .u64 o.v] 46)
      have hOa := hPo.alloc (.cells #[.int .i64 o.kind, .int .i64 o.a, .int .i64 o.b, .int .i64 o.c, .int .u64 o.v] 46)
      have hTa := hPt.alloc (.cells #[.int .i64 o.kind, .int .i64 o.a, .int .i64 o.b, .int .i64 o.c, .int .u64 o.v] 46)
      have DO := Blk.new wr 46 #[.int .i64 o.kind, .int .i64 o.a, .int .i64 o.b, .int .i64 o.c, .int .u64 o.v]
      have hj200 : j < 200 := by have := HN.out; omega
      obtain ⟨s0, s1, s2, s3⟩ := DSa.four
      obtain ⟨k0, k1, k2, k3, k4⟩ := DO.five
      clear hP hvo hv0 hS1 hX hL1 hPo hPt DS DR hbr DO ho
      go_wp2_with fail
      refine (HDo.out _ hOa.reads (HT.out.below hba)).mono ?_
      rintro e w5 ⟨hb5, ⟨hz, E1, m1, e1, E2, m2, e2, E3, m3, e3, E4, m4, e4, rfl, hO⟩ | ⟨hnz, rfl⟩⟩
      · have hb05 := below_step hba hb5
        have hb06 := hb05.alloc hb05.size (.cells #[.slice E1 m1 e1, .slice E2 m2 e2, .slice E3 m3 e3, .slice E4 m4 e4] 41)
        have DN := Blk.new w5 41 #[.slice E1 m1 e1, .slice E2 m2 e2, .slice E3 m3 e3, .slice E4 m4 e4]
        have DS6 := (DSa.below hb5 DSa.lt).alloc (.cells #[.slice E1 m1 e1, .slice E2 m2 e2, .slice E3 m3 e3, .slice E4 m4 e4] 41)
        have DR6 := (DRa.below hb5 DRa.lt).alloc (.cells #[.slice E1 m1 e1, .slice E2 m2 e2, .slice E3 m3 e3, .slice E4 m4 e4] 41)
        have hO6 := (hO.mono hba.size).alloc (.cells #[.slice E1 m1 e1, .slice E2 m2 e2, .slice E3 m3 e3, .slice E4 m4 e4] 41)
        have hT6 := (own_below hTa hb5).alloc (.cells #[.slice E1 m1 e1, .slice E2 m2 e2, .slice E3 m3 e3, .slice E4 m4 e4] 41)
        obtain ⟨vt, hvt⟩ : ∃ v, v = X.told := ⟨_, rfl⟩
        rw [← hvt]
        have HVT := Lib.hid hvt
        have HZ := Lib.hid hz
        have DS7 := DS6.store4 (.slice E1 m1 e1) (.slice E2 m2 e2) (.slice E3 m3 e3) (.slice E4 m4 e4)
        have DR7 := DR6.far4 (g' := w.heap.size) (by omega) (.slice E1 m1 e1) (.slice E2 m2 e2) (.slice E3 m3 e3) (.slice E4 m4 e4)
        have hO7 := hO6.store DS6 (.slice E1 m1 e1) (.slice E2 m2 e2) (.slice E3 m3 e3) (.slice E4 m4 e4)
        have hT7 := own_block4 hT6 DS6 (by decide) (.slice E1 m1 e1) (.slice E2 m2 e2) (.slice E3 m3 e3) (.slice E4 m4 e4)
        have hb07 := below_block4 (g := w.heap.size) hb06 (Nat.le_refl _) (.slice E1 m1 e1) (.slice E2 m2 e2) (.slice E3 m3 e3) (.slice E4 m4 e4)
        have hnew := reads_new (((((w5.alloc (.cells #[.slice E1 m1 e1, .slice E2 m2 e2, .slice E3 m3 e3, .slice E4 m4 e4] 41)).setCell ⟨w.heap.size, 0, none⟩ (.slice E1 m1 e1)).setCell ⟨w.heap.size, 1, none⟩ (.slice E2 m2 e2)).setCell ⟨w.heap.size, 2, none⟩ (.slice E3 m3 e3)).setCell ⟨w.heap.size, 3, none⟩ (.slice E4 m4 e4)) (toldC ⟨0, vt⟩) 71 1 2 rfl
        have hsz : (((((w5.alloc (.cells #[.slice E1 m1 e1, .slice E2 m2 e2, .slice E3 m3 e3, .slice E4 m4 e4] 41)).setCell ⟨w.heap.size, 0, none⟩ (.slice E1 m1 e1)).setCell ⟨w.heap.size, 1, none⟩ (.slice E2 m2 e2)).setCell ⟨w.heap.size, 2, none⟩ (.slice E3 m3 e3)).setCell ⟨w.heap.size, 3, none⟩ (.slice E4 m4 e4)).heap.size = w5.heap.size + 1 := by simp
        rw [hsz] at hnew
        clear hsz
        have hT8 := hT7.alloc (.cells #[.int .i64 0, .int .u64 vt] 71)
        have hO8 := hO7.alloc (.cells #[.int .i64 0, .int .u64 vt] 71)
        have DS8 := DS7.alloc (.cells #[.int .i64 0, .int .u64 vt] 71)
        have DR8 := DR7.alloc (.cells #[.int .i64 0, .int .u64 vt] 71)
        have hb08 := hb07.alloc hb07.size (.cells #[.int .i64 0, .int .u64 vt] 71)
        have hbs := hb08.size
        clear s0 s1 s2 s3 k0 k1 k2 k3 k4 DSa DRa hOa hTa HDo hb5 hb05 hO hvt DR6 hO6 hT6 hb06 hba hz DS7 DR7 hO7 hT7 hb07
        obtain ⟨s0, s1, s2, s3⟩ := DS6.four
        obtain ⟨f0, f1, f2, f3⟩ := DS6.four_frozen
        obtain ⟨q0, q1, q2, q3⟩ := DN.four
        clear DS6 DN
        go_wp2_with (at_builtin; refine wpList_append_any _ rfl (.tmp 45) (.tmp 49) 58 rfl w.heap.size 71 i0 _ 2 16 Tryz.underlying58 hi hz0 hz1 hz2 rfl (by decide) (.slice T j tc) j _ rfl hT8 _ (some ⟨w5.heap.size + 1, 0, none⟩) 1 1 (toldC ⟨0, vt⟩) rfl hnew (by simp [toldC, Value.oneCell']) (by unfold maxLen; omega) (by omega) hbs ?_; rintro v' w7 hO9 hg9 - -; obtain ⟨T', tc', rfl⟩ := own_slice hO9)
        have hb9 := hb08.grown hg9 hbs (fun g hg => (hT8.lt g hg).1)
        have DS9 := DS8.grown hg9 (fun h => own_blk_ne hT8 DS8 (by decide) h.symm)
        have DR9 := DR8.grown hg9 (fun h => own_blk_ne hT8 DR8 (by decide) h.symm)
        have hO10 := hO8.grown hT8 hg9 (by decide) (by decide) (by decide) (by decide)
        have HO9 := Lib.hid hO9
        clear s0 s1 s2 s3 f0 f1 f2 f3 q0 q1 q2 q3 hT8 hO8 DS8 DR8 hb08 hbs hnew hg9 hO9
        go_roundw
        case rel => exact ⟨j + 1, T', tc', E1, m1, e1, E2, m2, e2, E3, m3, e3, E4, m4, e4, by omega, by go_num, rfl, ⟨hb9, DS9, DR9, by rw [HX.out.1, HN1.out.1 HZ.out]; exact hO10, by rw [HX.out.1]; exact HGd.out, by rw [HX.out.2, toldsC_snoc, HN1.out.2.2.1, HZ.out, ← HVT.out]; exact HO9.out⟩⟩
        case measure => simp [intOf]; omega
      · have hb05 := below_step hba hb5
        have hb06 := hb05.alloc hb05.size (.cells #[.slice none 0 0, .slice none 0 0, .slice none 0 0, .slice none 0 0] 41)
        have DS6 := (DSa.below hb5 DSa.lt).alloc (.cells #[.slice none 0 0, .slice none 0 0, .slice none 0 0, .slice none 0 0] 41)
        have DR6 := (DRa.below hb5 DRa.lt).alloc (.cells #[.slice none 0 0, .slice none 0 0, .slice none 0 0, .slice none 0 0] 41)
        have hO6 := (hOa.below hb5).alloc (.cells #[.slice none 0 0, .slice none 0 0, .slice none 0 0, .slice none 0 0] 41)
        have hT6 := (own_below hTa hb5).alloc (.cells #[.slice none 0 0, .slice none 0 0, .slice none 0 0, .slice none 0 0] 41)
        obtain ⟨ev, hev⟩ : ∃ v, v = X.er := ⟨_, rfl⟩
        rw [← hev]
        have HEV := Lib.hid hev
        have HNZ := Lib.hid hnz
        have g9 : (ev == 0) = false := by rw [hev]; simpa using hnz
        have hnew := reads_new (w5.alloc (.cells #[.slice none 0 0, .slice none 0 0, .slice none 0 0, .slice none 0 0] 41)) (toldC ⟨ev, 0⟩) 71 1 2 rfl
        rw [World.size_alloc] at hnew
        have hT8 := hT6.alloc (.cells #[.int .i64 ev, .int .u64 0] 71)
        have hO8 := hO6.alloc (.cells #[.int .i64 ev, .int .u64 0] 71)
        have DS8 := DS6.alloc (.cells #[.int .i64 ev, .int .u64 0] 71)
        have DR8 := DR6.alloc (.cells #[.int .i64 ev, .int .u64 0] 71)
        have hb08 := hb06.alloc hb06.size (.cells #[.int .i64 ev, .int .u64 0] 71)
        have hbs := hb08.size
        clear s0 s1 s2 s3 k0 k1 k2 k3 k4 DSa DRa hOa hTa HDo hb5 hb05 hev DS6 DR6 hO6 hT6 hb06 hba hnz
        go_wp2_with (at_builtin; refine wpList_append_any _ rfl (.tmp 45) (.tmp 49) 58 rfl w.heap.size 71 i0 _ 2 16 Tryz.underlying58 hi hz0 hz1 hz2 rfl (by decide) (.slice T j tc) j _ rfl hT8 _ (some ⟨w5.heap.size + 1, 0, none⟩) 1 1 (toldC ⟨ev, 0⟩) rfl hnew (by simp [toldC, Value.oneCell']) (by unfold maxLen; omega) (by omega) hbs ?_; rintro v' w7 hO9 hg9 - -; obtain ⟨T', tc', rfl⟩ := own_slice hO9)
        have hb9 := hb08.grown hg9 hbs (fun g hg => (hT8.lt g hg).1)
        have DS9 := DS8.grown hg9 (fun h => own_blk_ne hT8 DS8 (by decide) h.symm)
        have DR9 := DR8.grown hg9 (fun h => own_blk_ne hT8 DR8 (by decide) h.symm)
        have hO10 := hO8.grown hT8 hg9 (by decide) (by decide) (by decide) (by decide)
        have HO9 := Lib.hid hO9
        clear hT8 hO8 DS8 DR8 hb08 hbs hnew hg9 hO9 g9
        go_roundw
        case rel => exact ⟨j + 1, T', tc', G1, n1, p1, G2, n2, p2, G3, n3, p3, G4, n4, p4, by omega, by go_num, rfl, ⟨hb9, DS9, DR9, by rw [HX.out.1, HN1.out.2.1 HNZ.out]; exact hO10, by rw [HX.out.1]; exact HGd.out, by rw [HX.out.2, toldsC_snoc, HN1.out.2.2.1, HN1.out.2.2.2 HNZ.out, ← HEV.out]; exact HO9.out⟩⟩
        case measure => simp [intOf]; omega
    · obtain rfl : j = on := by omega
      have htk : l.take j = l := List.take_of_length_le (by rw [HL.out]; exact Nat.le_refl _)
      have hPo := hP.own
      have hPt := hP.told
      rw [htk] at hPo hPt
      have DS := hP.cell
      have DR := hP.res
      have hb5 := hP.below
      obtain ⟨s0, s1, s2, s3⟩ := DS.four
      obtain ⟨r0, r1, r2, r3⟩ := DR.four
      obtain ⟨f0, f1, f2, f3⟩ := DR.four_frozen
      clear hP htk
      go_wp2_with fail
      refine bodyPost_ret (v := .tuple #[.agg #[.slice G1 n1 p1, .slice G2 n2 p2, .slice G3 n3 p3, .slice G4 n4 p4], .slice T j tc, .int .i64 0]) ?_ rfl ⟨below_block4 (g := w.heap.size + 1) hb5 (Nat.le_succ _) _ _ _ _, G1, n1, p1, G2, n2, p2, G3, n3, p3, G4, n4, p4, T, tc, rfl, hPo.store DR _ _ _ _, own_block4 hPt DR (by decide) _ _ _ _⟩
      obtain ⟨z0, z1, z2, z3⟩ := (DR.store4 (.slice G1 n1 p1) (.slice G2 n2 p2) (.slice G3 n3 p3) (.slice G4 n4 p4)).four
      simp only [results, Tryz.results21]
      go_simp
end Go.Proofs.YtfikonmhbhcejaaGreatDoor

namespace Go.Proofs.YtfikonmhbhcejaaGreatDoor
open Go.RowKit
set_option maxRecDepth 100000 in
set_option maxHeartbeats 4000000 in
theorem topDesk_bad (W R H v t : Int) (w : World) (hT : DTab w.heap.size w) (hbad : W < 12 ∨ 200 < W ∨ R < 2 ∨ 9 < R ∨ H < 1 ∨ 9 < H ∨ v < 0 ∨ 1000000 < v ∨ t < 0 ∨ 65535 < t) :
    Calls Tryz.prog 7 #[.int .i64 W, .int .i64 R, .int .i64 H, .int .i64 v, .int .i64 t] w fun e w' => e = .returned (.bool true) ∧ Below w.heap.size w w' := by
  have HWk := Lib.hid (fun w1 (hb : Below w.heap.size w w1) => works_true w1 (hT.up hb))
  clear hT
  go_enter Tryz.func7, Tryz.ntmps7
  go_wp2_with fail
  refine (HWk.out _ (Below.refl _ _)).mono ?_
  rintro e w1 ⟨rfl, hb1⟩
  by_cases c0 : W < 12
  · have g0 : decide (W < 12) = true := decide_eq_true c0
    clear hbad c0
    go_wp2_with fail
    refine (HWk.out _ hb1).mono ?_
    rintro e w2 ⟨rfl, hb2⟩
    go_wp2_with fail
    go_ret
    exact ⟨by first | rfl | simp, below_step hb1 hb2⟩
  have g0 : decide (W < 12) = false := decide_eq_false c0
  by_cases c1 : 200 < W
  · have g1 : decide (200 < W) = true := decide_eq_true c1
    clear hbad c1
    go_wp2_with fail
    refine (HWk.out _ hb1).mono ?_
    rintro e w2 ⟨rfl, hb2⟩
    go_wp2_with fail
    go_ret
    exact ⟨by first | rfl | simp, below_step hb1 hb2⟩
  have g1 : decide (200 < W) = false := decide_eq_false c1
  by_cases c2 : R < 2
  · have g2 : decide (R < 2) = true := decide_eq_true c2
    clear hbad c2
    go_wp2_with fail
    refine (HWk.out _ hb1).mono ?_
    rintro e w2 ⟨rfl, hb2⟩
    go_wp2_with fail
    go_ret
    exact ⟨by first | rfl | simp, below_step hb1 hb2⟩
  have g2 : decide (R < 2) = false := decide_eq_false c2
  by_cases c3 : 9 < R
  · have g3 : decide (9 < R) = true := decide_eq_true c3
    clear hbad c3
    go_wp2_with fail
    refine (HWk.out _ hb1).mono ?_
    rintro e w2 ⟨rfl, hb2⟩
    go_wp2_with fail
    go_ret
    exact ⟨by first | rfl | simp, below_step hb1 hb2⟩
  have g3 : decide (9 < R) = false := decide_eq_false c3
  by_cases c4 : H < 1
  · have g4 : decide (H < 1) = true := decide_eq_true c4
    clear hbad c4
    go_wp2_with fail
    refine (HWk.out _ hb1).mono ?_
    rintro e w2 ⟨rfl, hb2⟩
    go_wp2_with fail
    go_ret
    exact ⟨by first | rfl | simp, below_step hb1 hb2⟩
  have g4 : decide (H < 1) = false := decide_eq_false c4
  by_cases c5 : 9 < H
  · have g5 : decide (9 < H) = true := decide_eq_true c5
    clear hbad c5
    go_wp2_with fail
    refine (HWk.out _ hb1).mono ?_
    rintro e w2 ⟨rfl, hb2⟩
    go_wp2_with fail
    go_ret
    exact ⟨by first | rfl | simp, below_step hb1 hb2⟩
  have g5 : decide (9 < H) = false := decide_eq_false c5
  by_cases c6 : v < 0
  · have g6 : decide (v < 0) = true := decide_eq_true c6
    clear hbad c6
    go_wp2_with fail
    refine (HWk.out _ hb1).mono ?_
    rintro e w2 ⟨rfl, hb2⟩
    go_wp2_with fail
    go_ret
    exact ⟨by first | rfl | simp, below_step hb1 hb2⟩
  have g6 : decide (v < 0) = false := decide_eq_false c6
  by_cases c7 : 1000000 < v
  · have g7 : decide (1000000 < v) = true := decide_eq_true c7
    clear hbad c7
    go_wp2_with fail
    refine (HWk.out _ hb1).mono ?_
    rintro e w2 ⟨rfl, hb2⟩
    go_wp2_with fail
    go_ret
    exact ⟨by first | rfl | simp, below_step hb1 hb2⟩
  have g7 : decide (1000000 < v) = false := decide_eq_false c7
  by_cases c8 : t < 0
  · have g8 : decide (t < 0) = true := decide_eq_true c8
    clear hbad c8
    go_wp2_with fail
    refine (HWk.out _ hb1).mono ?_
    rintro e w2 ⟨rfl, hb2⟩
    go_wp2_with fail
    go_ret
    exact ⟨by first | rfl | simp, below_step hb1 hb2⟩
  have g8 : decide (t < 0) = false := decide_eq_false c8
  by_cases c9 : 65535 < t
  · have g9 : decide (65535 < t) = true := decide_eq_true c9
    clear hbad c9
    go_wp2_with fail
    refine (HWk.out _ hb1).mono ?_
    rintro e w2 ⟨rfl, hb2⟩
    go_wp2_with fail
    go_ret
    exact ⟨by first | rfl | simp, below_step hb1 hb2⟩
  have g9 : decide (65535 < t) = false := decide_eq_false c9
  exfalso
  omega
set_option maxRecDepth 100000 in
set_option maxHeartbeats 8000000 in
theorem topDesk_ok (W R H v t : Nat) (w : World) (hT : DTab w.heap.size w) (hW : 12 ≤ W) (hW2 : W ≤ 200) (hR : 2 ≤ R) (hR2 : R ≤ 9) (hH : 1 ≤ H) (hH2 : H ≤ 9) (hv : v ≤ 1000000) (ht : t ≤ 65535) :
    Calls Tryz.prog 7 #[.int .i64 W, .int .i64 R, .int .i64 H, .int .i64 v, .int .i64 t] w fun e w' => e = .returned (.bool true) ∧ Below w.heap.size w w' := by
  have HWk := Lib.hid (fun w1 (hb : Below w.heap.size w w1) => works_true w1 (hT.up hb))
  have HN := Lib.hid (fun w => newFn_one W R H w)
  have hE : newE W R H = 0 := by
    unfold newE
    rw [if_neg (by omega), if_neg (by omega), if_neg (by omega)]
  have hG0 := newE_good hE
  rw [hE] at HN
  obtain ⟨rr, hh, hr⟩ := nine_run (W := W) (R := R) (H := H) (t := t) (v := v) hW hW2 hR hR2 hH hH2 (by omega) (by omega) (by omega) (by omega)
  have hD := nine_desk hW hW2 hR2 hH2 ht hv hr
  rw [show (W : Int).toNat = W from rfl, show (R : Int).toNat = R from rfl, show (H : Int).toNat = H from rfl] at HN hG0
  obtain ⟨S0, hS0⟩ : ∃ S0, S0 = newSt W R H := ⟨_, rfl⟩
  rw [← hS0] at HN hG0 hr
  have HG0 := Lib.hid hG0
  have HNine := Lib.hid hr
  have HDesk := Lib.hid hD
  have HT := Lib.hid hT
  have g0 : decide ((W : Int) < 12) = false := decide_eq_false (by omega)
  have n0 : decide (W < 12) = false := decide_eq_false (by omega)
  have g1 : decide (200 < (W : Int)) = false := decide_eq_false (by omega)
  have n1 : decide (200 < W) = false := decide_eq_false (by omega)
  have g2 : decide ((R : Int) < 2) = false := decide_eq_false (by omega)
  have n2 : decide (R < 2) = false := decide_eq_false (by omega)
  have g3 : decide (9 < (R : Int)) = false := decide_eq_false (by omega)
  have n3 : decide (9 < R) = false := decide_eq_false (by omega)
  have g4 : decide ((H : Int) < 1) = false := decide_eq_false (by omega)
  have n4 : decide (H < 1) = false := decide_eq_false (by omega)
  have g5 : decide (9 < (H : Int)) = false := decide_eq_false (by omega)
  have n5 : decide (9 < H) = false := decide_eq_false (by omega)
  have g6 : decide ((v : Int) < 0) = false := decide_eq_false (by omega)
  have g7 : decide (1000000 < (v : Int)) = false := decide_eq_false (by omega)
  have n7 : decide (1000000 < v) = false := decide_eq_false (by omega)
  have g8 : decide ((t : Int) < 0) = false := decide_eq_false (by omega)
  have g9 : decide (65535 < (t : Int)) = false := decide_eq_false (by omega)
  have n9 : decide (65535 < t) = false := decide_eq_false (by omega)
  clear hT hG0 hS0 hE hr hD
  go_enter Tryz.func7, Tryz.ntmps7
  go_wp2_with fail
  refine (HWk.out _ (Below.refl _ _)).mono ?_
  rintro e w1 ⟨rfl, hb1⟩
  go_wp2_with fail
  refine (HN.out _).mono ?_
  rintro e w2 ⟨hb2, B1, m1, f1, B2, m2, f2, B3, m3, f3, B4, m4, f4, rfl, HO⟩
  have hO := HO.out (by first | rfl | trivial)
  have hb02 := below_step hb1 hb2
  have hb3 := hb02.alloc hb02.size (.cells #[.slice B1 m1 f1, .slice B2 m2 f2, .slice B3 m3 f3, .slice B4 m4 f4] 41)
  have D0 := Blk.new w2 41 #[.slice B1 m1 f1, .slice B2 m2 f2, .slice B3 m3 f3, .slice B4 m4 f4]
  have hO := hO.belowS (below_new w2 (.cells #[.slice B1 m1 f1, .slice B2 m2 f2, .slice B3 m3 f3, .slice B4 m4 f4] 41))
  clear HO HN
  obtain ⟨s0, s1, s2, s3⟩ := D0.four
  have hb4 := hb3.alloc hb3.size (.cells (opsC (nineO t v)).toArray 46)
  have hrO := reads_new (w2.alloc (.cells #[.slice B1 m1 f1, .slice B2 m2 f2, .slice B3 m3 f3, .slice B4 m4 f4] 41)) (opsC (nineO t v)) 46 9 5 rfl
  have hO4 := hO.belowS (below_new (w2.alloc (.cells #[.slice B1 m1 f1, .slice B2 m2 f2, .slice B3 m3 f3, .slice B4 m4 f4] 41)) (.cells (opsC (nineO t v)).toArray 46))
  have hwf : ∀ o ∈ nineO t v, (Lit.int .u64 o.v).wf = true := by
    intro o ho
    simp only [nineO, List.mem_cons, List.not_mem_nil, or_false] at ho
    rcases ho with rfl | rfl | rfl | rfl | rfl | rfl | rfl | rfl | rfl <;> first | decide | (simp [Lit.wf, IntKind.min, IntKind.max, IntKind.signed, IntKind.bits]; omega)
  rw [World.size_alloc] at hrO
  have HPl := Lib.hid (play_ok B1 m1 f1 B2 m2 f2 B3 m3 f3 B4 m4 f4 S0 (some ⟨w2.heap.size + 1, 0, none⟩) 9 9 (nineO t v) _ hO4.reads (hO4.known HG0.out.wf) HG0.out.ok (by decide) (hrO.more (by simp)) hwf (HT.out.on hb4).f)
  obtain ⟨hp1, hp2⟩ := nine_play HNine.out
  rw [hp1, hp2] at HPl
  have HB4 := Lib.hid hb4
  clear hrO hO4 hwf hp1 hp2 hO hb3 hb4
  go_wp2_with fail
  refine HPl.out.mono ?_
  rintro e w5 ⟨hb5, A, n, c, RA, rn, rc, PA, pn, pc, HA, hn, hc, TA, tc, rfl, hOx, hTx⟩
  have hb05 := below_step HB4.out hb5
  have hb6 := hb05.alloc hb05.size (.cells #[.slice A n c, .slice RA rn rc, .slice PA pn pc, .slice HA hn hc] 41)
  have DX := Blk.new w5 41 #[.slice A n c, .slice RA rn rc, .slice PA pn pc, .slice HA hn hc]
  have hgF : ((w5.alloc (.cells #[.slice A n c, .slice RA rn rc, .slice PA pn pc, .slice HA hn hc] 41)).alloc (.cells #[.func (.func 27) #[] #[]] 68)).cell? ⟨w5.heap.size + 1, 0, none⟩ = some (.func (.func 27) #[] #[]) := by
    have := (Blk.new (w5.alloc (.cells #[.slice A n c, .slice RA rn rc, .slice PA pn pc, .slice HA hn hc] 41)) 68 #[.func (.func 27) #[] #[]]).cell 0
    rw [World.size_alloc] at this
    exact this
  have hd1 := nDigits_any W (by omega) _ _ hgF
  have hd2 := nDigits_any R (by omega) _ _ hgF
  have hd3 := nDigits_any H (by omega) _ _ hgF
  have hd4 := nDigits_any t (by omega) _ _ hgF
  have hd5 := nDigits_any v (by omega) _ _ hgF
  have sz : ∀ k : Nat, k ≤ 1000000 → (itoaB (k : Int)).size ≤ 21 := fun k hk => itoaB_size (by omega) (by omega)
  have z1 := sz W (by omega)
  have z2 := sz R (by omega)
  have z3 := sz H (by omega)
  have z4 := sz t (by omega)
  have z5 := sz v (by omega)
  have hb7 := hb6.alloc hb6.size (.cells #[.func (.func 27) #[] #[]] 68)
  have hb8 := hb7.alloc hb7.size (.cells ((newL (itoaB W) (itoaB R) (itoaB H) :: makeL (itoaB t) :: putL (itoaB v) :: restL).map Value.string).toArray 9)
  have hrL := reads_new ((w5.alloc (.cells #[.slice A n c, .slice RA rn rc, .slice PA pn pc, .slice HA hn hc] 41)).alloc (.cells #[.func (.func 27) #[] #[]] 68)) ((newL (itoaB W) (itoaB R) (itoaB H) :: makeL (itoaB t) :: putL (itoaB v) :: restL).map Value.string) 9 11 1 rfl
  rw [World.size_alloc, World.size_alloc] at hrL
  have hsm : ∀ s ∈ (newL (itoaB W) (itoaB R) (itoaB H) :: makeL (itoaB t) :: putL (itoaB v) :: restL), s.size < 4294967281 := by
    intro s hs
    simp only [List.mem_cons] at hs
    rcases hs with rfl | rfl | rfl | hs
    · simp only [newL, ByteArray.size_append]; show 4 + (itoaB W).size + 1 + (itoaB R).size + 1 + (itoaB H).size < _; omega
    · simp only [makeL, ByteArray.size_append]; show 11 + (itoaB t).size < _; omega
    · simp only [putL, ByteArray.size_append]; show 8 + (itoaB v).size < _; omega
    · revert s; decide +kernel
  have HDP := Lib.hid (dplay_ok (some ⟨w5.heap.size + 1 + 1, 0, none⟩) 11 11 (newL (itoaB W) (itoaB R) (itoaB H) :: makeL (itoaB t) :: putL (itoaB v) :: restL) _ (hrL.more (by simp)) hsm (HT.out.up hb8) (by decide))
  rw [HDesk.out] at HDP
  have hk5 : okN v = ⟨#[111, 107, 32]⟩ ++ itoaB v := by
    refine bytes_ext ?_
    simp [okN, ByteArray.data_append]
  have HK5 := Lib.hid hk5
  have HB8 := Lib.hid hb8
  clear hrL hsm hb7 hb8 hk5 HDesk
  unfold newL makeL putL at HDP HB8
  generalize itoaB (W : Int) = dW at *
  generalize itoaB (R : Int) = dR at *
  generalize itoaB (H : Int) = dH at *
  generalize itoaB (t : Int) = dt at *
  generalize hdv : itoaB (v : Int) = dv at *
  have HDV := Lib.hid hdv
  clear hdv
  have HD1 := Lib.hid hd1
  have HD2 := Lib.hid hd2
  have HD3 := Lib.hid hd3
  have HD4 := Lib.hid hd4
  have HD5 := Lib.hid hd5
  have y4 : (⟨#[110, 101, 119, 32]⟩ : ByteArray).size = 4 := rfl
  have y1 : (⟨#[32]⟩ : ByteArray).size = 1 := rfl
  have y11 : (⟨#[109, 97, 107, 101, 32, 48, 32, 49, 32, 50, 32]⟩ : ByteArray).size = 11 := rfl
  have y8 : (⟨#[112, 117, 116, 32, 48, 32, 49, 32]⟩ : ByteArray).size = 8 := rfl
  have q1 : ¬ (9223372036854775807 < (⟨#[110, 101, 119, 32]⟩ : ByteArray).size + dW.size) := by simp only [y4]; omega
  have q2 : ¬ (9223372036854775807 < ((⟨#[110, 101, 119, 32]⟩ : ByteArray) ++ dW).size + (⟨#[32]⟩ : ByteArray).size) := by simp only [ByteArray.size_append, y4, y1]; omega
  have q3 : ¬ (9223372036854775807 < ((⟨#[110, 101, 119, 32]⟩ : ByteArray) ++ dW ++ ⟨#[32]⟩).size + dR.size) := by simp only [ByteArray.size_append, y4, y1]; omega
  have q4 : ¬ (9223372036854775807 < ((⟨#[110, 101, 119, 32]⟩ : ByteArray) ++ dW ++ ⟨#[32]⟩ ++ dR).size + (⟨#[32]⟩ : ByteArray).size) := by simp only [ByteArray.size_append, y4, y1]; omega
  have q5 : ¬ (9223372036854775807 < ((⟨#[110, 101, 119, 32]⟩ : ByteArray) ++ dW ++ ⟨#[32]⟩ ++ dR ++ ⟨#[32]⟩).size + dH.size) := by simp only [ByteArray.size_append, y4, y1]; omega
  have q6 : ¬ (9223372036854775807 < (⟨#[109, 97, 107, 101, 32, 48, 32, 49, 32, 50, 32]⟩ : ByteArray).size + dt.size) := by simp only [y11]; omega
  have q7 : ¬ (9223372036854775807 < (⟨#[112, 117, 116, 32, 48, 32, 49, 32]⟩ : ByteArray).size + dv.size) := by simp only [y8]; omega
  clear y4 y1 y11 y8
  clear HPl HB4 hb5 s0 s1 s2 s3 D0 hd1 hd2 hd3 hd4 hd5 sz
  go_wp2_with fail
  refine HD1.out.mono ?_
  rintro e w6 ⟨rfl, rfl⟩
  go_wp2_with fail
  refine HD2.out.mono ?_
  rintro e w6 ⟨rfl, rfl⟩
  go_wp2_with fail
  refine HD3.out.mono ?_
  rintro e w6 ⟨rfl, rfl⟩
  go_wp2_with fail
  refine HD4.out.mono ?_
  rintro e w6 ⟨rfl, rfl⟩
  go_wp2_with fail
  refine HD5.out.mono ?_
  rintro e w6 ⟨rfl, rfl⟩
  go_wp2_with fail
  refine HDP.out.mono ?_
  rintro e w8 ⟨LA, lc, rfl, hoL, hb8⟩
  have hb08 := below_step HB8.out hb8
  have hc0 := ((below_new w5 (.cells #[.slice A n c, .slice RA rn rc, .slice PA pn pc, .slice HA hn hc] 41)).alloc (by simp) (.cells #[.func (.func 27) #[] #[]] 68)).alloc (by simp; omega) (.cells (((⟨#[110, 101, 119, 32]⟩ ++ dW ++ ⟨#[32]⟩ ++ dR ++ ⟨#[32]⟩ ++ dH) :: (⟨#[109, 97, 107, 101, 32, 48, 32, 49, 32, 50, 32]⟩ ++ dt) :: (⟨#[112, 117, 116, 32, 48, 32, 49, 32]⟩ ++ dv) :: restL).map Value.string).toArray 9)
  have hc8 := below_step hc0 hb8
  have hrT := (Reads.of_own hTx).below hc8
  have hO8 := hOx.below hc8
  have DX8 := ((DX.alloc (.cells #[.func (.func 27) #[] #[]] 68)).alloc (.cells (((⟨#[110, 101, 119, 32]⟩ ++ dW ++ ⟨#[32]⟩ ++ dR ++ ⟨#[32]⟩ ++ dH) :: (⟨#[109, 97, 107, 101, 32, 48, 32, 49, 32, 50, 32]⟩ ++ dt) :: (⟨#[112, 117, 116, 32, 48, 32, 49, 32]⟩ ++ dv) :: restL).map Value.string).toArray 9)).below hb8 (by simp; omega)
  have DG8 := ((Blk.new (w5.alloc (.cells #[.slice A n c, .slice RA rn rc, .slice PA pn pc, .slice HA hn hc] 41)) 68 #[.func (.func 27) #[] #[]]).alloc (.cells (((⟨#[110, 101, 119, 32]⟩ ++ dW ++ ⟨#[32]⟩ ++ dR ++ ⟨#[32]⟩ ++ dH) :: (⟨#[109, 97, 107, 101, 32, 48, 32, 49, 32, 50, 32]⟩ ++ dt) :: (⟨#[112, 117, 116, 32, 48, 32, 49, 32]⟩ ++ dv) :: restL).map Value.string).toArray 9)).below hb8 (by simp)
  rw [World.size_alloc] at DG8
  have HDG := Lib.hid DG8
  have hall : ∀ x ∈ ([⟨0, 0⟩, ⟨0, 0⟩, ⟨0, 0⟩, ⟨0, 0⟩, ⟨0, 0⟩, ⟨0, (W - 4 : Nat)⟩, ⟨0, v⟩, ⟨0, 65536⟩, ⟨0, 0⟩] : List ToldV), x.e = 0 := by simp
  have HAll := Lib.hid hall
  have HRT := Lib.hid hrT
  have HTx8 := Lib.hid (own_below hTx hc8)
  have HO8 := Lib.hid hO8
  have HoL := Lib.hid hoL
  have HDX := Lib.hid DX8
  clear DG8 hall hrT hO8 hoL DX8 hOx hTx DX hc0 hc8 HB8 hb8
  go_wp2_with fail
  go_loopw [144] (fun i wr => ∃ j : Nat, j ≤ 9 ∧ i = .int .i64 j ∧ Below w8.heap.size w8 wr) (fun i _ => 9 - (intOf i).toNat)
  case atStart => exact ⟨0, by omega, rfl, Below.refl _ _⟩
  case round =>
    obtain ⟨j, hj, rfl, hb9⟩ := hrel
    by_cases hlt : j < 9
    · obtain ⟨ad, x, hTA, had, hx, c0, c1⟩ := (HRT.out.below (hb9.mono (by have := HDX.out.lt; omega))).told hlt
      have h0 := HAll.out x (List.mem_of_getElem? hx)
      rw [h0] at c0
      subst hTA
      have e0 := (Blk.new wr 71 #[.int .i64 0, .int .u64 x.v]).cell 0
      have hb10 := hb9.alloc hb9.size (.cells #[.int .i64 0, .int .u64 x.v] 71)
      clear hx HAll
      go_wp2
      exact ⟨⟨j + 1, by omega, by simp, hb10⟩, by simp [intOf]; omega⟩
    · obtain rfl : j = 9 := by omega
      have hOr := HO8.out.below hb9
      obtain ⟨s0, s1, s2, s3⟩ := (HDX.out.below hb9 HDX.out.lt).four
      have HLv := Lib.hid (live_any A n c RA rn rc PA pn pc HA hn hc _ wr hOr.reads (hOr.known HNine.out.good.wf))
      have HOr := Lib.hid hOr
      clear hOr HAll
      go_wp2_with fail
      refine HLv.out.mono ?_
      rintro e w9 ⟨hb10, hcase⟩
      obtain ⟨-, S', fr, L2, Y2, now2, hC2, rfl⟩ := hcase.resolve_right (fun h => h.1 (stE_ok.2 HNine.out.good.ok))
      obtain ⟨L0, Y0, now0, hC0⟩ := HNine.out.live
      obtain ⟨-, rfl⟩ := hC0.unique hC2
      have hn4 : (n : Int) - ((W - 4 : Nat) : Int) = 4 := by
        have hE := end1 (t := t) (k := 1) (v := v) (n := W - 4) (x := 0) (y := 0) (s := ⟨1, true, 0⟩) (rr := rr) (hh := hh) (by omega) (by omega) (by omega)
        have hl := (hE.len HNine.out.good.ok.arena).2
        have h4 : (chunksW [nC t 1 v]).length = 4 := rfl
        have hln := HOr.out.reads.lens.1
        rw [h4] at hl
        omega
      rw [hn4]
      have hb19 := hb9.trans (hb10.mono hb9.size)
      have hO9 := HO8.out.below hb19
      have hrl := hO9.reads.lens.2.1
      have hr2 : 2 ≤ rn := by rw [← hrl]; show 2 ≤ rr.length + 1 + 1; omega
      obtain ⟨gR, capR, hvR, -, -⟩ := hO9.r.form (by omega)
      obtain ⟨rfl, rfl⟩ : RA = some ⟨gR, 0, none⟩ ∧ rc = capR := by simpa using hvR
      have r0 : w9.cell? ⟨gR, 0, none⟩ = some (.int .i64 0) := hO9.r.cellAt 0 (by omega)
      have r1 : w9.cell? ⟨gR, 1, none⟩ = some (.int .i64 0) := hO9.r.cellAt 1 (by omega)
      have hL9 := own_below HoL.out hb19
      obtain ⟨gL, capL, hvL, -, -⟩ := hL9.form (by omega)
      obtain ⟨rfl, rfl⟩ : LA = some ⟨gL, 0, none⟩ ∧ lc = capL := by simpa using hvL
      have l6 := hL9.cellAt 6 (by omega)
      have l7 := hL9.cellAt 7 (by omega)
      have l8 := hL9.cellAt 8 (by omega)
      have l9 := hL9.cellAt 9 (by omega)
      have l10 := hL9.cellAt 10 (by omega)
      simp only [List.map_cons, List.getElem?_cons_zero, List.getElem?_cons_succ] at l6 l7 l8 l9 l10
      have hk6 : okN ((W - 4 : Nat) : Int) = ⟨#[111, 107, 32]⟩ ++ itoaB ((W - 4 : Nat) : Int) := by
        refine bytes_ext ?_
        simp [okN, ByteArray.data_append]
      rw [hk6] at l6
      rw [HK5.out] at l7
      rw [show okN 65536 = ⟨#[111, 107, 32, 54, 53, 53, 51, 54]⟩ by decide +kernel] at l8
      rw [show okN 4 = ⟨#[111, 107, 32, 52]⟩ by decide +kernel] at l10
      have hT9 := own_below HTx8.out hb19
      obtain ⟨gT, capT, hvT, -, -⟩ := hT9.form (by omega)
      obtain ⟨rfl, rfl⟩ : TA = some ⟨gT, 0, none⟩ ∧ tc = capT := by simpa using hvT
      have a51 := hT9.cellAt 11 (by decide)
      have a61 := hT9.cellAt 13 (by decide)
      simp only [toldsC, toldC, List.flatMap_cons, List.flatMap_nil, List.cons_append, List.nil_append, List.getElem?_cons_zero, List.getElem?_cons_succ] at a51 a61
      have DX9 := HDX.out.below hb19 HDX.out.lt
      have d1 := DX9.cell 1
      simp only [List.getElem?_toArray, List.getElem?_cons_zero, List.getElem?_cons_succ] at d1
      have hg9 := (HDG.out.below hb19 HDG.out.lt).cell 0
      simp only [List.getElem?_toArray, List.getElem?_cons_zero] at hg9
      obtain ⟨m, hm⟩ : ∃ m, W - 4 = m := ⟨_, rfl⟩
      have hm1 : (W : Int) - 4 = (m : Int) := by omega
      have hmw : IntKind.u64.wrap (m : Int) = (m : Int) := by rw [IntKind.wrap_u64]; omega
      have hvw : IntKind.u64.wrap (v : Int) = (v : Int) := by rw [IntKind.wrap_u64]; omega
      rw [hm] at a51 l6
      have HD6 := Lib.hid (fun w => digits_any m (by omega) w)
      have HD7 : Hid (∀ w, w.cell? ⟨w5.heap.size + 1, 0, none⟩ = some (.func (.func 27) #[] #[]) → Calls Tryz.prog 28 #[.int .i64 v, .pointer (some ⟨w5.heap.size + 1, 0, none⟩)] w fun e w' => e = .returned (.string dv) ∧ w' = w) := by
        intro w hg
        have := nDigits_any v (by omega) (w5.heap.size + 1) w hg
        rw [HDV.out] at this
        exact this
      have z6 : (itoaB (m : Int)).size ≤ 21 := itoaB_size (by omega) (by omega)
      generalize itoaB (m : Int) = dm at *
      have y3 : (⟨#[111, 107, 32]⟩ : ByteArray).size = 3 := rfl
      have q8 : ¬ (9223372036854775807 < (⟨#[111, 107, 32]⟩ : ByteArray).size + dm.size) := by simp only [y3]; omega
      have q9 : ¬ (9223372036854775807 < (⟨#[111, 107, 32]⟩ : ByteArray).size + dv.size) := by simp only [y3]; omega
      have q10 : ¬ (9223372036854775807 < 3 + dm.size) := by omega
      have q11 : ¬ (9223372036854775807 < 3 + dv.size) := by omega
      have q12 : 3 + dm.size ≤ 9223372036854775807 := by omega
      have q13 : 3 + dv.size ≤ 9223372036854775807 := by omega
      have e4 : IntKind.i64.wrap (m : Int) = (m : Int) := IntWalk.i64_in _ (by omega)
      have e5 : ((m : Int) == IntKind.u64.wrap (IntKind.i64.wrap (m : Int))) = true := by rw [e4, hmw]; simp
      have e7 : (1 : Int) < (rn : Int) := by omega
      have e8 : (0 : Int) < (rn : Int) := by omega
      have e9 : 1 < rn := by omega
      have e10 : 0 < rn := by omega
      have e11 : ¬ rn = 0 := by omega
      have e12 : ¬ (rn : Int) = 0 := by omega
      have e6 : ((v : Int) == IntKind.u64.wrap (v : Int)) = true := by rw [hvw]; simp
      clear y3
      clear hm hk6 hT9
      clear HDP HDG HDX HTx8 HRT HoL HO8 HOr HNine HD1 HD2 HD3 HD4 HD5 q1 q2 q3 q4 q5 q6 q7
      go_wp2_with fail
      go_quiet (first | (refine (HD6.out _).mono ?_; rintro e w' ⟨rfl, rfl⟩; exact ⟨rfl, _, rfl⟩) | (refine (HD7.out _ (by exact hg9)).mono ?_; rintro e w' ⟨rfl, rfl⟩; exact ⟨rfl, _, rfl⟩))
      go_wp2
      go_ret
      exact ⟨by first | rfl | simp, below_drewN (below_step hb08 hb19) _⟩
end Go.Proofs.YtfikonmhbhcejaaGreatDoor

namespace Go.Proofs.YtfikonmhbhcejaaGreatDoor
open Go.ChangeShapes Go.WideShapes Go.ChangeAt Go.RowKit Go.Joins Go.Deep
instance : Inhabited OpV := ⟨⟨0, 0, 0, 0, 0⟩⟩
end Go.Proofs.YtfikonmhbhcejaaGreatDoor

namespace Go.Proofs.YtfikonmhbhcejaaGreatDoor
end Go.Proofs.YtfikonmhbhcejaaGreatDoor

namespace Go.Proofs.YtfikonmhbhcejaaGreatDoor
open Go.ChangeShapes Go.WideShapes Go.ChangeAt Go.RowKit
end Go.Proofs.YtfikonmhbhcejaaGreatDoor
